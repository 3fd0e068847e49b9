/- Contracts: frames, slopes, potentials, two ways. No condition. -/
import Derived.Test.YtlpahmefebgdlaaEr
import Derived.Test.YtlpahmefebgdlaaCh
namespace Go.Proofs.Ytlpahmefebgdlaa.Fx
open Go Go.RowKit

def cx32 (x y : F32) : AC := .cx .f32 x y
def powerW (x y : F32) : F64 := widen x * widen x + widen y * widen y
def longF (x y : F32) : F64 := sqrt (powerW x y)
def long (x y : F32) : F32 := narrow (longF x y)
def eParts : Entry Try.prog := { f := 116, fn := shC fun x y => (true, .tup [.fl .f64 (widen x), .fl .f64 (widen y)]), ok := okC (E := []) Try.func116 (by kernel_rfl) fun x y _ => by kernel_rfl }
def ePower : Entry Try.prog := { f := 67, fn := shC fun x y => rD (powerW x y), ok := okC (E := [eParts]) Try.func67 (by kernel_rfl) fun x y _ => by kernel_rfl }
theorem eLong_run (x y : F32) (hx : fits (longF x y) = true) : run Try.prog [ePower, eSqrt] Try.f16 [.c (.cx .f32 x y)] [] = some (.c (.fl .f32 (long x y))) := by
  have h : run Try.prog [ePower, eSqrt] Try.f16 [.c (.cx .f32 x y)] [] = bif fits (longF x y) then some (.c (.fl .f32 (long x y))) else none := by kernel_rfl
  rw [h, hx]; rfl
def eLong : Entry Try.prog := { f := 16, fn := shC fun x y => (fits (longF x y), .c (.fl .f32 (long x y))), ok := okC (E := [ePower, eSqrt]) Try.func16 (by kernel_rfl) fun x y h => eLong_run x y h }
def cube (x : F32) : F32 := (x * x) * x
def eCube : Entry Try.prog := { f := 114, fn := shS fun x => rS (cube x), ok := okS (E := []) Try.func114 (by kernel_rfl) fun x _ => by kernel_rfl }
def eLess : Entry Try.prog := { f := 70, fn := shCC fun x y u v => rC (x - u) (y - v), ok := okCC (E := []) Try.func70 (by kernel_rfl) fun x y u v _ => by kernel_rfl }
def eScale : Entry Try.prog := { f := 71, fn := shCS fun x y s => rC (x * s) (y * s), ok := okCS (E := []) Try.func71 (by kernel_rfl) fun x y s _ => by kernel_rfl }
def cfin (x y : F32) : Bool := finS x && finS y
theorem eCFin_run (x y : F32) : run Try.prog [eIsFinite] Try.f101 [.c (.cx .f32 x y)] [] = some (.c (.sb (cfin x y))) := by
  unfold cfin; rw [← fin_eq, ← fin_eq, push_and]; kernel_rfl
def eCFin : Entry Try.prog := { f := 101, fn := shC fun x y => rB (cfin x y), ok := okC (E := [eIsFinite]) Try.func101 (by kernel_rfl) fun x y _ => eCFin_run x y }
def isPt (s x y : F32) : Bool := isShare s && cfin x y
theorem eIsPoint_run (s x y : F32) : run Try.prog [eIsShare, eCFin] Try.f69 [.c (.fl .f32 s), .c (.cx .f32 x y)] [] = some (.c (.sb (isPt s x y))) := by
  unfold isPt; rw [push_and]; kernel_rfl
def eIsPoint : Entry Try.prog := { f := 69, fn := shSC fun s x y => rB (isPt s x y), ok := okSC (E := [eIsShare, eCFin]) Try.func69 (by kernel_rfl) fun s x y _ => eIsPoint_run s x y }
def tcX (x y : F32) : F32 := bif cfin x y then x else c32 0
def tcY (x y : F32) : F32 := bif cfin x y then y else c32 0
theorem push_c (c : Bool) (a b a' b' : F32) (d e : Bool) : some (AV.tup [.cx .f32 (bif c then a else b) (bif c then a' else b'), .sb (bif c then d else e)]) = bif c then some (.tup [.cx .f32 a a', .sb d]) else some (.tup [.cx .f32 b b', .sb e]) := by cases c <;> rfl
theorem eToldC_run (x y : F32) : run Try.prog [eCFin] Try.f60 [.c (.cx .f32 x y)] [] = some (.tup [.cx .f32 (tcX x y) (tcY x y), .sb (cfin x y)]) := by
  have h : run Try.prog [eCFin] Try.f60 [.c (.cx .f32 x y)] [] = bif !(cfin x y) then some (.tup [.cx .f32 (c32 0) (c32 0), .sb false]) else some (.tup [.cx .f32 x y, .sb true]) := by kernel_rfl
  rw [h]; unfold tcX tcY; cases cfin x y <;> rfl
def eToldC : Entry Try.prog := { f := 60, fn := shC fun x y => (true, .tup [.cx .f32 (tcX x y) (tcY x y), .sb (cfin x y)]), ok := okC (E := [eCFin]) Try.func60 (by kernel_rfl) fun x y _ => eToldC_run x y }

-- frames
def fdx (s x : F32) : F32 := x - (-s)
def fex (s x : F32) : F32 := x - (one32 - s)
def fy (y : F32) : F32 := y - c32 0
def frFit (s x y : F32) : Bool := fits (longF (fdx s x) (fy y)) && fits (longF (fex s x) (fy y))
def fr (s x y : F32) : F32 := long (fdx s x) (fy y)
def fs (s x y : F32) : F32 := long (fex s x) (fy y)
def ff (s x y : F32) : F32 := (one32 - s) / cube (fr s x y)
def fg (s x y : F32) : F32 := s / cube (fs s x y)
def frame (s x y : F32) : AV := .agg [.cx .f32 (fdx s x) (fy y), .cx .f32 (fex s x) (fy y), .cx .f32 x y, .fl .f32 (fr s x y), .fl .f32 (fs s x y), .fl .f32 (one32 - s), .fl .f32 s, .fl .f32 (ff s x y), .fl .f32 (fg s x y)]
theorem okSCP {P : Program} {E : List (Entry P)} {f : FuncId} {fn : Func} {g : F32 → F32 → F32 → Bool × AV} (hf : P.funcs[f]? = some fn) (hn : (fn.name == "runtime.NumGoroutine") = false)
    (h : ∀ (x0 : F32) (x1 : F32) (x2 : F32), (g x0 x1 x2).1 = true → runP P E fn [.c (.fl .f32 x0), .c (.cx .f32 x1 x2)] [] = some (g x0 x1 x2).2) :
    EOk P f (shSC g) := by
  intro args M r hr σ vs w _ ha
  unfold shSC at hr
  split at hr
  · rename_i x0 x1 x2
    have hr' := Option.some.inj hr
    have h1 := h x0 x1 x2 (by rw [hr'])
    rw [hr'] at h1
    exact gives0P hf hn rfl h1 ha
  · cases hr
theorem eFrame_run (s x y : F32) (hx : frFit s x y = true) : runP Try.prog [eLess, eLong, eCube] Try.f63 [.c (.fl .f32 s), .c (.cx .f32 x y)] [] = some (frame s x y) := by
  have h : runP Try.prog [eLess, eLong, eCube] Try.f63 [.c (.fl .f32 s), .c (.cx .f32 x y)] [] = bif fits (longF (fdx s x) (fy y)) then (bif fits (longF (fex s x) (fy y)) then some (frame s x y) else none) else none := by kernel_rfl
  unfold frFit at hx
  rw [Bool.and_eq_true] at hx
  rw [h, hx.1, hx.2]; rfl
def eFrame : Entry Try.prog := { f := 63, fn := shSC fun s x y => (frFit s x y, frame s x y), ok := okSCP (E := [eLess, eLong, eCube]) Try.func63 (by kernel_rfl) fun s x y h => eFrame_run s x y h }

-- slopes
def slX (s x y : F32) : F32 := (x - fdx s x * ff s x y) - fex s x * fg s x y
def slY (s x y : F32) : F32 := (y - fy y * ff s x y) - fy y * fg s x y
def slFin (s x y : F32) : Bool := cfin (slX s x y) (slY s x y)
theorem eSlope_run (s x y : F32) (hx : (!(isPt s x y) || frFit s x y) = true) : runP Try.prog [eIsPoint, eFrame, eScale, eLess, eToldC] Try.f20 [.c (.fl .f32 s), .c (.cx .f32 x y)] [] =
    some (.tup [.cx .f32 (bif isPt s x y then tcX (slX s x y) (slY s x y) else c32 0) (bif isPt s x y then tcY (slX s x y) (slY s x y) else c32 0), .sb (isPt s x y && slFin s x y)]) := by
  have h : runP Try.prog [eIsPoint, eFrame, eScale, eLess, eToldC] Try.f20 [.c (.fl .f32 s), .c (.cx .f32 x y)] [] = bif !(isPt s x y) then some (.tup [.cx .f32 (c32 0) (c32 0), .sb false]) else
    bif frFit s x y then some (.tup [.cx .f32 (tcX (slX s x y) (slY s x y)) (tcY (slX s x y) (slY s x y)), .sb (slFin s x y)]) else none := by kernel_rfl
  rw [h]
  cases h1 : isPt s x y
  · rfl
  · rw [h1] at hx
    have h2 : frFit s x y = true := hx
    rw [h2]; rfl
def eSlope : Entry Try.prog := { f := 20, fn := shSC fun s x y => (!(isPt s x y) || frFit s x y, .tup [.cx .f32 (bif isPt s x y then tcX (slX s x y) (slY s x y) else c32 0) (bif isPt s x y then tcY (slX s x y) (slY s x y) else c32 0), .sb (isPt s x y && slFin s x y)]), ok := okSCP (E := [eIsPoint, eFrame, eScale, eLess, eToldC]) Try.func20 (by kernel_rfl) fun s x y h => eSlope_run s x y h }
end Go.Proofs.Ytlpahmefebgdlaa.Fx
