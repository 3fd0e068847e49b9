/- Contracts: potentials, two ways. No condition. -/
import Derived.Test.YtlpahmefebgdlaaNy
namespace Go.Proofs.Ytlpahmefebgdlaa.Fx
open Go Go.RowKit

def powN (x y : F32) : F32 := narrow (powerW x y)
theorem ePowerOf_run (x y : F32) (hx : fits (powerW x y) = true) : run Try.prog [ePower] Try.f65 [.c (.cx .f32 x y)] [] = some (.c (.fl .f32 (powN x y))) := by
  have h : run Try.prog [ePower] Try.f65 [.c (.cx .f32 x y)] [] = bif fits (powerW x y) then some (.c (.fl .f32 (powN x y))) else none := by kernel_rfl
  rw [h, hx]; rfl
def ePowerOf : Entry Try.prog := { f := 65, fn := shC fun x y => (fits (powerW x y), .c (.fl .f32 (powN x y))), ok := okC (E := [ePower]) Try.func65 (by kernel_rfl) fun x y h => ePowerOf_run x y h }
-- the potential of a frame
def shFr (g : F32 → F32 → F32 → F32 → F32 → F32 → Bool × AV) : List AV → List (List AC) → Option (Bool × AV)
  | [.agg [.cx .f32 _ _, .cx .f32 _ _, .cx .f32 x y, .fl .f32 r, .fl .f32 s, .fl .f32 a, .fl .f32 b, .fl .f32 _, .fl .f32 _]], _ => some (g x y r s a b)
  | _, _ => none
theorem okFr {P : Program} {E : List (Entry P)} {f : FuncId} {fn : Func} {g : F32 → F32 → F32 → F32 → F32 → F32 → Bool × AV} (hf : P.funcs[f]? = some fn) (hn : (fn.name == "runtime.NumGoroutine") = false)
    (h : ∀ (d0 d1 e0 e1 x y r s a b f0 g0 : F32), (g x y r s a b).1 = true → runP P E fn [.agg [.cx .f32 d0 d1, .cx .f32 e0 e1, .cx .f32 x y, .fl .f32 r, .fl .f32 s, .fl .f32 a, .fl .f32 b, .fl .f32 f0, .fl .f32 g0]] [] = some (g x y r s a b).2) :
    EOk P f (shFr g) := by
  intro args M q hr σ vs w _ ha
  unfold shFr at hr
  split at hr
  · rename_i d0 d1 e0 e1 x y r s a b f0 g0
    have hr' := Option.some.inj hr
    have h1 := h d0 d1 e0 e1 x y r s a b f0 g0 (by rw [hr'])
    rw [hr'] at h1
    exact gives0P hf hn rfl h1 ha
  · cases hr
def potW (x y r s a b : F32) : F32 := (c32 1056964608 * powN x y + a / r) + b / s
theorem ePotential_run (d0 d1 e0 e1 x y r s a b f0 g0 : F32) (hx : fits (powerW x y) = true) : runP Try.prog [ePowerOf] Try.f64 [.agg [.cx .f32 d0 d1, .cx .f32 e0 e1, .cx .f32 x y, .fl .f32 r, .fl .f32 s, .fl .f32 a, .fl .f32 b, .fl .f32 f0, .fl .f32 g0]] [] = some (.c (.fl .f32 (potW x y r s a b))) := by
  have h : runP Try.prog [ePowerOf] Try.f64 [.agg [.cx .f32 d0 d1, .cx .f32 e0 e1, .cx .f32 x y, .fl .f32 r, .fl .f32 s, .fl .f32 a, .fl .f32 b, .fl .f32 f0, .fl .f32 g0]] [] = bif fits (powerW x y) then some (.c (.fl .f32 (potW x y r s a b))) else none := by kernel_rfl
  rw [h, hx]; rfl
def ePotential : Entry Try.prog := { f := 64, fn := shFr fun x y r s a b => (fits (powerW x y), .c (.fl .f32 (potW x y r s a b))), ok := okFr (E := [ePowerOf]) Try.func64 (by kernel_rfl) fun d0 d1 e0 e1 x y r s a b f0 g0 h => ePotential_run d0 d1 e0 e1 x y r s a b f0 g0 h }
def pot (s x y : F32) : F32 := potW x y (fr s x y) (fs s x y) (one32 - s) s
def potFit (s x y : F32) : Bool := frFit s x y && fits (powerW x y)
def paV (s x y : F32) : F32 := bif isPt s x y then giveV (pot s x y) else c32 0
def paB (s x y : F32) : Bool := bif isPt s x y then giveB (pot s x y) else false
theorem ePotAt_run (s x y : F32) (hx : (!(isPt s x y) || potFit s x y) = true) : runP Try.prog [eIsPoint, eFrame, ePotential, eTold] Try.f22 [.c (.fl .f32 s), .c (.cx .f32 x y)] [] = some (.tup [.fl .f32 (paV s x y), .sb (paB s x y)]) := by
  have h : runP Try.prog [eIsPoint, eFrame, ePotential, eTold] Try.f22 [.c (.fl .f32 s), .c (.cx .f32 x y)] [] = bif !(isPt s x y) then some (.tup [.fl .f32 (c32 0), .sb false]) else
    bif frFit s x y then (bif fits (powerW x y) then some (.tup [.fl .f32 (toldV (pot s x y)), .sb (toldB (pot s x y))]) else none) else none := by kernel_rfl
  rw [h, (told_give _).1, (told_give _).2]
  unfold paV paB
  cases h1 : isPt s x y
  · rfl
  · rw [h1] at hx
    have h2 : potFit s x y = true := hx
    unfold potFit at h2
    rw [Bool.and_eq_true] at h2
    rw [h2.1, h2.2]; rfl
def ePotAt : Entry Try.prog := { f := 22, fn := shSC fun s x y => (!(isPt s x y) || potFit s x y, .tup [.fl .f32 (paV s x y), .sb (paB s x y)]), ok := okSCP (E := [eIsPoint, eFrame, ePotential, eTold]) Try.func22 (by kernel_rfl) fun s x y h => ePotAt_run s x y h }

theorem pow_fits {x y : F32} (hx : UpS 40 x) (hy : UpS 40 y) : fits (powerW x y) = true :=
  (((hx.widen.mul hx.widen (by decide) (by decide)).add (hy.widen.mul hy.widen (by decide) (by decide)) (by decide) (by decide)).mono (by decide)).narrow.1
theorem pot_fit {s x y : F32} (hs : UpS 0 s) (hx : UpS 40 x) (hy : UpS 40 y) : potFit s x y = true := by
  unfold potFit
  rw [fr_fit (hs.mono (by decide)) (hx.mono (by decide)) (hy.mono (by decide)), pow_fits hx hy]; rfl

end Go.Proofs.Ytlpahmefebgdlaa.Fx
