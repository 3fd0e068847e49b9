/- Contracts: ships at points, pushes, constants, speeds. No condition. -/
import Derived.Test.YtlpahmefebgdlaaCo
namespace Go.Proofs.Ytlpahmefebgdlaa.Fx
open Go Go.RowKit

def eConj : Entry Try.prog := { f := 21, fn := shC fun x y => rC x (-y), ok := okC (E := []) Try.func21 (by kernel_rfl) fun x y _ => by kernel_rfl }
def ePlus : Entry Try.prog := { f := 61, fn := shCC fun x y u v => rC (x + u) (y + v), ok := okCC (E := []) Try.func61 (by kernel_rfl) fun x y u v _ => by kernel_rfl }
theorem eRootN_run (x : F32) (hx : fits (sqrt (widen x)) = true) : run Try.prog [eSqrt] Try.f74 [.c (.fl .f32 x)] [] = some (.c (.fl .f32 (narrow (sqrt (widen x))))) := by
  have h : run Try.prog [eSqrt] Try.f74 [.c (.fl .f32 x)] [] = bif fits (sqrt (widen x)) then some (.c (.fl .f32 (narrow (sqrt (widen x))))) else none := by kernel_rfl
  rw [h, hx]; rfl
def eRootN : Entry Try.prog := { f := 74, fn := shS fun x => (fits (sqrt (widen x)), .c (.fl .f32 (narrow (sqrt (widen x))))), ok := okS (E := [eSqrt]) Try.func74 (by kernel_rfl) fun x h => eRootN_run x h }
theorem eApart_run (x y u v : F32) (hx : fits (longF (x - u) (y - v)) = true) : run Try.prog [eLong] Try.f18 [.c (.cx .f32 x y), .c (.cx .f32 u v)] [] = some (.c (.fl .f64 (widen (long (x - u) (y - v))))) := by
  have h : run Try.prog [eLong] Try.f18 [.c (.cx .f32 x y), .c (.cx .f32 u v)] [] = bif fits (longF (x - u) (y - v)) then some (.c (.fl .f64 (widen (long (x - u) (y - v))))) else none := by kernel_rfl
  rw [h, hx]; rfl
def eApart : Entry Try.prog := { f := 18, fn := shCC fun x y u v => (fits (longF (x - u) (y - v)), .c (.fl .f64 (widen (long (x - u) (y - v))))), ok := okCC (E := [eLong]) Try.func18 (by kernel_rfl) fun x y u v h => eApart_run x y u v h }

-- ships
def shSh (g : F32 → F32 → F32 → F32 → Bool × AV) : List AV → List (List AC) → Option (Bool × AV)
  | [.agg [.cx .f32 x y, .cx .f32 u v]], _ => some (g x y u v)
  | _, _ => none
theorem okSh {P : Program} {E : List (Entry P)} {f : FuncId} {fn : Func} {g : F32 → F32 → F32 → F32 → Bool × AV} (hf : P.funcs[f]? = some fn) (hn : (fn.name == "runtime.NumGoroutine") = false)
    (h : ∀ (x y u v : F32), (g x y u v).1 = true → runP P E fn [.agg [.cx .f32 x y, .cx .f32 u v]] [] = some (g x y u v).2) : EOk P f (shSh g) := by
  intro args M q hr σ vs w _ ha
  unfold shSh at hr
  split at hr
  · rename_i x y u v
    have hr' := Option.some.inj hr
    have h1 := h x y u v (by rw [hr'])
    rw [hr'] at h1
    exact gives0P hf hn rfl h1 ha
  · cases hr
def shSSh (g : F32 → F32 → F32 → F32 → F32 → Bool × AV) : List AV → List (List AC) → Option (Bool × AV)
  | [.c (.fl .f32 s), .agg [.cx .f32 x y, .cx .f32 u v]], _ => some (g s x y u v)
  | _, _ => none
theorem okSSh {P : Program} {E : List (Entry P)} {f : FuncId} {fn : Func} {g : F32 → F32 → F32 → F32 → F32 → Bool × AV} (hf : P.funcs[f]? = some fn) (hn : (fn.name == "runtime.NumGoroutine") = false)
    (h : ∀ (s x y u v : F32), (g s x y u v).1 = true → runP P E fn [.c (.fl .f32 s), .agg [.cx .f32 x y, .cx .f32 u v]] [] = some (g s x y u v).2) : EOk P f (shSSh g) := by
  intro args M q hr σ vs w _ ha
  unfold shSSh at hr
  split at hr
  · rename_i s x y u v
    have hr' := Option.some.inj hr
    have h1 := h s x y u v (by rw [hr'])
    rw [hr'] at h1
    exact gives0P hf hn rfl h1 ha
  · cases hr
def vShip (x y u v : F32) : Bool := cfin x y && cfin u v
theorem eVShip_run (x y u v : F32) : runP Try.prog [eCFin] Try.f59 [.agg [.cx .f32 x y, .cx .f32 u v]] [] = some (.c (.sb (vShip x y u v))) := by
  unfold vShip; rw [push_and]; kernel_rfl
def eVShip : Entry Try.prog := { f := 59, fn := shSh fun x y u v => rB (vShip x y u v), ok := okSh (E := [eCFin]) Try.func59 (by kernel_rfl) fun x y u v _ => eVShip_run x y u v }
def coW (s x y u v : F32) : F32 := two32 * pot s x y - powN u v
def coOk (s x y u v : F32) : Bool := isShare s && vShip x y u v
theorem eConst_run (s x y u v : F32) (hx : (!(coOk s x y u v) || (potFit s x y && fits (powerW u v))) = true) : runP Try.prog [eIsShare, eVShip, eFrame, ePotential, ePowerOf, eTold] Try.f15 [.c (.fl .f32 s), .agg [.cx .f32 x y, .cx .f32 u v]] [] =
    some (.tup [.fl .f32 (bif coOk s x y u v then giveV (coW s x y u v) else c32 0), .sb (bif coOk s x y u v then giveB (coW s x y u v) else false)]) := by
  have h : runP Try.prog [eIsShare, eVShip, eFrame, ePotential, ePowerOf, eTold] Try.f15 [.c (.fl .f32 s), .agg [.cx .f32 x y, .cx .f32 u v]] [] = bif !(isShare s) then Zr else bif !(vShip x y u v) then Zr else
    bif frFit s x y then (bif fits (powerW x y) then (bif fits (powerW u v) then some (.tup [.fl .f32 (toldV (coW s x y u v)), .sb (toldB (coW s x y u v))]) else none) else none) else none := by kernel_rfl
  rw [h, (told_give _).1, (told_give _).2]
  unfold coOk at hx ⊢
  cases h1 : isShare s
  · rfl
  · cases h2 : vShip x y u v
    · rfl
    · rw [h1, h2] at hx
      have h3 : (potFit s x y && fits (powerW u v)) = true := hx
      unfold potFit at h3
      simp only [Bool.and_eq_true] at h3
      rw [h3.1.1, h3.1.2, h3.2]; rfl
def eConst : Entry Try.prog := { f := 15, fn := shSSh fun s x y u v => (!(coOk s x y u v) || (potFit s x y && fits (powerW u v)), .tup [.fl .f32 (bif coOk s x y u v then giveV (coW s x y u v) else c32 0), .sb (bif coOk s x y u v then giveB (coW s x y u v) else false)]), ok := okSSh (E := [eIsShare, eVShip, eFrame, ePotential, ePowerOf, eTold]) Try.func15 (by kernel_rfl) fun s x y u v h => eConst_run s x y u v h }

end Go.Proofs.Ytlpahmefebgdlaa.Fx
