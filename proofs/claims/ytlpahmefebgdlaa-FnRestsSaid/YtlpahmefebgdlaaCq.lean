/- Contracts: pushes, bends, sways. No condition. -/
import Derived.Test.YtlpahmefebgdlaaCp
namespace Go.Proofs.Ytlpahmefebgdlaa.Fx
open Go Go.RowKit

-- pushes
def saX (s x y : F32) : F32 := bif isPt s x y then tcX (slX s x y) (slY s x y) else c32 0
def saY (s x y : F32) : F32 := bif isPt s x y then tcY (slX s x y) (slY s x y) else c32 0
def saB (s x y : F32) : Bool := isPt s x y && slFin s x y
def puX (s x y v : F32) : F32 := saX s x y + two32 * v
def puY (s x y u : F32) : F32 := saY s x y + c32 3221225472 * u
def puOk (s x y u v : F32) : Bool := saB s x y && vShip x y u v
def saFit (s x y : F32) : Bool := !(isPt s x y) || frFit s x y
theorem ePush_run (s x y u v : F32) (hx : saFit s x y = true) : runP Try.prog [eSlope, eVShip, ePlus, eToldC] Try.f14 [.c (.fl .f32 s), .agg [.cx .f32 x y, .cx .f32 u v]] [] =
    some (.tup [.cx .f32 (bif puOk s x y u v then tcX (puX s x y v) (puY s x y u) else c32 0) (bif puOk s x y u v then tcY (puX s x y v) (puY s x y u) else c32 0), .sb (puOk s x y u v && cfin (puX s x y v) (puY s x y u))]) := by
  have h : runP Try.prog [eSlope, eVShip, ePlus, eToldC] Try.f14 [.c (.fl .f32 s), .agg [.cx .f32 x y, .cx .f32 u v]] [] = bif saFit s x y then (bif !(saB s x y) then some (.tup [.cx .f32 (c32 0) (c32 0), .sb false]) else
    bif !(vShip x y u v) then some (.tup [.cx .f32 (c32 0) (c32 0), .sb false]) else some (.tup [.cx .f32 (tcX (puX s x y v) (puY s x y u)) (tcY (puX s x y v) (puY s x y u)), .sb (cfin (puX s x y v) (puY s x y u))])) else none := by kernel_rfl
  rw [h, hx]
  unfold puOk
  cases saB s x y
  · rfl
  · cases vShip x y u v <;> rfl
def ePush : Entry Try.prog := { f := 14, fn := shSSh fun s x y u v => (saFit s x y, .tup [.cx .f32 (bif puOk s x y u v then tcX (puX s x y v) (puY s x y u) else c32 0) (bif puOk s x y u v then tcY (puX s x y v) (puY s x y u) else c32 0), .sb (puOk s x y u v && cfin (puX s x y v) (puY s x y u))]), ok := okSSh (E := [eSlope, eVShip, ePlus, eToldC]) Try.func14 (by kernel_rfl) fun s x y u v h => ePush_run s x y u v h }
-- bends
def bend (f p q r : F32) : F32 := (c32 1077936128 * f * p * q) / (r * r)
def eBend : Entry Try.prog := { f := 72, fn := shSSSS fun f p q r => rS (bend f p q r), ok := okSSSS (E := []) Try.func72 (by kernel_rfl) fun f p q r _ => by kernel_rfl }
def beXX (s x y : F32) : F32 := (one32 - ff s x y - fg s x y) + bend (ff s x y) (fdx s x) (fdx s x) (fr s x y) + bend (fg s x y) (fex s x) (fex s x) (fs s x y)
def beXY (s x y : F32) : F32 := bend (ff s x y) (fdx s x) (fy y) (fr s x y) + bend (fg s x y) (fex s x) (fy y) (fs s x y)
def beYY (s x y : F32) : F32 := (one32 - ff s x y - fg s x y) + bend (ff s x y) (fy y) (fy y) (fr s x y) + bend (fg s x y) (fy y) (fy y) (fs s x y)
def beF (s x y : F32) : Bool := !decide (idx3 (beXX s x y) (beXY s x y) (beYY s x y) ≥ 0)
def ZrB : AV := .tup [.fl .f32 (c32 0), .fl .f32 (c32 0), .fl .f32 (c32 0), .sb false]
theorem eBends_raw (s x y : F32) : runP Try.prog [eIsPoint, eFrame, eBend, eAreFinite3] Try.f23 [.c (.fl .f32 s), .c (.cx .f32 x y)] [] =
    bif !(isPt s x y) then some ZrB else bif frFit s x y then (bif !(beF s x y) then some ZrB else some (.tup [.fl .f32 (beXX s x y), .fl .f32 (beXY s x y), .fl .f32 (beYY s x y), .sb true])) else none := by kernel_rfl
def beOk (s x y : F32) : Bool := isPt s x y && beF s x y
theorem eBends_run (s x y : F32) (hx : saFit s x y = true) : runP Try.prog [eIsPoint, eFrame, eBend, eAreFinite3] Try.f23 [.c (.fl .f32 s), .c (.cx .f32 x y)] [] =
    some (.tup [.fl .f32 (bif beOk s x y then beXX s x y else c32 0), .fl .f32 (bif beOk s x y then beXY s x y else c32 0), .fl .f32 (bif beOk s x y then beYY s x y else c32 0), .sb (beOk s x y)]) := by
  rw [eBends_raw]
  unfold saFit at hx
  unfold beOk
  cases h1 : isPt s x y
  · rfl
  · rw [h1] at hx
    have h2 : frFit s x y = true := hx
    rw [h2]
    cases beF s x y <;> rfl
def eBends : Entry Try.prog := { f := 23, fn := shSC fun s x y => (saFit s x y, .tup [.fl .f32 (bif beOk s x y then beXX s x y else c32 0), .fl .f32 (bif beOk s x y then beXY s x y else c32 0), .fl .f32 (bif beOk s x y then beYY s x y else c32 0), .sb (beOk s x y)]), ok := okSCP (E := [eIsPoint, eFrame, eBend, eAreFinite3]) Try.func23 (by kernel_rfl) fun s x y h => eBends_run s x y h }
-- speeds
def spW (s x y c : F32) : F32 := two32 * pot s x y - c
def spV (s x y c : F32) : F32 := narrow (sqrt (widen (spW s x y c)))
def spOk (s x y c : F32) : Bool := isPt s x y && isFinite c
def shSCS (g : F32 → F32 → F32 → F32 → Bool × AV) : List AV → List (List AC) → Option (Bool × AV)
  | [.c (.fl .f32 s), .c (.cx .f32 x y), .c (.fl .f32 c)], _ => some (g s x y c)
  | _, _ => none
theorem okSCSP {P : Program} {E : List (Entry P)} {f : FuncId} {fn : Func} {g : F32 → F32 → F32 → F32 → Bool × AV} (hf : P.funcs[f]? = some fn) (hn : (fn.name == "runtime.NumGoroutine") = false)
    (h : ∀ (s x y c : F32), (g s x y c).1 = true → runP P E fn [.c (.fl .f32 s), .c (.cx .f32 x y), .c (.fl .f32 c)] [] = some (g s x y c).2) : EOk P f (shSCS g) := by
  intro args M q hr σ vs w _ ha
  unfold shSCS at hr
  split at hr
  · rename_i s x y c
    have hr' := Option.some.inj hr
    have h1 := h s x y c (by rw [hr'])
    rw [hr'] at h1
    exact gives0P hf hn rfl h1 ha
  · cases hr
theorem eSpeed_raw (s x y c : F32) : runP Try.prog [eIsPoint, eIsFinite, eFrame, ePotential, eRootN, eTold] Try.f24 [.c (.fl .f32 s), .c (.cx .f32 x y), .c (.fl .f32 c)] [] =
    bif !(isPt s x y) then Zr else bif !(isFinite c) then Zr else bif frFit s x y then (bif fits (powerW x y) then (bif lt (spW s x y c) (c32 0) then Zr else bif fits (sqrt (widen (spW s x y c))) then
      some (.tup [.fl .f32 (toldV (spV s x y c)), .sb (toldB (spV s x y c))]) else none) else none) else none := by kernel_rfl
def spFit (s x y c : F32) : Bool := potFit s x y && fits (sqrt (widen (spW s x y c)))
theorem eSpeed_run (s x y c : F32) (hx : (!(spOk s x y c) || spFit s x y c) = true) : runP Try.prog [eIsPoint, eIsFinite, eFrame, ePotential, eRootN, eTold] Try.f24 [.c (.fl .f32 s), .c (.cx .f32 x y), .c (.fl .f32 c)] [] =
    some (.tup [.fl .f32 (bif spOk s x y c then (bif lt (spW s x y c) (c32 0) then c32 0 else toldV (spV s x y c)) else c32 0), .sb (bif spOk s x y c then (bif lt (spW s x y c) (c32 0) then false else toldB (spV s x y c)) else false)]) := by
  rw [eSpeed_raw]
  unfold spOk at hx ⊢
  cases h1 : isPt s x y
  · rfl
  · cases h2 : isFinite c
    · rfl
    · rw [h1, h2] at hx
      have h3 : spFit s x y c = true := hx
      unfold spFit potFit at h3
      simp only [Bool.and_eq_true] at h3
      rw [h3.1.1, h3.1.2, h3.2]
      cases lt (spW s x y c) (c32 0) <;> rfl
def eSpeed : Entry Try.prog := { f := 24, fn := shSCS fun s x y c => (!(spOk s x y c) || spFit s x y c, .tup [.fl .f32 (bif spOk s x y c then (bif lt (spW s x y c) (c32 0) then c32 0 else toldV (spV s x y c)) else c32 0), .sb (bif spOk s x y c then (bif lt (spW s x y c) (c32 0) then false else toldB (spV s x y c)) else false)]), ok := okSCSP (E := [eIsPoint, eIsFinite, eFrame, ePotential, eRootN, eTold]) Try.func24 (by kernel_rfl) fun s x y c h => eSpeed_run s x y c h }
-- sways
def bxx (s x y : F32) : F32 := bif beOk s x y then beXX s x y else c32 0
def bxy (s x y : F32) : F32 := bif beOk s x y then beXY s x y else c32 0
def byy (s x y : F32) : F32 := bif beOk s x y then beYY s x y else c32 0
def swPp (s x y : F32) : F32 := c32 1056964608 * ((c32 1082130432 - bxx s x y) - byy s x y)
def swQ (s x y : F32) : F32 := bxx s x y * byy s x y - bxy s x y * bxy s x y
def swD (s x y : F32) : F32 := swPp s x y * swPp s x y - swQ s x y
def rootN (x : F32) : F32 := narrow (sqrt (widen x))
def swA (s x y : F32) : F32 := -(swPp s x y) + rootN (swD s x y)
def swBb (s x y : F32) : F32 := -(swPp s x y) - rootN (swD s x y)
def ZrS : AV := .tup [.cx .f32 (c32 0) (c32 0), .cx .f32 (c32 0) (c32 0), .sb false]
def swFin (a b c d : F32) : Option AV := bif !(cfin a b) then some ZrS else bif !(cfin c d) then some ZrS else some (.tup [.cx .f32 a b, .cx .f32 c d, .sb true])
theorem eSways_raw (s x y : F32) : runP Try.prog [eBends, eRootN, eCFin] Try.f68 [.c (.fl .f32 s), .c (.cx .f32 x y)] [] =
    bif saFit s x y then (bif !(beOk s x y) then some ZrS else bif fits (sqrt (widen (swD s x y))) then (bif fits (sqrt (widen (swD s x y))) then
      (bif !(ge (swD s x y) (c32 0)) then (bif fits (sqrt (widen (-(swD s x y)))) then (bif fits (sqrt (widen (-(swD s x y)))) then swFin (-(swPp s x y)) (rootN (-(swD s x y))) (-(swPp s x y)) (-(rootN (-(swD s x y)))) else none) else none)
      else swFin (swA s x y) (c32 0) (swBb s x y) (c32 0)) else none) else none) else none := by kernel_rfl
def swS (s x y : F32) : Bool := ge (swD s x y) (c32 0)
def swAx (s x y : F32) : F32 := bif swS s x y then swA s x y else -(swPp s x y)
def swAy (s x y : F32) : F32 := bif swS s x y then c32 0 else rootN (-(swD s x y))
def swBx (s x y : F32) : F32 := bif swS s x y then swBb s x y else -(swPp s x y)
def swBy (s x y : F32) : F32 := bif swS s x y then c32 0 else -(rootN (-(swD s x y)))
def swyOk (s x y : F32) : Bool := beOk s x y && (cfin (swAx s x y) (swAy s x y) && cfin (swBx s x y) (swBy s x y))
def swFit (s x y : F32) : Bool := saFit s x y && (!(beOk s x y) || (fits (sqrt (widen (swD s x y))) && (swS s x y || fits (sqrt (widen (-(swD s x y)))))))
def swT (s x y : F32) : AV := .tup [.cx .f32 (bif swyOk s x y then swAx s x y else c32 0) (bif swyOk s x y then swAy s x y else c32 0), .cx .f32 (bif swyOk s x y then swBx s x y else c32 0) (bif swyOk s x y then swBy s x y else c32 0), .sb (swyOk s x y)]
theorem swFin_eq (a b c d : F32) : swFin a b c d = some (.tup [.cx .f32 (bif cfin a b && cfin c d then a else c32 0) (bif cfin a b && cfin c d then b else c32 0), .cx .f32 (bif cfin a b && cfin c d then c else c32 0) (bif cfin a b && cfin c d then d else c32 0), .sb (cfin a b && cfin c d)]) := by
  unfold swFin
  cases cfin a b
  · rfl
  · cases cfin c d <;> rfl
theorem eSways_run (s x y : F32) (hx : swFit s x y = true) : runP Try.prog [eBends, eRootN, eCFin] Try.f68 [.c (.fl .f32 s), .c (.cx .f32 x y)] [] = some (swT s x y) := by
  rw [eSways_raw]
  unfold swFit at hx
  simp only [Bool.and_eq_true] at hx
  rw [hx.1]
  unfold swT swyOk
  cases h1 : beOk s x y
  · rfl
  · have h2 := hx.2
    rw [h1] at h2
    simp only [Bool.not_true, Bool.false_or, Bool.and_eq_true] at h2
    rw [h2.1]
    unfold swAx swAy swBx swBy
    cases h3 : swS s x y
    · rw [h3] at h2
      have h4 := h2.2
      simp only [Bool.false_or] at h4
      have h5 : ge (swD s x y) (c32 0) = false := h3
      rw [h4, h5]
      show swFin _ _ _ _ = _
      rw [swFin_eq]; rfl
    · have h5 : ge (swD s x y) (c32 0) = true := h3
      rw [h5]
      show swFin _ _ _ _ = _
      rw [swFin_eq]; rfl
def eSways : Entry Try.prog := { f := 68, fn := shSC fun s x y => (swFit s x y, swT s x y), ok := okSCP (E := [eBends, eRootN, eCFin]) Try.func68 (by kernel_rfl) fun s x y h => eSways_run s x y h }
-- steadiness
def zAx (s x y : F32) : F32 := bif swyOk s x y then swAx s x y else c32 0
def zAy (s x y : F32) : F32 := bif swyOk s x y then swAy s x y else c32 0
def zBx (s x y : F32) : F32 := bif swyOk s x y then swBx s x y else c32 0
def zBy (s x y : F32) : F32 := bif swyOk s x y then swBy s x y else c32 0
def stdB (s x y : F32) : Bool := swyOk s x y && (eq (zAy s x y) (c32 0) && (eq (zBy s x y) (c32 0) && (lt (zAx s x y) (c32 0) && lt (zBx s x y) (c32 0))))
theorem eSteady_run (s x y : F32) (hx : swFit s x y = true) : runP Try.prog [eSways] Try.f19 [.c (.fl .f32 s), .c (.cx .f32 x y)] [] = some (.c (.sb (stdB s x y))) := by
  have h : runP Try.prog [eSways] Try.f19 [.c (.fl .f32 s), .c (.cx .f32 x y)] [] = bif swFit s x y then (bif swyOk s x y then (bif eq (zAy s x y) (c32 0) then (bif eq (zBy s x y) (c32 0) then (bif lt (zAx s x y) (c32 0) then
    some (.c (.sb (lt (zBx s x y) (c32 0)))) else some (.c (.sb false))) else some (.c (.sb false))) else some (.c (.sb false))) else some (.c (.sb false))) else none := by kernel_rfl
  rw [h, hx]
  unfold stdB
  simp only [push_and]; rfl
def eSteady : Entry Try.prog := { f := 19, fn := shSC fun s x y => (swFit s x y, .c (.sb (stdB s x y))), ok := okSCP (E := [eSways]) Try.func19 (by kernel_rfl) fun s x y h => eSteady_run s x y h }
end Go.Proofs.Ytlpahmefebgdlaa.Fx
