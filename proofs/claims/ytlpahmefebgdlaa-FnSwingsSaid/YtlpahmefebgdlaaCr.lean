/- Contracts: logarithms, burns. No condition. -/
import Derived.Test.YtlpahmefebgdlaaEk
import Derived.Test.YtlpahmefebgdlaaCi
namespace Go.Proofs.Ytlpahmefebgdlaa.Fx
open Go Go.RowKit

-- natural logarithms
def k15 : F64 := c64 4609434218613702656
def k075 : F64 := c64 4604930618986332160
def ln2 : F64 := c64 4604418534313441775
def halve : Nat → F64 × F64 → Bool × (F64 × F64)
  | 0, s => (false, s)
  | n + 1, s => bif ge s.1 k15 then halve n (s.1 / two, s.2 + one) else (true, s)
def dbl : Nat → F64 × F64 → Bool × (F64 × F64)
  | 0, s => (false, s)
  | n + 1, s => bif lt s.1 k075 then dbl n (s.1 * two, s.2 - one) else (true, s)
def nlFr (x e : F64) : List AV := [.c (.fl .f64 x), .c .any, .c .any, .c (.fl .f64 e), .c .any, .c .any, .c .any, .c .any, .c .any, .c .any, .c .any, .c .any, .c .any, .c .any, .c .any, .c .any, .c .any, .c .any, .c .any, .c .any, .c .any, .c .any, .c .any, .c .any, .c .any, .c .any, .c .any, .c .any, .c .any, .c .any, .c .any, .c .any, .c .any, .c .any, .c .any, .c .any, .c .any, .c .any, .c .any, .c .any, .c .any, .c .any, .c .any, .c .any, .c .any, .c .any]
def nlM : List Bool := [true, false, false, true, false, false, false, false, false, false, false, false, false, false, false, false, false, false, false, false, false, false, false, false, false, false, false, false, false, false, false, false, false, false, false, false, false, false, false, false, false, false, false, false, false, false]
def nlLp : LoopRule
  | 0, .c (.fl .f64 x) :: _ :: _ :: .c (.fl .f64 e) :: _ :: _ :: _ :: _ :: _ :: _ :: _ :: _ :: _ :: _ :: _ :: _ :: _ :: _ :: _ :: _ :: _ :: _ :: _ :: _ :: _ :: _ :: _ :: _ :: _ :: _ :: _ :: _ :: _ :: _ :: _ :: _ :: _ :: _ :: _ :: _ :: _ :: _ :: _ :: _ :: _ :: _ :: [], [] => some ((halve 8 (x, e)).1, .exit 0, nlFr (halve 8 (x, e)).2.1 (halve 8 (x, e)).2.2, [])
  | 1, .c (.fl .f64 x) :: _ :: _ :: .c (.fl .f64 e) :: _ :: _ :: _ :: _ :: _ :: _ :: _ :: _ :: _ :: _ :: _ :: _ :: _ :: _ :: _ :: _ :: _ :: _ :: _ :: _ :: _ :: _ :: _ :: _ :: _ :: _ :: _ :: _ :: _ :: _ :: _ :: _ :: _ :: _ :: _ :: _ :: _ :: _ :: _ :: _ :: _ :: _ :: [], [] => some ((dbl 8 (x, e)).1, .exit 2, nlFr (dbl 8 (x, e)).2.1 (dbl 8 (x, e)).2.2, [])
  | _, _, _ => none
theorem nl_round0 (x e : F64) : exC Try.prog [] 0 400 (loopN 0 Try.f123) (nlFr x e) [] (fun o F M => some (o, weaken nlM F, M)) = bif ge x k15 then some (.norm, nlFr (x / two) (e + one), []) else some (.exit 0, nlFr x e, []) := by kernel_rfl
theorem nl_round1 (x e : F64) : exC Try.prog [] 0 400 (loopN 1 Try.f123) (nlFr x e) [] (fun o F M => some (o, weaken nlM F, M)) = bif lt x k075 then some (.norm, nlFr (x * two) (e - one), []) else some (.exit 2, nlFr x e, []) := by kernel_rfl
theorem nl_goes0 (w0 : Base) : ∀ (n : Nat) (s : F64 × F64), (halve n s).1 = true → InGoes Try.prog 0 w0 (loopN 0 Try.f123) (nlFr s.1 s.2) [] (.exit 0) (nlFr (halve n s).2.1 (halve n s).2.2) []
  | 0, s, h => by cases h
  | n + 1, s, h => by
    have hr := nl_round0 s.1 s.2
    simp only [halve] at h ⊢
    cases hg : ge s.1 k15 with
    | true =>
      rw [hg] at h hr
      exact goes_round (goes_of_exC w0 hr) (nl_goes0 w0 n (s.1 / two, s.2 + one) h)
    | false =>
      rw [hg] at hr
      exact goes_last (fun h => by cases h) (goes_of_exC w0 hr)
theorem nl_goes1 (w0 : Base) : ∀ (n : Nat) (s : F64 × F64), (dbl n s).1 = true → InGoes Try.prog 0 w0 (loopN 1 Try.f123) (nlFr s.1 s.2) [] (.exit 2) (nlFr (dbl n s).2.1 (dbl n s).2.2) []
  | 0, s, h => by cases h
  | n + 1, s, h => by
    have hr := nl_round1 s.1 s.2
    simp only [dbl] at h ⊢
    cases hg : lt s.1 k075 with
    | true =>
      rw [hg] at h hr
      exact goes_round (goes_of_exC w0 hr) (nl_goes1 w0 n (s.1 * two, s.2 - one) h)
    | false =>
      rw [hg] at hr
      exact goes_last (fun h => by cases h) (goes_of_exC w0 hr)
theorem nl_loops : LoopsOk Try.prog 0 anyW nlLp 0 (Try.f123.body.getD .skip) := by
  intro j x hx F M o F' M' hl w0 _
  have hX : loopsAll (Try.f123.body.getD .skip) = [loopN 0 Try.f123, loopN 1 Try.f123, loopN 2 Try.f123] := by kernel_rfl
  rw [hX] at hx
  rw [Nat.zero_add] at hl
  unfold nlLp at hl
  split at hl
  · rename_i x y1 y2 e y4 y5 y6 y7 y8 y9 y10 y11 y12 y13 y14 y15 y16 y17 y18 y19 y20 y21 y22 y23 y24 y25 y26 y27 y28 y29 y30 y31 y32 y33 y34 y35 y36 y37 y38 y39 y40 y41 y42 y43 y44 y45
    simp only [Option.some.injEq, Prod.mk.injEq] at hl
    obtain ⟨hq, rfl, rfl, rfl⟩ := hl
    cases hx
    exact InGoes.weaken nlM (nl_goes0 w0 8 (x, e) hq)
  · rename_i x y1 y2 e y4 y5 y6 y7 y8 y9 y10 y11 y12 y13 y14 y15 y16 y17 y18 y19 y20 y21 y22 y23 y24 y25 y26 y27 y28 y29 y30 y31 y32 y33 y34 y35 y36 y37 y38 y39 y40 y41 y42 y43 y44 y45
    simp only [Option.some.injEq, Prod.mk.injEq] at hl
    obtain ⟨hq, rfl, rfl, rfl⟩ := hl
    cases hx
    exact InGoes.weaken nlM (nl_goes1 w0 8 (x, e) hq)
  · cases hl
theorem nl_far : ∀ j, farOff ≤ j → ∀ F M, nlLp j F M = none := by
  intro j hj F M
  unfold nlLp
  split
  · exact absurd hj (by decide)
  · exact absurd hj (by decide)
  · rfl

def logStep (u q : F64) (k : Int) : F64 := one / ki k + u * q
def logPoly (u : F64) : F64 := [25, 23, 21, 19, 17, 15, 13, 11, 9, 7, 5, 3, 1].foldl (logStep u) zero
def logS (x : F64) : F64 := (x - one) / (x + one)
def logEnd (x e : F64) : F64 := two * (logS x * logPoly (logS x * logS x)) + e * ln2
def nlA (x : F64) : Bool × (F64 × F64) := halve 8 (x, zero)
def nlB (x : F64) : Bool × (F64 × F64) := dbl 8 ((nlA x).2.1, (nlA x).2.2)
def natLog (x : F64) : F64 := logEnd (nlB x).2.1 (nlB x).2.2
def natOk (x : F64) : Bool := (nlA x).1 && (nlB x).1
theorem eNatLog_run (x : F64) (hx : natOk x = true) : runKM Try.prog [] [] [] (G := anyW) [] nlLp Try.f123 [.c (.fl .f64 x)] [] = some (.c (.fl .f64 (natLog x))) := by
  have h : runKM Try.prog [] [] [] (G := anyW) [] nlLp Try.f123 [.c (.fl .f64 x)] [] = bif (nlA x).1 then (bif (nlB x).1 then some (.c (.fl .f64 (natLog x))) else none) else none := by kernel_rfl
  unfold natOk at hx
  simp only [Bool.and_eq_true] at hx
  rw [h, hx.1, hx.2]; rfl
def eNatLog : Entry Try.prog := { f := 123, fn := shD fun x => (natOk x, .c (.fl .f64 (natLog x))), ok := okMD Try.func123 (by kernel_rfl) nl_far nl_loops fun x h => eNatLog_run x h }

def shI1m (v : AV) : List AV → List (List AC) → Option (Bool × AV)
  | [.c (.val (.int .i64 (-1)))], _ => some (true, v)
  | _, _ => none
def minf64 : F64 := c64 18442240474082181120
theorem eInfM_ok : EOk Try.prog 119 (shI1m (.c (.fl .f64 minf64))) := by
  intro args M r hr σ vs w _ ha
  unfold shI1m at hr
  split at hr
  · cases hr
    exact gives0 (E := [eFrombits]) Try.func119 (by kernel_rfl) rfl (show run Try.prog [eFrombits] Try.f119 [.c (.val (.int .i64 (-1)))] [] = some (.c (.fl .f64 minf64)) by kernel_rfl) ha
  · cases hr
def eInfM : Entry Try.prog := { f := 119, fn := shI1m (.c (.fl .f64 minf64)), ok := eInfM_ok }
def isInf1 (x : F64) : Bool := gt x (c64 9218868437227405311)
def shDI1 (g : F64 → Bool × AV) : List AV → List (List AC) → Option (Bool × AV)
  | [.c (.fl .f64 x0), .c (.val (.int .i64 1))], _ => some (g x0)
  | _, _ => none
theorem eIsInf1_ok : EOk Try.prog 122 (shDI1 fun x => rB (isInf1 x)) := by
  intro args M r hr σ vs w _ ha
  unfold shDI1 at hr
  split at hr
  · cases hr
    rename_i x
    exact gives0 (E := [eAbs]) Try.func122 (by kernel_rfl) rfl (show run Try.prog [eAbs] Try.f122 [.c (.fl .f64 x), .c (.val (.int .i64 1))] [] = some (.c (.sb (isInf1 x))) by kernel_rfl) ha
  · cases hr
def eIsInf1 : Entry Try.prog := { f := 122, fn := shDI1 fun x => rB (isInf1 x), ok := eIsInf1_ok }
def logOk (x : F64) : Bool := !(ne x x) && (!(lt x zero) && (!(eq x zero) && (!(isInf1 x) && natOk x)))
theorem eLog_run (x : F64) (hx : logOk x = true) : run Try.prog [eIsNaN, eNaN, eInfM, eIsInf1, eNatLog] Try.f79 [.c (.fl .f64 x)] [] = some (.c (.fl .f64 (natLog x))) := by
  have h : run Try.prog [eIsNaN, eNaN, eInfM, eIsInf1, eNatLog] Try.f79 [.c (.fl .f64 x)] [] = bif ne x x then some (.c (.fl .f64 none)) else bif lt x zero then some (.c (.fl .f64 none)) else bif eq x zero then some (.c (.fl .f64 minf64)) else
    bif isInf1 x then some (.c (.fl .f64 x)) else bif natOk x then some (.c (.fl .f64 (natLog x))) else none := by kernel_rfl
  unfold logOk at hx
  simp only [Bool.and_eq_true, Bool.not_eq_true'] at hx
  rw [h, hx.1, hx.2.1, hx.2.2.1, hx.2.2.2.1, hx.2.2.2.2]; rfl
def eLog : Entry Try.prog := { f := 79, fn := shD fun x => (logOk x, .c (.fl .f64 (natLog x))), ok := okD (E := [eIsNaN, eNaN, eInfM, eIsInf1, eNatLog]) Try.func79 (by kernel_rfl) fun x h => eLog_run x h }
def gapB (a b : F64) : F64 := bif lt a b then b - a else a - b
def eGapB : Entry Try.prog := { f := 30, fn := shDD fun a b => rD (gapB a b), ok := okDD (E := []) Try.func30 (by kernel_rfl) fun a b _ => by show _ = some (AV.c (.fl .f64 (gapB a b))); unfold gapB; rw [push_fl]; kernel_rfl }

-- burns
def tellR (x : F64) : AV := .tup [.fl .f32 (toldV (narrow x)), .sb (toldB (narrow x))]
theorem told_if (c : Bool) (x : F64) : (bif c then some (tellR x) else Zr) = some (.tup [.fl .f32 (bif c then toldV (narrow x) else c32 0), .sb (bif c then toldB (narrow x) else false)]) := by cases c <;> rfl
def ent3 (c : F32 → F32 → F32 → Bool) (q : F32 → F32 → F32 → Bool) (y : F32 → F32 → F32 → F64) (a b d : F32) : Bool × AV := (!(c a b d) || q a b d, .tup [.fl .f32 (bif c a b d then toldV (narrow (y a b d)) else c32 0), .sb (bif c a b d then toldB (narrow (y a b d)) else false)])
theorem ent3_run {c q : F32 → F32 → F32 → Bool} {y : F32 → F32 → F32 → F64} {X : Option AV} (a b d : F32) (hX : X = bif c a b d then (bif q a b d then some (tellR (y a b d)) else none) else Zr) (h : (ent3 c q y a b d).1 = true) : X = some (ent3 c q y a b d).2 := by
  unfold ent3 at h ⊢
  rw [hX, ← told_if]
  cases hc : c a b d with
  | false => rfl
  | true =>
    rw [hc] at h
    have h' : q a b d = true := h
    rw [h']; rfl
def boC (j b a : F32) : Bool := (aLength j && aLength b && aLength a) && !(lt b a)
def boD (b a : F32) : F64 := widen b / widen a
def boY (j b a : F32) : F64 := widen j * natLog (boD b a)
def boQ (j b a : F32) : Bool := logOk (boD b a) && fits (boY j b a)
theorem eBurnOf_run (j b a : F32) (h : (ent3 boC boQ boY j b a).1 = true) : run Try.prog [eAreLengths3, eLog, eNarrowed] Try.f28 [.c (.fl .f32 j), .c (.fl .f32 b), .c (.fl .f32 a)] [] = some (ent3 boC boQ boY j b a).2 := by
  have hr : run Try.prog [eAreLengths3, eLog, eNarrowed] Try.f28 [.c (.fl .f32 j), .c (.fl .f32 b), .c (.fl .f32 a)] [] = bif !(aLength j && aLength b && aLength a) then Zr else bif lt b a then Zr else bif logOk (boD b a) then (bif fits (boY j b a) then some (tellR (boY j b a)) else none) else none := by kernel_rfl
  refine ent3_run j b a (hr.trans ?_) h
  unfold boC boQ
  cases aLength j && aLength b && aLength a <;> cases lt b a <;> cases logOk (boD b a) <;> cases fits (boY j b a) <;> rfl
def eBurnOf : Entry Try.prog := { f := 28, fn := shSSS (ent3 boC boQ boY), ok := okSSS (E := [eAreLengths3, eLog, eNarrowed]) Try.func28 (by kernel_rfl) eBurnOf_run }
def fuC (j a c : F32) : Bool := (aLength j && aLength a) && aMass c
def fuY (j a c : F32) : F64 := widen a * (exponential (widen c / widen j) - one)
def fuQ (j a c : F32) : Bool := fits (fuY j a c)
theorem eFuel_run (j a c : F32) (h : (ent3 fuC fuQ fuY j a c).1 = true) : run Try.prog [eAreLengths2, eAMass, eExp, eNarrowed] Try.f27 [.c (.fl .f32 j), .c (.fl .f32 a), .c (.fl .f32 c)] [] = some (ent3 fuC fuQ fuY j a c).2 := by
  have hr : run Try.prog [eAreLengths2, eAMass, eExp, eNarrowed] Try.f27 [.c (.fl .f32 j), .c (.fl .f32 a), .c (.fl .f32 c)] [] = bif !(aLength j && aLength a) then Zr else bif !(aMass c) then Zr else bif fits (fuY j a c) then some (tellR (fuY j a c)) else none := by kernel_rfl
  refine ent3_run j a c (hr.trans ?_) h
  unfold fuC fuQ
  cases aLength j && aLength a <;> cases aMass c <;> rfl
def eFuel : Entry Try.prog := { f := 27, fn := shSSS (ent3 fuC fuQ fuY), ok := okSSS (E := [eAreLengths2, eAMass, eExp, eNarrowed]) Try.func27 (by kernel_rfl) eFuel_run }
def btC (j f b c : F32) : Bool := (aLength j && aLength f && aLength b) && aMass c
def btY (j f b c : F32) : F64 := (widen b * (one - exponential (-(widen c / widen j)))) / widen f
theorem eBurnTime_run (j f b c : F32) (h : (!(btC j f b c) || fits (btY j f b c)) = true) : run Try.prog [eAreLengths3, eAMass, eExp, eNarrowed] Try.f29 [.c (.fl .f32 j), .c (.fl .f32 f), .c (.fl .f32 b), .c (.fl .f32 c)] [] =
    some (.tup [.fl .f32 (bif btC j f b c then toldV (narrow (btY j f b c)) else c32 0), .sb (bif btC j f b c then toldB (narrow (btY j f b c)) else false)]) := by
  have hr : run Try.prog [eAreLengths3, eAMass, eExp, eNarrowed] Try.f29 [.c (.fl .f32 j), .c (.fl .f32 f), .c (.fl .f32 b), .c (.fl .f32 c)] [] = bif !(aLength j && aLength f && aLength b) then Zr else bif !(aMass c) then Zr else bif fits (btY j f b c) then some (tellR (btY j f b c)) else none := by kernel_rfl
  rw [hr, ← told_if]
  unfold btC at h ⊢
  cases h1 : aLength j && aLength f && aLength b
  · rfl
  · cases h2 : aMass c
    · rfl
    · rw [h1, h2] at h
      have h' : fits (btY j f b c) = true := h
      rw [h']; rfl
def eBurnTime : Entry Try.prog := { f := 29, fn := shSSSS fun j f b c => (!(btC j f b c) || fits (btY j f b c), .tup [.fl .f32 (bif btC j f b c then toldV (narrow (btY j f b c)) else c32 0), .sb (bif btC j f b c then toldB (narrow (btY j f b c)) else false)]), ok := okSSSS (E := [eAreLengths3, eAMass, eExp, eNarrowed]) Try.func29 (by kernel_rfl) eBurnTime_run }
def abL (f b t : F32) : F64 := widen b - widen f * widen t
def abD (f b t : F32) : F64 := widen b / abL f b t
def abG (j f b t : F32) : F64 := widen j * natLog (abD f b t)
def ZrA : AV := .tup [.fl .f32 (c32 0), .fl .f32 (c32 0), .sb false]
def abR (j f b t : F32) : AV := .tup [.fl .f32 (toldV (narrow (abG j f b t))), .fl .f32 (toldV (narrow (abL f b t))), .sb true]
theorem eAfter_raw (j f b t : F32) : runKM Try.prog [eAreLengths4, eLog, eNarrowed] [80] [] (G := anyW) [] noRule Try.f31 [.c (.fl .f32 j), .c (.fl .f32 f), .c (.fl .f32 b), .c (.fl .f32 t)] [] =
    bif !(aLength j && aLength f && aLength b && aLength t) then some ZrA else bif fits (abL f b t) then (bif !(gt (narrow (abL f b t)) (c32 0)) then some ZrA else bif logOk (abD f b t) then (bif fits (abG j f b t) then (bif !(toldB (narrow (abG j f b t))) then some ZrA else
      bif fits (abL f b t) then (bif !(toldB (narrow (abL f b t))) then some ZrA else some (abR j f b t)) else none) else none) else none) else none := by kernel_rfl

def abC (j f b t : F32) : Bool := aLength j && aLength f && aLength b && aLength t
def abP (f b t : F32) : Bool := gt (narrow (abL f b t)) (c32 0)
def abOk (j f b t : F32) : Bool := abC j f b t && (abP f b t && (toldB (narrow (abG j f b t)) && toldB (narrow (abL f b t))))
def abQ (j f b t : F32) : Bool := !(abC j f b t) || (fits (abL f b t) && (!(abP f b t) || (logOk (abD f b t) && fits (abG j f b t))))
def abV (j f b t : F32) : AV := .tup [.fl .f32 (bif abOk j f b t then toldV (narrow (abG j f b t)) else c32 0), .fl .f32 (bif abOk j f b t then toldV (narrow (abL f b t)) else c32 0), .sb (abOk j f b t)]
theorem eAfter_run (j f b t : F32) (h : abQ j f b t = true) : runKM Try.prog [eAreLengths4, eLog, eNarrowed] [80] [] (G := anyW) [] noRule Try.f31 [.c (.fl .f32 j), .c (.fl .f32 f), .c (.fl .f32 b), .c (.fl .f32 t)] [] = some (abV j f b t) := by
  rw [eAfter_raw]
  unfold abV
  have e1 : (aLength j && aLength f && aLength b && aLength t) = abC j f b t := rfl
  have e2 : gt (narrow (abL f b t)) (c32 0) = abP f b t := rfl
  rw [e1, e2]
  unfold abQ at h
  unfold abOk
  cases h1 : abC j f b t
  · rfl
  · rw [h1] at h
    simp only [Bool.not_true, Bool.false_or, Bool.and_eq_true] at h
    rw [h.1]
    cases h2 : abP f b t
    · rfl
    · have h3 := h.2
      rw [h2] at h3
      simp only [Bool.not_true, Bool.false_or, Bool.and_eq_true] at h3
      rw [h3.1, h3.2]
      cases toldB (narrow (abG j f b t))
      · rfl
      · cases toldB (narrow (abL f b t)) <;> rfl
def eAfter : Entry Try.prog := { f := 31, fn := shSSSS fun j f b t => (abQ j f b t, abV j f b t), ok := okMSSSS Try.func31 (by kernel_rfl) noRule_far (loopsOk_none 0 _) eAfter_run }

-- stages
def scR (full empty : F32) (above : F64) : F64 := (widen full + above) / (widen empty + above)
def scG (empty : F32) (above : F64) : Bool := gt (widen empty + above) zero
def scY (jet full empty : F32) (above : F64) : F64 := widen jet * natLog (scR full empty above)
def scOk (empty full jet : F32) (above : F64) : Bool := stageOk empty full jet && scG empty above
def scB1 (l full : F32) : F64 := widen l + widen full
def scS1 (a0 a1 a2 l : F32) : F64 := zero + scY a2 a1 a0 (widen l)
def scS2 (a0 a1 a2 b0 b1 b2 l : F32) : F64 := (zero + scY a2 a1 a0 (scB1 l b1)) + scY b2 b1 b0 (widen l)
theorem eStages2_raw (a0 a1 a2 b0 b1 b2 l : F32) : runKM Try.prog [eAMass, eValidStage, eLog, eNarrowed] [81] [] (G := anyW) [] noRule Try.f32 [.c (.slc 0 2), .c (.fl .f32 l)] [[.fl .f32 a0, .fl .f32 a1, .fl .f32 a2, .fl .f32 b0, .fl .f32 b1, .fl .f32 b2]] =
    bif !(aMass l) then Zr else bif !(stageOk a0 a1 a2) then Zr else bif !(scG a0 (scB1 l b1)) then Zr else bif logOk (scR a1 a0 (scB1 l b1)) then (bif !(stageOk b0 b1 b2) then Zr else bif !(scG b0 (widen l)) then Zr else bif logOk (scR b1 b0 (widen l)) then
      (bif fits (scS2 a0 a1 a2 b0 b1 b2 l) then some (tellR (scS2 a0 a1 a2 b0 b1 b2 l)) else none) else none) else none := by kernel_rfl
theorem eStages1_raw (a0 a1 a2 l : F32) : runKM Try.prog [eAMass, eValidStage, eLog, eNarrowed] [81] [] (G := anyW) [] noRule Try.f32 [.c (.slc 0 1), .c (.fl .f32 l)] [[.fl .f32 a0, .fl .f32 a1, .fl .f32 a2]] =
    bif !(aMass l) then Zr else bif !(stageOk a0 a1 a2) then Zr else bif !(scG a0 (widen l)) then Zr else bif logOk (scR a1 a0 (widen l)) then (bif fits (scS1 a0 a1 a2 l) then some (tellR (scS1 a0 a1 a2 l)) else none) else none := by kernel_rfl

def sc2C (a0 a1 a2 b0 b1 b2 l : F32) : Bool := aMass l && (scOk a0 a1 a2 (scB1 l b1) && scOk b0 b1 b2 (widen l))
def sc2Q (a0 a1 a2 b0 b1 b2 l : F32) : Bool := logOk (scR a1 a0 (scB1 l b1)) && (logOk (scR b1 b0 (widen l)) && fits (scS2 a0 a1 a2 b0 b1 b2 l))
def sc2V (a0 a1 a2 b0 b1 b2 l : F32) : AV := .tup [.fl .f32 (bif sc2C a0 a1 a2 b0 b1 b2 l then toldV (narrow (scS2 a0 a1 a2 b0 b1 b2 l)) else c32 0), .sb (bif sc2C a0 a1 a2 b0 b1 b2 l then toldB (narrow (scS2 a0 a1 a2 b0 b1 b2 l)) else false)]
theorem eStages2_run (a0 a1 a2 b0 b1 b2 l : F32) (h : sc2Q a0 a1 a2 b0 b1 b2 l = true) : runKM Try.prog [eAMass, eValidStage, eLog, eNarrowed] [81] [] (G := anyW) [] noRule Try.f32 [.c (.slc 0 2), .c (.fl .f32 l)] [[.fl .f32 a0, .fl .f32 a1, .fl .f32 a2, .fl .f32 b0, .fl .f32 b1, .fl .f32 b2]] = some (sc2V a0 a1 a2 b0 b1 b2 l) := by
  rw [eStages2_raw]
  unfold sc2V
  rw [← told_if]
  unfold sc2Q at h
  simp only [Bool.and_eq_true] at h
  rw [h.1, h.2.1, h.2.2]
  unfold sc2C scOk
  cases aMass l <;> cases stageOk a0 a1 a2 <;> cases scG a0 (scB1 l b1) <;> cases stageOk b0 b1 b2 <;> cases scG b0 (widen l) <;> rfl
def sc1C (a0 a1 a2 l : F32) : Bool := aMass l && scOk a0 a1 a2 (widen l)
def sc1Q (a0 a1 a2 l : F32) : Bool := logOk (scR a1 a0 (widen l)) && fits (scS1 a0 a1 a2 l)
def sc1V (a0 a1 a2 l : F32) : AV := .tup [.fl .f32 (bif sc1C a0 a1 a2 l then toldV (narrow (scS1 a0 a1 a2 l)) else c32 0), .sb (bif sc1C a0 a1 a2 l then toldB (narrow (scS1 a0 a1 a2 l)) else false)]
theorem eStages1_run (a0 a1 a2 l : F32) (h : sc1Q a0 a1 a2 l = true) : runKM Try.prog [eAMass, eValidStage, eLog, eNarrowed] [81] [] (G := anyW) [] noRule Try.f32 [.c (.slc 0 1), .c (.fl .f32 l)] [[.fl .f32 a0, .fl .f32 a1, .fl .f32 a2]] = some (sc1V a0 a1 a2 l) := by
  rw [eStages1_raw]
  unfold sc1V
  rw [← told_if]
  unfold sc1Q at h
  simp only [Bool.and_eq_true] at h
  rw [h.1, h.2]
  unfold sc1C scOk
  cases aMass l <;> cases stageOk a0 a1 a2 <;> cases scG a0 (widen l) <;> rfl
def shStages : List AV → List (List AC) → Option (Bool × AV)
  | [.c (.slc id 2), .c (.fl .f32 l)], M => match M[id]? with
    | some [.fl .f32 a0, .fl .f32 a1, .fl .f32 a2, .fl .f32 b0, .fl .f32 b1, .fl .f32 b2] => some (sc2Q a0 a1 a2 b0 b1 b2 l, sc2V a0 a1 a2 b0 b1 b2 l)
    | _ => none
  | [.c (.slc id 1), .c (.fl .f32 l)], M => match M[id]? with
    | some [.fl .f32 a0, .fl .f32 a1, .fl .f32 a2] => some (sc1Q a0 a1 a2 l, sc1V a0 a1 a2 l)
    | _ => none
  | _, _ => none
theorem eStages_ok : EOk Try.prog 32 shStages := by
  intro args M r hr σ vs w hM ha
  unfold shStages at hr
  split at hr
  · split at hr
    · rename_i id l M a0 a1 a2 b0 b1 b2 hid
      simp only [Option.some.injEq, Prod.mk.injEq] at hr
      obtain ⟨hq, rfl⟩ := hr
      exact givesM_slc Try.func32 (by kernel_rfl) noRule_far (loopsOk_none 0 _) (eStages2_run a0 a1 a2 b0 b1 b2 l hq) rfl rfl hM hid ha
    · cases hr
  · split at hr
    · rename_i id l M a0 a1 a2 hid
      simp only [Option.some.injEq, Prod.mk.injEq] at hr
      obtain ⟨hq, rfl⟩ := hr
      exact givesM_slc Try.func32 (by kernel_rfl) noRule_far (loopsOk_none 0 _) (eStages1_run a0 a1 a2 l hq) rfl rfl hM hid ha
    · cases hr
  · cases hr
def eStages : Entry Try.prog := { f := 32, fn := shStages, ok := eStages_ok }
end Go.Proofs.Ytlpahmefebgdlaa.Fx
