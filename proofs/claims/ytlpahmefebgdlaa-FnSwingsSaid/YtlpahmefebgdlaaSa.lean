/- Contracts: b10Turns and PhaseOfLean. No condition. -/
import Derived.Test.YtlpahmefebgdlaaEk
import Derived.Test.YtlpahmefebgdlaaWa
import Derived.Test.YtlpahmefebgdlaaCr
namespace Go.Proofs.Ytlpahmefebgdlaa.Fx
open Go Go.RowKit

def mHalf : F64 := c64 13826050856027422720
def downs : Nat → F64 → Bool × F64
  | 0, a => (false, a)
  | k + 1, a => bif gt a half then downs k (a - one) else (true, a)
def ups : Nat → F64 → Bool × F64
  | 0, a => (false, a)
  | k + 1, a => bif lt a mHalf then ups k (a + one) else (true, a)
def tnFr (a : F64) : List AV := [.c .any, .c .any, .c .any, .c .any, .c .any, .c (.fl .f64 a)] ++ List.replicate 15 (.c .any)
def tnM : List Bool := [false, false, false, false, false, true] ++ List.replicate 15 false
def tnLp : LoopRule
  | 0, _ :: _ :: _ :: _ :: _ :: .c (.fl .f64 a) :: F, M => some (decide (F.length = 15) && (downs 8 a).1, .exit 0, tnFr (downs 8 a).2, M)
  | 1, _ :: _ :: _ :: _ :: _ :: .c (.fl .f64 a) :: F, M => some (decide (F.length = 15) && (ups 8 a).1, .exit 2, tnFr (ups 8 a).2, M)
  | _, _, _ => none
theorem tn_round0 (a : F64) (M : List (List AC)) : exC Try.prog [] 0 400 (loopN 0 Try.f41) (tnFr a) M (fun o F M => some (o, weaken tnM F, M)) = bif gt a half then some (.norm, tnFr (a - one), M) else some (.exit 0, tnFr a, M) := by kernel_rfl
theorem tn_round1 (a : F64) (M : List (List AC)) : exC Try.prog [] 0 400 (loopN 1 Try.f41) (tnFr a) M (fun o F M => some (o, weaken tnM F, M)) = bif lt a mHalf then some (.norm, tnFr (a + one), M) else some (.exit 2, tnFr a, M) := by kernel_rfl
theorem tn_goes0 (w0 : Base) (M : List (List AC)) : ∀ (k : Nat) (a : F64), (downs k a).1 = true → InGoes Try.prog 0 w0 (loopN 0 Try.f41) (tnFr a) M (.exit 0) (tnFr (downs k a).2) M
  | 0, a, h => by cases h
  | k + 1, a, h => by
    have hr := tn_round0 a M
    simp only [downs] at h ⊢
    cases hg : gt a half with
    | true =>
      rw [hg] at h hr
      exact goes_round (goes_of_exC w0 hr) (tn_goes0 w0 M k (a - one) h)
    | false =>
      rw [hg] at hr
      exact goes_last (fun h => by cases h) (goes_of_exC w0 hr)
theorem tn_goes1 (w0 : Base) (M : List (List AC)) : ∀ (k : Nat) (a : F64), (ups k a).1 = true → InGoes Try.prog 0 w0 (loopN 1 Try.f41) (tnFr a) M (.exit 2) (tnFr (ups k a).2) M
  | 0, a, h => by cases h
  | k + 1, a, h => by
    have hr := tn_round1 a M
    simp only [ups] at h ⊢
    cases hg : lt a mHalf with
    | true =>
      rw [hg] at h hr
      exact goes_round (goes_of_exC w0 hr) (tn_goes1 w0 M k (a + one) h)
    | false =>
      rw [hg] at hr
      exact goes_last (fun h => by cases h) (goes_of_exC w0 hr)
theorem weaken_any : ∀ (k : Nat) (F : List AV), F.length = k → weaken (List.replicate k false) F = List.replicate k (.c .any)
  | 0, F, h => by
    cases List.eq_nil_of_length_eq_zero h; rfl
  | k + 1, F, h => by
    cases F with
    | nil => cases h
    | cons x F =>
      show AV.c .any :: weaken (List.replicate k false) F = _
      rw [weaken_any k F (Nat.succ.inj h)]; rfl
theorem tn_weaken (a : F64) (y0 y1 y2 y3 y4 : AV) (F : List AV) (h : F.length = 15) : weaken tnM (y0 :: y1 :: y2 :: y3 :: y4 :: .c (.fl .f64 a) :: F) = tnFr a := by
  have e : weaken tnM (y0 :: y1 :: y2 :: y3 :: y4 :: .c (.fl .f64 a) :: F) = ([.c .any, .c .any, .c .any, .c .any, .c .any, .c (.fl .f64 a)] : List AV) ++ weaken (List.replicate 15 false) F := by kernel_rfl
  rw [e, weaken_any 15 F h]; rfl
theorem tn_loops {G : World → Prop} : LoopsOk Try.prog 0 G tnLp 0 (Try.f41.body.getD .skip) := by
  intro j x hx F M o F' M' hl w0 _
  have hX : loopsAll (Try.f41.body.getD .skip) = [loopN 0 Try.f41, loopN 1 Try.f41] := by kernel_rfl
  rw [hX] at hx
  rw [Nat.zero_add] at hl
  unfold tnLp at hl
  split at hl
  · rename_i y0 y1 y2 y3 y4 a F
    simp only [Option.some.injEq, Prod.mk.injEq, Bool.and_eq_true, decide_eq_true_eq] at hl
    obtain ⟨⟨hF, hq⟩, rfl, rfl, rfl⟩ := hl
    cases hx
    refine InGoes.weaken tnM ?_
    rw [tn_weaken _ _ _ _ _ _ F hF]
    exact tn_goes0 w0 _ 8 a hq
  · rename_i y0 y1 y2 y3 y4 a F
    simp only [Option.some.injEq, Prod.mk.injEq, Bool.and_eq_true, decide_eq_true_eq] at hl
    obtain ⟨⟨hF, hq⟩, rfl, rfl, rfl⟩ := hl
    cases hx
    refine InGoes.weaken tnM ?_
    rw [tn_weaken _ _ _ _ _ _ F hF]
    exact tn_goes1 w0 _ 8 a hq
  · cases hl
theorem tn_far : ∀ j, farOff ≤ j → ∀ F M, tnLp j F M = none := by
  intro j hj F M
  unfold tnLp
  split
  · exact absurd hj (by decide)
  · exact absurd hj (by decide)
  · rfl
theorem okMSS {P : Program} {E : List (Entry P)} {I : List FuncId} {N : List (EntryN P)} {lp : LoopRule} {f : FuncId} {fn : Func} {g : F32 → F32 → Bool × AV} (hf : P.funcs[f]? = some fn) (hn : (fn.name == "runtime.NumGoroutine") = false)
    (hfar : ∀ j, farOff ≤ j → ∀ F M, lp j F M = none) (hl : LoopsOk P 0 anyW lp 0 (fn.body.getD .skip))
    (h : ∀ (x0 x1 : F32), (g x0 x1).1 = true → runKM P E I N (G := anyW) [] lp fn [.c (.fl .f32 x0), .c (.fl .f32 x1)] [] = some (g x0 x1).2) : EOk P f (shSS g) := by
  intro args M r hr σ vs w _ ha
  unfold shSS at hr
  split at hr
  · rename_i x0 x1
    have hr' := Option.some.inj hr
    have h1 := h x0 x1 (by rw [hr'])
    rw [hr'] at h1
    exact givesM hf hn hfar hl rfl h1 ha
  · cases hr
def tnA (a b : F32) : Bool × F64 := downs 8 (widen a - widen b)
def tnB (a b : F32) : Bool × F64 := ups 8 (tnA a b).2
def tnQ (a b : F32) : Bool := (tnA a b).1 && (tnB a b).1
def tnV (a b : F32) : F64 := gapB (tnB a b).2 zero
theorem turns_raw (a b : F32) : runKM Try.prog [eGapB] [] [] (G := anyW) [] tnLp Try.f41 [.c (.fl .f32 a), .c (.fl .f32 b)] [] =
    bif (tnA a b).1 then bif (tnB a b).1 then some (.c (.fl .f64 (tnV a b))) else none else none := by kernel_rfl
theorem turns_run (a b : F32) (h : tnQ a b = true) : runKM Try.prog [eGapB] [] [] (G := anyW) [] tnLp Try.f41 [.c (.fl .f32 a), .c (.fl .f32 b)] [] = some (.c (.fl .f64 (tnV a b))) := by
  rw [turns_raw]
  unfold tnQ at h
  rw [Bool.and_eq_true] at h
  rw [h.1, h.2]; rfl
def eTurns : Entry Try.prog := { f := 41, fn := shSS fun a b => (tnQ a b, .c (.fl .f64 (tnV a b))), ok := okMSS (E := [eGapB]) Try.func41 (by kernel_rfl) tn_far tn_loops turns_run }
-- PhaseOfLean
def plP (r p : F32) : F64 := (widen r * halfDiff (widen p) - widen p) / full
def m10 : F32 := c32 3240099840
def p10 : F32 := c32 1092616192
def plOk (r p : F32) : Bool := !(decide (idx2 r p ≥ 0)) && (!(le r one32) && (!(lt p m10) && !(gt p p10)))
def plQ (r p : F32) : Bool := !(plOk r p) || fits (plP r p)
def plV (r p : F32) : F32 := bif plOk r p then toldV (narrow (plP r p)) else c32 0
def plB (r p : F32) : Bool := plOk r p && toldB (narrow (plP r p))
theorem phaseOfLean_raw (r p : F32) : run Try.prog [eAreFinite2, eHalfDiff, eNarrowed] Try.f43 [.c (.fl .f32 r), .c (.fl .f32 p)] [] =
    bif !(!decide (idx2 r p ≥ 0)) then Zr else bif le r one32 then Zr else bif lt p m10 then Zr else bif gt p p10 then Zr else
    bif fits (plP r p) then some (.tup [.fl .f32 (toldV (narrow (plP r p))), .sb (toldB (narrow (plP r p)))]) else none := by kernel_rfl
theorem phaseOfLean_run (r p : F32) (h : plQ r p = true) : run Try.prog [eAreFinite2, eHalfDiff, eNarrowed] Try.f43 [.c (.fl .f32 r), .c (.fl .f32 p)] [] = some (.tup [.fl .f32 (plV r p), .sb (plB r p)]) := by
  rw [phaseOfLean_raw]
  unfold plQ at h
  unfold plV plB
  unfold plOk at h ⊢
  cases h1 : decide (idx2 r p ≥ 0)
  rotate_left
  · rfl
  · cases h2 : le r one32
    · cases h3 : lt p m10
      · cases h4 : gt p p10
        · rw [h1, h2, h3, h4] at h
          have h5 : fits (plP r p) = true := h
          rw [h5]; rfl
        · rfl
      · rfl
    · rfl
def ePhaseOfLean : Entry Try.prog := { f := 43, fn := shSS fun r p => (plQ r p, .tup [.fl .f32 (plV r p), .sb (plB r p)]), ok := okSS (E := [eAreFinite2, eHalfDiff, eNarrowed]) Try.func43 (by kernel_rfl) phaseOfLean_run }
-- the law's run
def wI (n : Int) : F32 := lit .f32 (floatOfInt .f32 n)
def swRound (j : Int) : F32 := wI j / c32 1107296256
def swPhase (k : Int) : F32 := wI k / c32 1132462080
def swOpen (j : Int) : F32 := c32 1067450368 + wI j / c32 1082130432
def swFar (k : Int) : F32 := wI (IntKind.i64.wrap (k - 64)) / c32 1090519040
def wYes : Option AV := some (.c (.sb true))
def wNay : Option AV := some (.c (.sb false))
def tn4 : F64 := c64 4547007122018943789
def tn3 : F64 := c64 4562254508917369340
def two32 : F32 := c32 1073741824
def swBack (r p : F32) : F32 := psV r (swV r p)
def swAround (r p : F32) : F32 := swV r (p + two32)
def swCircle (p : F32) : F32 := swV (c32 0) p
def leAgain (o f : F32) : F32 := plV o (leV o f)
def leAll (o f : F32) : Option AV :=
  bif plQ o (leV o f) then
    bif leOk o f then bif plB o (leV o f) then bif leOk o (-f) then
    bif lt (gapB (widen (leAgain o f)) (widen f)) (tn3 * (one + gapB (widen f) zero)) then some (.c (.sb (lt (gapB (widen (leV o (-f))) (-(widen (leV o f)))) tn3))) else wNay else wNay else wNay else wNay
  else none
def swAll (r p : F32) (K : Option AV) : Option AV :=
  bif !(swOk r p) then wNay else bif !(swOk r (swV r p)) then wNay else bif !(swOk r (p + two32)) then wNay else bif !(swOk (c32 0) p) then wNay else
  bif lt (swV r p) (c32 0) then wNay else bif gt (swV r p) one32 then wNay else
  bif tnQ (swBack r p) p then bif gt (tnV (swBack r p) p) tn4 then wNay else
    bif tnQ (swAround r p) (swV r p) then bif gt (tnV (swAround r p) (swV r p)) tn3 then wNay else
    bif gt (gapB (widen (swCircle p)) (widen p)) tn4 then wNay else K else none else none
theorem sw_raw (W : World) (c m : Value) : runK Try.prog [eSwingOf, ePhaseOfSwingOf, eTurns, eGapB, eLeanOf, ePhaseOfLean] [] [] [wB10Long W, wB10At W] noRule [] Try.f6 [.c (.val c), .c (.val m)] =
    bif good W c && good W m then bif longV 1048576 (bytesOf W c) (bytesOf W m) then wYes else
    bif good W c then bif good W c then
      swAll (swRound (b10v (bytesOf W c) 0 29)) (swPhase (b10v (bytesOf W c) 1 256))
        (bif good W m then bif good W m then leAll (swOpen (b10v (bytesOf W m) 0 17)) (swFar (b10v (bytesOf W m) 1 129)) else none else none) else none else none else none := by kernel_rfl
end Go.Proofs.Ytlpahmefebgdlaa.Fx
