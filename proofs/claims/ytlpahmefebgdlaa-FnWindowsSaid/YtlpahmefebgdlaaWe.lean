/- The law FnWindows: its loops and its run. No condition. -/
import Derived.Test.YtlpahmefebgdlaaWd
namespace Go.Proofs.Ytlpahmefebgdlaa.Fx
open Go Go.RowKit

def mHalf : F64 := c64 13826050856027422720
def downs : Nat → F64 → Bool × F64
  | 0, a => (false, a)
  | k + 1, a => bif gt a half then downs k (a - one) else (true, a)
def ups : Nat → F64 → Bool × F64
  | 0, a => (false, a)
  | k + 1, a => bif lt a mHalf then ups k (a + one) else (true, a)
def wnFr (m f n b : F32) (r a : F64) : List AV := [.c .any, .c .any, .c .any, .c .any, .c .any, .c (.fl .f32 m), .c (.fl .f32 f), .c .any, .c (.fl .f32 n), .c .any, .c .any, .c .any, .c (.fl .f32 b), .c .any, .c .any, .c .any, .c .any, .c .any, .c .any, .c .any, .c .any, .c .any, .c (.fl .f64 r), .c (.fl .f64 a)] ++ List.replicate 154 (.c .any)
def wnM : List Bool := [false, false, false, false, false, true, true, false, true, false, false, false, true, false, false, false, false, false, false, false, false, false, true, true] ++ List.replicate 154 false
def wnLp : LoopRule
  | 0, _ :: _ :: _ :: _ :: _ :: .c (.fl .f32 m) :: .c (.fl .f32 f) :: _ :: .c (.fl .f32 n) :: _ :: _ :: _ :: .c (.fl .f32 b) :: _ :: _ :: _ :: _ :: _ :: _ :: _ :: _ :: _ :: .c (.fl .f64 r) :: .c (.fl .f64 a) :: F, M => some (decide (F.length = 154) && (downs 8 a).1, .exit 0, wnFr m f n b r (downs 8 a).2, M)
  | 1, _ :: _ :: _ :: _ :: _ :: .c (.fl .f32 m) :: .c (.fl .f32 f) :: _ :: .c (.fl .f32 n) :: _ :: _ :: _ :: .c (.fl .f32 b) :: _ :: _ :: _ :: _ :: _ :: _ :: _ :: _ :: _ :: .c (.fl .f64 r) :: .c (.fl .f64 a) :: F, M => some (decide (F.length = 154) && (ups 8 a).1, .exit 2, wnFr m f n b r (ups 8 a).2, M)
  | _, _, _ => none
theorem wn_round0 (m f n b : F32) (r a : F64) (M : List (List AC)) : exC Try.prog [] 0 400 (loopN 0 Try.f5) (wnFr m f n b r a) M (fun o F M => some (o, weaken wnM F, M)) = bif gt a half then some (.norm, wnFr m f n b r (a - one), M) else some (.exit 0, wnFr m f n b r a, M) := by kernel_rfl
theorem wn_round1 (m f n b : F32) (r a : F64) (M : List (List AC)) : exC Try.prog [] 0 400 (loopN 1 Try.f5) (wnFr m f n b r a) M (fun o F M => some (o, weaken wnM F, M)) = bif lt a mHalf then some (.norm, wnFr m f n b r (a + one), M) else some (.exit 2, wnFr m f n b r a, M) := by kernel_rfl
theorem wn_goes0 (w0 : Base) (m f n b : F32) (r : F64) (M : List (List AC)) : ∀ (k : Nat) (a : F64), (downs k a).1 = true → InGoes Try.prog 0 w0 (loopN 0 Try.f5) (wnFr m f n b r a) M (.exit 0) (wnFr m f n b r (downs k a).2) M
  | 0, a, h => by cases h
  | k + 1, a, h => by
    have hr := wn_round0 m f n b r a M
    simp only [downs] at h ⊢
    cases hg : gt a half with
    | true =>
      rw [hg] at h hr
      exact goes_round (goes_of_exC w0 hr) (wn_goes0 w0 m f n b r M k (a - one) h)
    | false =>
      rw [hg] at hr
      exact goes_last (fun h => by cases h) (goes_of_exC w0 hr)
theorem wn_goes1 (w0 : Base) (m f n b : F32) (r : F64) (M : List (List AC)) : ∀ (k : Nat) (a : F64), (ups k a).1 = true → InGoes Try.prog 0 w0 (loopN 1 Try.f5) (wnFr m f n b r a) M (.exit 2) (wnFr m f n b r (ups k a).2) M
  | 0, a, h => by cases h
  | k + 1, a, h => by
    have hr := wn_round1 m f n b r a M
    simp only [ups] at h ⊢
    cases hg : lt a mHalf with
    | true =>
      rw [hg] at h hr
      exact goes_round (goes_of_exC w0 hr) (wn_goes1 w0 m f n b r M k (a + one) h)
    | false =>
      rw [hg] at hr
      exact goes_last (fun h => by cases h) (goes_of_exC w0 hr)
theorem weaken_any : ∀ (k : Nat) (F : List AV), F.length = k → weaken (List.replicate k false) F = List.replicate k (.c .any)
  | 0, F, h => by
    cases List.eq_nil_of_length_eq_zero h; rfl
  | k + 1, F, h => by
    cases F with
    | nil => cases h
    | cons x F =>
      show AV.c .any :: weaken (List.replicate k false) F = _
      rw [weaken_any k F (Nat.succ.inj h)]; rfl
theorem wn_weaken (m f n b : F32) (r a : F64) (y0 y1 y2 y3 y4 y7 y9 y10 y11 y13 y14 y15 y16 y17 y18 y19 y20 y21 : AV) (F : List AV) (h : F.length = 154) : weaken wnM (y0 :: y1 :: y2 :: y3 :: y4 :: .c (.fl .f32 m) :: .c (.fl .f32 f) :: y7 :: .c (.fl .f32 n) :: y9 :: y10 :: y11 :: .c (.fl .f32 b) :: y13 :: y14 :: y15 :: y16 :: y17 :: y18 :: y19 :: y20 :: y21 :: .c (.fl .f64 r) :: .c (.fl .f64 a) :: F) = wnFr m f n b r a := by
  have e : weaken wnM (y0 :: y1 :: y2 :: y3 :: y4 :: .c (.fl .f32 m) :: .c (.fl .f32 f) :: y7 :: .c (.fl .f32 n) :: y9 :: y10 :: y11 :: .c (.fl .f32 b) :: y13 :: y14 :: y15 :: y16 :: y17 :: y18 :: y19 :: y20 :: y21 :: .c (.fl .f64 r) :: .c (.fl .f64 a) :: F) = ([.c .any, .c .any, .c .any, .c .any, .c .any, .c (.fl .f32 m), .c (.fl .f32 f), .c .any, .c (.fl .f32 n), .c .any, .c .any, .c .any, .c (.fl .f32 b), .c .any, .c .any, .c .any, .c .any, .c .any, .c .any, .c .any, .c .any, .c .any, .c (.fl .f64 r), .c (.fl .f64 a)] : List AV) ++ weaken (List.replicate 154 false) F := by kernel_rfl
  rw [e, weaken_any 154 F h]; rfl
theorem wn_loops {W : World} : LoopsOk Try.prog 0 (Ext W) wnLp 0 (Try.f5.body.getD .skip) := by
  intro j x hx F M o F' M' hl w0 _
  have hX : loopsAll (Try.f5.body.getD .skip) = [loopN 0 Try.f5, loopN 1 Try.f5] := by kernel_rfl
  rw [hX] at hx
  rw [Nat.zero_add] at hl
  unfold wnLp at hl
  split at hl
  · rename_i y0 y1 y2 y3 y4 m f y7 n y9 y10 y11 b y13 y14 y15 y16 y17 y18 y19 y20 y21 r a F
    simp only [Option.some.injEq, Prod.mk.injEq, Bool.and_eq_true, decide_eq_true_eq] at hl
    obtain ⟨⟨hF, hq⟩, rfl, rfl, rfl⟩ := hl
    cases hx
    refine InGoes.weaken wnM ?_
    rw [wn_weaken _ _ _ _ _ _ _ _ _ _ _ _ _ _ _ _ _ _ _ _ _ _ _ _ F hF]
    exact wn_goes0 w0 m f n b r _ 8 a hq
  · rename_i y0 y1 y2 y3 y4 m f y7 n y9 y10 y11 b y13 y14 y15 y16 y17 y18 y19 y20 y21 r a F
    simp only [Option.some.injEq, Prod.mk.injEq, Bool.and_eq_true, decide_eq_true_eq] at hl
    obtain ⟨⟨hF, hq⟩, rfl, rfl, rfl⟩ := hl
    cases hx
    refine InGoes.weaken wnM ?_
    rw [wn_weaken _ _ _ _ _ _ _ _ _ _ _ _ _ _ _ _ _ _ _ _ _ _ _ _ F hF]
    exact wn_goes1 w0 m f n b r _ 8 a hq
  · cases hl
theorem wn_far : ∀ j, farOff ≤ j → ∀ F M, wnLp j F M = none := by
  intro j hj F M
  unfold wnLp
  split
  · exact absurd hj (by decide)
  · exact absurd hj (by decide)
  · rfl
end Go.Proofs.Ytlpahmefebgdlaa.Fx
