/- The law FnBurns: its second part; the numbers. No condition. -/
import Derived.Test.YtlpahmefebgdlaaBb
namespace Go.Proofs.Ytlpahmefebgdlaa.Fx
open Go Fa

noncomputable def stageK (a b c : F32) : Bool := bb (aMassK a) (bb (isFinK b) (bb (gtS b a) (aLengthK c) false) false) false
theorem stageK_eq (a b c : F32) : stageK a b c = stageOk a b c := by
  unfold stageK stageOk
  rw [← mass_eq, ← fin_eq, ← long_eq]
  simp only [bb_cond, aMassK_eq, isFinK_eq, gtS_eq, aLengthK_eq]
  cases aMass a <;> cases isFinite b <;> cases gt b a <;> rfl
noncomputable def part2K (j fa fb l : F32) : Bool :=
  bb (aMassK l) (bb (stageK on32 fa j) (bb (stageK half32 fb tw32) (
  fo (addD (widenF l) (widenF fb)) fun ab =>
  bb (gtD (addD (widenF on32) ab) zero) (bb (gtD (addD (widenF half32) (widenF l)) zero) (
  logK (divD (addD (widenF fa) ab) (addD (widenF on32) ab)) (fun L1 =>
  logK (divD (addD (widenF fb) (widenF l)) (addD (widenF half32) (widenF l))) (fun L2 =>
  tellK (addD (addD zero (mulD (widenF j) L1)) (mulD (widenF tw32) L2)) (fun both =>
  tellK (addD zero (mulD (widenF tw32) L2)) (fun last =>
  fo (addS (addS fa fb) l) fun x => fo (addS (addS on32 fb) l) fun y => fo (addS fb l) fun z => fo (addS half32 l) fun u =>
  bb (len3K j x y) (bb (ltS x y) false (bb (len3K tw32 z u) (bb (ltS z u) false (
  logK (divD (widenF x) (widenF y)) (fun L3 => tellK (mulD (widenF j) L3) (fun first =>
  logK (divD (widenF z) (widenF u)) (fun L4 => tellK (mulD (widenF tw32) L4) (fun second =>
  bb (ltD (gapK (widenF last) (widenF second)) milli) (ltD (gapK (widenF both) (addD (widenF first) (widenF second))) (mulD milli (addD one (widenF both)))) false) false) false) false) false)) false)) false) false) false) false) false) false) false) false) false) false

theorem boAll {j b a : F32} (h1 : (aLength j && aLength b && aLength a) = true) (h2 : lt b a = false) (h3 : logOk (boD b a) = true) (h4 : tellOk (boY j b a) = true) :
    q3 boC boQ j b a = true ∧ t3 boC boY j b a = true ∧ v3 boC boY j b a = narrow (boY j b a) := by
  obtain ⟨b1, b2, b3⟩ := told_of h4
  have hc : boC j b a = true := by unfold boC; rw [h1, h2]; rfl
  refine ⟨?_, ?_, ?_⟩
  · unfold q3 boQ; rw [hc, h3, b1]; rfl
  · unfold t3; rw [hc]; exact b3
  · unfold v3; rw [hc]; exact b2

theorem part2K_eq {j fa fb l : F32} (h : part2K j fa fb l = true) : bPart2 j fa fb l = Yes := by
  unfold part2K at h
  simp only [bb_cond, len3K_eq, aMassK_eq, tellK_eq, logK_eq, fo_eq, stageK_eq, mulD_eq, divD_eq, addD_eq, addS_eq, widenF_eq, ltS_eq, gtD_eq, ltD_eq, gapK_eq] at h
  obtain ⟨h1, h⟩ := peel_t h
  obtain ⟨h2, h⟩ := peel_t h
  obtain ⟨h3, h⟩ := peel_t h
  obtain ⟨h4, h⟩ := peel_t h
  obtain ⟨h5, h⟩ := peel_t h
  obtain ⟨h6, h⟩ := peel_t h
  obtain ⟨h7, h⟩ := peel_t h
  obtain ⟨h8, h⟩ := peel_t h
  obtain ⟨h9, h⟩ := peel_t h
  obtain ⟨h10, h⟩ := peel_t h
  obtain ⟨h11, h⟩ := peel_f h
  obtain ⟨h12, h⟩ := peel_t h
  obtain ⟨h13, h⟩ := peel_f h
  obtain ⟨h14, h⟩ := peel_t h
  obtain ⟨h15, h⟩ := peel_t h
  obtain ⟨h16, h⟩ := peel_t h
  obtain ⟨h17, h⟩ := peel_t h
  obtain ⟨h18, h19⟩ := peel_t h
  obtain ⟨a1, a2, a3⟩ := told_of h8
  obtain ⟨b1, b2, b3⟩ := told_of h9
  obtain ⟨c1, c2, c3⟩ := boAll h10 h11 h14 h15
  obtain ⟨d1, d2, d3⟩ := boAll h12 h13 h16 h17
  have f1 : fits (scS2 on32 fa j half32 fb tw32 l) = true := a1
  have f2 : toldV (narrow (scS2 on32 fa j half32 fb tw32 l)) = narrow (scS2 on32 fa j half32 fb tw32 l) := a2
  have f3 : toldB (narrow (scS2 on32 fa j half32 fb tw32 l)) = true := a3
  have g1 : fits (scS1 half32 fb tw32 l) = true := b1
  have g2 : toldV (narrow (scS1 half32 fb tw32 l)) = narrow (scS1 half32 fb tw32 l) := b2
  have g3 : toldB (narrow (scS1 half32 fb tw32 l)) = true := b3
  have l1 : logOk (scR fa on32 (scB1 l fb)) = true := h6
  have l2 : logOk (scR fb half32 (widen l)) = true := h7
  have k1 : scG on32 (scB1 l fb) = true := h4
  have k2 : scG half32 (widen l) = true := h5
  have q1 : sc2Q on32 fa j half32 fb tw32 l = true := by unfold sc2Q; rw [l1, l2, f1]; rfl
  have q2 : sc1Q half32 fb tw32 l = true := by unfold sc1Q; rw [l2, g1]; rfl
  have r1 : sc2C on32 fa j half32 fb tw32 l = true := by unfold sc2C scOk; rw [h1, h2, h3, k1, k2]; rfl
  have r2 : sc1C half32 fb tw32 l = true := by unfold sc1C scOk; rw [h1, h3, k2]; rfl
  have s1 : s2V on32 fa j half32 fb tw32 l = narrow (scS2 on32 fa j half32 fb tw32 l) := by unfold s2V; rw [r1]; exact f2
  have s2 : s2B on32 fa j half32 fb tw32 l = true := by unfold s2B; rw [r1]; exact f3
  have s3 : s1V half32 fb tw32 l = narrow (scS1 half32 fb tw32 l) := by unfold s1V; rw [r2]; exact g2
  have s4 : s1B half32 fb tw32 l = true := by unfold s1B; rw [r2]; exact g3
  unfold bPart2
  rw [q1, q2, c1, d1, s2, s4, c2, d2, h2, s1, s3, c3, d3]
  simp only [cond_true]
  have u1 : lt (gapB (widen (narrow (scS1 half32 fb tw32 l))) (widen (narrow (boY tw32 (fb + l) (half32 + l))))) milli = true := h18
  have u2 : lt (gapB (widen (narrow (scS2 on32 fa j half32 fb tw32 l))) (widen (narrow (boY j (fa + fb + l) (on32 + fb + l))) + widen (narrow (boY tw32 (fb + l) (half32 + l))))) (milli * (one + widen (narrow (scS2 on32 fa j half32 fb tw32 l)))) = true := h19
  rw [u1, u2]; rfl

-- the numbers
noncomputable def jetK (a : Nat) : F32 := divS (i32 (inc (a : Int))) four32
theorem jetK_eq (a : Nat) : jetK a = bJet a := by unfold jetK bJet; rw [divS_eq]
noncomputable def kthK (k : Nat) : F32 := divS (i32 (k : Int)) eight32
noncomputable def chK (j : F32) (k : Nat) : F32 := mulS (kthK k) j
theorem chK_eq (a k : Nat) : chK (bJet a) k = bChange a k := by unfold chK kthK bChange; rw [mulS_eq, divS_eq]
/-- All of the first part for one 'after'. -/
noncomputable def row1 (b : Nat) (ks : Nat) : Bool := fo (jetK b) fun af => allK ks fun k => allK 8 fun w => fo (jetK w) fun fl => allK 16 fun a => fo (jetK a) fun j => fo (chK j k) fun ch => part1K j af ch fl
theorem row1_of {b ks : Nat} (h : row1 b ks = true) {a k w : Nat} (ha : a < 16) (hk : k < ks) (hw : w < 8) : Part1 (bJet a) (bJet b) (bChange a k) (bFlow w) := by
  unfold row1 at h
  rw [fo_eq] at h
  have h1 := allK_of h k hk
  have h2 := allK_of h1 w hw
  rw [fo_eq] at h2
  have h3 := allK_of h2 a ha
  rw [fo_eq, fo_eq, jetK_eq, jetK_eq, jetK_eq, chK_eq] at h3
  exact part1K_eq h3
noncomputable def row2 (e : Nat) : Bool := fo (addS on32 (i32 (inc (e : Int)))) fun fa => allK 8 fun f => fo (addS half32 (divS (i32 (inc (f : Int))) tw32)) fun fb => allK 4 fun g => fo (i32 (inc (g : Int))) fun l => allK 16 fun a => fo (jetK a) fun j => part2K j fa fb l
theorem row2_of {e : Nat} (h : row2 e = true) {a f g : Nat} (ha : a < 16) (hf : f < 8) (hg : g < 4) : bPart2 (bJet a) (bFull e) (bFull2 f) (bLoad g) = Yes := by
  unfold row2 at h
  rw [fo_eq] at h
  have h1 := allK_of h f hf
  rw [fo_eq] at h1
  have h2 := allK_of h1 g hg
  rw [fo_eq] at h2
  have h3 := allK_of h2 a ha
  rw [fo_eq, jetK_eq, addS_eq, addS_eq, divS_eq] at h3
  exact part2K_eq h3
end Go.Proofs.Ytlpahmefebgdlaa.Fx
