/- The law FnBurns answers true: its run. No condition. -/
import Derived.Test.YtlpahmefebgdlaaBd
import Derived.Test.YtlpahmefebgdlaaBe
namespace Go.Proofs.Ytlpahmefebgdlaa.Fx
open Go

theorem row1_all {b : Nat} (h : b < 16) : row1 b 17 = true := by
  have h' : b = 0 ∨ b = 1 ∨ b = 2 ∨ b = 3 ∨ b = 4 ∨ b = 5 ∨ b = 6 ∨ b = 7 ∨ b = 8 ∨ b = 9 ∨ b = 10 ∨ b = 11 ∨ b = 12 ∨ b = 13 ∨ b = 14 ∨ b = 15 := by omega
  rcases h' with rfl | rfl | rfl | rfl | rfl | rfl | rfl | rfl | rfl | rfl | rfl | rfl | rfl | rfl | rfl | rfl
  · exact row1_0
  · exact row1_1
  · exact row1_2
  · exact row1_3
  · exact row1_4
  · exact row1_5
  · exact row1_6
  · exact row1_7
  · exact row1_8
  · exact row1_9
  · exact row1_10
  · exact row1_11
  · exact row1_12
  · exact row1_13
  · exact row1_14
  · exact row1_15
theorem row2_all {e : Nat} (h : e < 8) : row2 e = true := by
  have h' : e = 0 ∨ e = 1 ∨ e = 2 ∨ e = 3 ∨ e = 4 ∨ e = 5 ∨ e = 6 ∨ e = 7 := by omega
  rcases h' with rfl | rfl | rfl | rfl | rfl | rfl | rfl | rfl
  · exact row2_0
  · exact row2_1
  · exact row2_2
  · exact row2_3
  · exact row2_4
  · exact row2_5
  · exact row2_6
  · exact row2_7

theorem bAll_yes {a b k w e f g : Int} (ha : 0 ≤ a ∧ a < 16) (hb : 0 ≤ b ∧ b < 16) (hk : 0 ≤ k ∧ k < 17) (hw : 0 ≤ w ∧ w < 8) (he : 0 ≤ e ∧ e < 8) (hf : 0 ≤ f ∧ f < 8) (hg : 0 ≤ g ∧ g < 4) : bAll true true a b k w e f g = Yes := by
  obtain ⟨a, rfl⟩ := Int.eq_ofNat_of_zero_le ha.1
  obtain ⟨b, rfl⟩ := Int.eq_ofNat_of_zero_le hb.1
  obtain ⟨k, rfl⟩ := Int.eq_ofNat_of_zero_le hk.1
  obtain ⟨w, rfl⟩ := Int.eq_ofNat_of_zero_le hw.1
  obtain ⟨e, rfl⟩ := Int.eq_ofNat_of_zero_le he.1
  obtain ⟨f, rfl⟩ := Int.eq_ofNat_of_zero_le hf.1
  obtain ⟨g, rfl⟩ := Int.eq_ofNat_of_zero_le hg.1
  have p1 := row1_of (row1_all (by omega : b < 16)) (by omega : a < 16) (by omega : k < 17) (by omega : w < 8)
  have p2 := row2_of (row2_all (by omega : e < 8)) (by omega : a < 16) (by omega : f < 8) (by omega : g < 4)
  unfold bAll bRest
  rw [p1.q1, p1.q2, p1.q3, p1.all, p2]
  rfl

theorem burns_run {W : World} {c m : Value} {l l' : List Int} (hc : BytesAt W c l) (hm : BytesAt W m l') :
    runK Try.prog [eFuel, eBurnOf, eBurnTime, eGapB, eAfter, eStages, eValidStage] [] [] [wB10Long W, wB10At W] noRule Try.f4 [.c (.val c), .c (.val m)] = Yes := by
  rw [burns_raw, good_of hc, good_of hm]
  simp only [Bool.and_self, cond_true]
  cases longV 1048576 (bytesOf W c) (bytesOf W m)
  · exact bAll_yes (b10v_range _ _ (by decide)) (b10v_range _ _ (by decide)) (b10v_range _ _ (by decide)) (b10v_range _ _ (by decide)) (b10v_range _ _ (by decide)) (b10v_range _ _ (by decide)) (b10v_range _ _ (by decide))
  · rfl
end Go.Proofs.Ytlpahmefebgdlaa.Fx
