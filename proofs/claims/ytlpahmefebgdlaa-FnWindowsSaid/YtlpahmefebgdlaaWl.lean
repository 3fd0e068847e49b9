/- The law FnWindows answers true for every two slices of bytes. No condition. -/
import Derived.Test.YtlpahmefebgdlaaWh
import Derived.Test.YtlpahmefebgdlaaWi
import Derived.Test.YtlpahmefebgdlaaWj
import Derived.Test.YtlpahmefebgdlaaWk
import Derived.Test.YtlpahmefebgdlaaLb
import Derived.Laws.Cover2
namespace Go.Proofs.Ytlpahmefebgdlaa.Fx
open Go Go.RowKit

theorem win_0 {b : Nat} (h : b < 8) : winRow 65 0 b 8 = true := by
  have h' : b = 0 ∨ b = 1 ∨ b = 2 ∨ b = 3 ∨ b = 4 ∨ b = 5 ∨ b = 6 ∨ b = 7 := by omega
  rcases h' with rfl | rfl | rfl | rfl | rfl | rfl | rfl | rfl
  · exact wr_0_0
  · exact wr_0_1
  · exact wr_0_2
  · exact wr_0_3
  · exact wr_0_4
  · exact wr_0_5
  · exact wr_0_6
  · exact wr_0_7
theorem win_1 {b : Nat} (h : b < 8) : winRow 65 1 b 8 = true := by
  have h' : b = 0 ∨ b = 1 ∨ b = 2 ∨ b = 3 ∨ b = 4 ∨ b = 5 ∨ b = 6 ∨ b = 7 := by omega
  rcases h' with rfl | rfl | rfl | rfl | rfl | rfl | rfl | rfl
  · exact wr_1_0
  · exact wr_1_1
  · exact wr_1_2
  · exact wr_1_3
  · exact wr_1_4
  · exact wr_1_5
  · exact wr_1_6
  · exact wr_1_7
theorem win_2 {b : Nat} (h : b < 8) : winRow 65 2 b 8 = true := by
  have h' : b = 0 ∨ b = 1 ∨ b = 2 ∨ b = 3 ∨ b = 4 ∨ b = 5 ∨ b = 6 ∨ b = 7 := by omega
  rcases h' with rfl | rfl | rfl | rfl | rfl | rfl | rfl | rfl
  · exact wr_2_0
  · exact wr_2_1
  · exact wr_2_2
  · exact wr_2_3
  · exact wr_2_4
  · exact wr_2_5
  · exact wr_2_6
  · exact wr_2_7
theorem win_3 {b : Nat} (h : b < 8) : winRow 65 3 b 8 = true := by
  have h' : b = 0 ∨ b = 1 ∨ b = 2 ∨ b = 3 ∨ b = 4 ∨ b = 5 ∨ b = 6 ∨ b = 7 := by omega
  rcases h' with rfl | rfl | rfl | rfl | rfl | rfl | rfl | rfl
  · exact wr_3_0
  · exact wr_3_1
  · exact wr_3_2
  · exact wr_3_3
  · exact wr_3_4
  · exact wr_3_5
  · exact wr_3_6
  · exact wr_3_7
theorem win_4 {b : Nat} (h : b < 8) : winRow 65 4 b 8 = true := by
  have h' : b = 0 ∨ b = 1 ∨ b = 2 ∨ b = 3 ∨ b = 4 ∨ b = 5 ∨ b = 6 ∨ b = 7 := by omega
  rcases h' with rfl | rfl | rfl | rfl | rfl | rfl | rfl | rfl
  · exact wr_4_0
  · exact wr_4_1
  · exact wr_4_2
  · exact wr_4_3
  · exact wr_4_4
  · exact wr_4_5
  · exact wr_4_6
  · exact wr_4_7
theorem win_5 {b : Nat} (h : b < 8) : winRow 65 5 b 8 = true := by
  have h' : b = 0 ∨ b = 1 ∨ b = 2 ∨ b = 3 ∨ b = 4 ∨ b = 5 ∨ b = 6 ∨ b = 7 := by omega
  rcases h' with rfl | rfl | rfl | rfl | rfl | rfl | rfl | rfl
  · exact wr_5_0
  · exact wr_5_1
  · exact wr_5_2
  · exact wr_5_3
  · exact wr_5_4
  · exact wr_5_5
  · exact wr_5_6
  · exact wr_5_7
theorem win_6 {b : Nat} (h : b < 8) : winRow 65 6 b 8 = true := by
  have h' : b = 0 ∨ b = 1 ∨ b = 2 ∨ b = 3 ∨ b = 4 ∨ b = 5 ∨ b = 6 ∨ b = 7 := by omega
  rcases h' with rfl | rfl | rfl | rfl | rfl | rfl | rfl | rfl
  · exact wr_6_0
  · exact wr_6_1
  · exact wr_6_2
  · exact wr_6_3
  · exact wr_6_4
  · exact wr_6_5
  · exact wr_6_6
  · exact wr_6_7
theorem win_7 {b : Nat} (h : b < 8) : winRow 65 7 b 8 = true := by
  have h' : b = 0 ∨ b = 1 ∨ b = 2 ∨ b = 3 ∨ b = 4 ∨ b = 5 ∨ b = 6 ∨ b = 7 := by omega
  rcases h' with rfl | rfl | rfl | rfl | rfl | rfl | rfl | rfl
  · exact wr_7_0
  · exact wr_7_1
  · exact wr_7_2
  · exact wr_7_3
  · exact wr_7_4
  · exact wr_7_5
  · exact wr_7_6
  · exact wr_7_7
theorem win_all {a b : Nat} (ha : a < 8) (hb : b < 8) : winRow 65 a b 8 = true := by
  have h' : a = 0 ∨ a = 1 ∨ a = 2 ∨ a = 3 ∨ a = 4 ∨ a = 5 ∨ a = 6 ∨ a = 7 := by omega
  rcases h' with rfl | rfl | rfl | rfl | rfl | rfl | rfl | rfl
  · exact win_0 hb
  · exact win_1 hb
  · exact win_2 hb
  · exact win_3 hb
  · exact win_4 hb
  · exact win_5 hb
  · exact win_6 hb
  · exact win_7 hb
theorem wn_everywhere {a b c k : Int} (ha : 0 ≤ a ∧ a < 8) (hb : 0 ≤ b ∧ b < 8) (hc : 0 ≤ c ∧ c < 8) (hk : 0 ≤ k ∧ k < 65) : wnAll (massOf a) (wFrom b) (wFrom b + wFrom c) (wNow k) = wYes := by
  obtain ⟨a, rfl⟩ := Int.eq_ofNat_of_zero_le ha.1
  obtain ⟨b, rfl⟩ := Int.eq_ofNat_of_zero_le hb.1
  obtain ⟨c, rfl⟩ := Int.eq_ofNat_of_zero_le hc.1
  obtain ⟨k, rfl⟩ := Int.eq_ofNat_of_zero_le hk.1
  exact winRow_of (win_all (by omega) (by omega)) (by omega) (by omega)
theorem windows_run {W : World} {c m : Value} {l l' : List Int} (hc : BytesAt W c l) (hm : BytesAt W m l') :
    runK Try.prog [eLeadOf, eWindow, eCircle, ePeriodV, eGapB] [] [] [wB10Long W, wB10At W, wMass W] wnLp [] Try.f5 [.c (.val c), .c (.val m)] = wYes := by
  rw [wn_raw, good_of hc, good_of hm]
  simp only [Bool.and_self, cond_true]
  rw [wn_everywhere (massAt_range _) (b10v_range _ _ (by decide)) (b10v_range _ _ (by decide)) (b10v_range _ _ (by decide))]
  cases longV 1048576 (bytesOf W c) (bytesOf W m) <;> rfl
end Go.Proofs.Ytlpahmefebgdlaa.Fx
namespace Go.Proofs.Ytlpahmefebgdlaa
open Go.ChangeShapes Go.WideShapes Go.ChangeAt Go.RowKit Fx

theorem fnWindows_own : ownKnob Try.prog.godebug = none := by kernel_rfl
theorem fnWindows_walk {W : World} {c m : Value} {l l' : List Int} (hc : BytesAt W c l) (hm : BytesAt W m l') : Calls Try.prog 5 #[c, m] W fun e W' => e = .returned (.bool true) ∧ Ext W W' := by
  have := runK_sound (w := W) Try.func5 (by rfl) (windows_run hc hm) wn_far wn_loops (drawOk_nil 0 _) (ext_mono W) (Ext.refl W) (vs := [c, m]) (σ := []) (.cons rfl (.cons rfl .nil))
  exact this.mono fun e w' ⟨v, he, hv, hw⟩ => by
    have hv' : v = .bool true := hv
    subst hv'
    exact ⟨he, hw⟩

set_option maxRecDepth 100000 in
theorem fnWindows_lifted (os : Os) (started : os.Started) (H : Type) (enc : TypeId × Value → H) :
    ReturnsInHanded {} Try.checked os 5 .any (Rows.fnWindowsSpec.pre6 enc Try.prog Try.f5 Rows.fnWindowsRow.domain false) (Rows.fnWindowsSpec.post enc Try.prog Try.f5 false true false false) := by
  refine returnsInHanded_of_change (C := Try.checked) fnWindows_own started (by kernel_rfl) Try.func5
    (ChangeSpec.witness6 (enc := enc) (C := Try.checked) false ⟨#[], #[.slice none 0 0, .slice none 0 0], []⟩ 8 (by kernel_rfl) (by kernel_rfl) (by kernel_rfl) (by kernel_rfl)) ?_
  intro W base args ds gs before hval0 hW _ _
  have hval : ∀ (j : Nat) t v, Try.f5.params[j]? = some t → args[j]? = some v → Value.okWide Try.prog W .any base t v := hval0
  have hW' := hW
  obtain ⟨p, q, hA0, hV, rfl, hfz, hnd⟩ := hW
  have hA : DataW.TrodAll enc Try.prog W 0 (fun _ => true) true Try.f5.params.toList args.toList ds p := hA0
  rw [Try.params5] at hA hval
  obtain ⟨v0, v1, d0, d1, p0, p1, rfl, rfl, rfl, h0, h1⟩ := trodAll_two hA
  obtain ⟨rfl, rfl⟩ := trodVars_none hV
  obtain ⟨⟨l0, k0⟩, m0⟩ := open_bytes (hval 0 22 v0 rfl rfl) h0
  obtain ⟨⟨l1, k1⟩, m1⟩ := open_bytes (hval 1 22 v1 rfl rfl) h1
  clear hA0 hval0
  refine (fnWindows_walk k0 k1).mono fun e W' ⟨he, bel⟩ => ?_
  subst he
  exact ⟨_, rfl, _, _, _, [], _, [], hW', trodAll_mk1 (shut_bool Try.underlying4 _), trodAll_mk2 (shut_bytes h0 m0 bel) (shut_bytes h1 m1 bel), rfl, bel.frame _, fun h => by cases h⟩

/-- THE STATEMENT. -/
theorem fnWindows_holds : Rows.FnWindowsSaid :=
  OpenClaim.holds_of_wide 5 Try.f5 rfl rfl rfl rfl rfl rfl rfl ⟨rfl, rfl, rfl, rfl, rfl⟩ rfl rfl rfl rfl rfl (by kernel_rfl) Try.func5 (by kernel_rfl)
    (of_decide_eq_true (by kernel_rfl)) (by unfold Func.isWrapper; first | (rw [if_pos (by decide +kernel)]; kernel_rfl) | (rw [if_neg (by decide +kernel)]; exact ⟨rfl, rfl⟩))
    (fun os started H enc _ => fnWindows_lifted os started H enc)
#print axioms fnWindows_holds
end Go.Proofs.Ytlpahmefebgdlaa
