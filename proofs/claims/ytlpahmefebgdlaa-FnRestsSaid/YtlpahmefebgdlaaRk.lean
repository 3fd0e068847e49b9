/- The law FnRests answers true for every two slices of bytes. No condition. -/
import Derived.Test.YtlpahmefebgdlaaRb
import Derived.Test.YtlpahmefebgdlaaRf
import Derived.Test.YtlpahmefebgdlaaRg
import Derived.Test.YtlpahmefebgdlaaRh
import Derived.Test.YtlpahmefebgdlaaRi
import Derived.Test.YtlpahmefebgdlaaLb
import Derived.Laws.Cover2
namespace Go.Proofs.Ytlpahmefebgdlaa.Fx
open Go Go.RowKit

theorem share_all {a : Nat} (h : a < 16) : shareRow a = true := by
  have h' : a = 0 ∨ a = 1 ∨ a = 2 ∨ a = 3 ∨ a = 4 ∨ a = 5 ∨ a = 6 ∨ a = 7 ∨ a = 8 ∨ a = 9 ∨ a = 10 ∨ a = 11 ∨ a = 12 ∨ a = 13 ∨ a = 14 ∨ a = 15 := by omega
  rcases h' with rfl | rfl | rfl | rfl | rfl | rfl | rfl | rfl | rfl | rfl | rfl | rfl | rfl | rfl | rfl | rfl
  · exact rs_0
  · exact rs_1
  · exact rs_2
  · exact rs_3
  · exact rs_4
  · exact rs_5
  · exact rs_6
  · exact rs_7
  · exact rs_8
  · exact rs_9
  · exact rs_10
  · exact rs_11
  · exact rs_12
  · exact rs_13
  · exact rs_14
  · exact rs_15
theorem at_all {a b c : Nat} (h : a < 16) (hb : b < 33) (hc : c < 16) : rp4 (rShare a) (rAtX b) (rAtY c) = Yes := by
  have h' : a = 0 ∨ a = 1 ∨ a = 2 ∨ a = 3 ∨ a = 4 ∨ a = 5 ∨ a = 6 ∨ a = 7 ∨ a = 8 ∨ a = 9 ∨ a = 10 ∨ a = 11 ∨ a = 12 ∨ a = 13 ∨ a = 14 ∨ a = 15 := by omega
  rcases (by omega : (0 ≤ b ∧ b < 0 + 11) ∨ (11 ≤ b ∧ b < 11 + 11) ∨ (22 ≤ b ∧ b < 22 + 11)) with hb | hb | hb
  · rcases h' with rfl | rfl | rfl | rfl | rfl | rfl | rfl | rfl | rfl | rfl | rfl | rfl | rfl | rfl | rfl | rfl
    · exact atBlock_of rt_0_0 hb.1 hb.2 hc
    · exact atBlock_of rt_1_0 hb.1 hb.2 hc
    · exact atBlock_of rt_2_0 hb.1 hb.2 hc
    · exact atBlock_of rt_3_0 hb.1 hb.2 hc
    · exact atBlock_of rt_4_0 hb.1 hb.2 hc
    · exact atBlock_of rt_5_0 hb.1 hb.2 hc
    · exact atBlock_of rt_6_0 hb.1 hb.2 hc
    · exact atBlock_of rt_7_0 hb.1 hb.2 hc
    · exact atBlock_of rt_8_0 hb.1 hb.2 hc
    · exact atBlock_of rt_9_0 hb.1 hb.2 hc
    · exact atBlock_of rt_10_0 hb.1 hb.2 hc
    · exact atBlock_of rt_11_0 hb.1 hb.2 hc
    · exact atBlock_of rt_12_0 hb.1 hb.2 hc
    · exact atBlock_of rt_13_0 hb.1 hb.2 hc
    · exact atBlock_of rt_14_0 hb.1 hb.2 hc
    · exact atBlock_of rt_15_0 hb.1 hb.2 hc
  · rcases h' with rfl | rfl | rfl | rfl | rfl | rfl | rfl | rfl | rfl | rfl | rfl | rfl | rfl | rfl | rfl | rfl
    · exact atBlock_of rt_0_11 hb.1 hb.2 hc
    · exact atBlock_of rt_1_11 hb.1 hb.2 hc
    · exact atBlock_of rt_2_11 hb.1 hb.2 hc
    · exact atBlock_of rt_3_11 hb.1 hb.2 hc
    · exact atBlock_of rt_4_11 hb.1 hb.2 hc
    · exact atBlock_of rt_5_11 hb.1 hb.2 hc
    · exact atBlock_of rt_6_11 hb.1 hb.2 hc
    · exact atBlock_of rt_7_11 hb.1 hb.2 hc
    · exact atBlock_of rt_8_11 hb.1 hb.2 hc
    · exact atBlock_of rt_9_11 hb.1 hb.2 hc
    · exact atBlock_of rt_10_11 hb.1 hb.2 hc
    · exact atBlock_of rt_11_11 hb.1 hb.2 hc
    · exact atBlock_of rt_12_11 hb.1 hb.2 hc
    · exact atBlock_of rt_13_11 hb.1 hb.2 hc
    · exact atBlock_of rt_14_11 hb.1 hb.2 hc
    · exact atBlock_of rt_15_11 hb.1 hb.2 hc
  · rcases h' with rfl | rfl | rfl | rfl | rfl | rfl | rfl | rfl | rfl | rfl | rfl | rfl | rfl | rfl | rfl | rfl
    · exact atBlock_of rt_0_22 hb.1 hb.2 hc
    · exact atBlock_of rt_1_22 hb.1 hb.2 hc
    · exact atBlock_of rt_2_22 hb.1 hb.2 hc
    · exact atBlock_of rt_3_22 hb.1 hb.2 hc
    · exact atBlock_of rt_4_22 hb.1 hb.2 hc
    · exact atBlock_of rt_5_22 hb.1 hb.2 hc
    · exact atBlock_of rt_6_22 hb.1 hb.2 hc
    · exact atBlock_of rt_7_22 hb.1 hb.2 hc
    · exact atBlock_of rt_8_22 hb.1 hb.2 hc
    · exact atBlock_of rt_9_22 hb.1 hb.2 hc
    · exact atBlock_of rt_10_22 hb.1 hb.2 hc
    · exact atBlock_of rt_11_22 hb.1 hb.2 hc
    · exact atBlock_of rt_12_22 hb.1 hb.2 hc
    · exact atBlock_of rt_13_22 hb.1 hb.2 hc
    · exact atBlock_of rt_14_22 hb.1 hb.2 hc
    · exact atBlock_of rt_15_22 hb.1 hb.2 hc
theorem rests_b {a : Int} (ha : 0 ≤ a ∧ a < 16) {α : Type} (nay rest : Option α) : rpB nay (rShare a) rest = rest := by
  obtain ⟨a, rfl⟩ := Int.eq_ofNat_of_zero_le ha.1
  exact shareRow_of (share_all (by omega)) nay rest
theorem rests_4 {a b c : Int} (ha : 0 ≤ a ∧ a < 16) (hb : 0 ≤ b ∧ b < 33) (hc : 0 ≤ c ∧ c < 16) : rp4 (rShare a) (rAtX b) (rAtY c) = Yes := by
  obtain ⟨a, rfl⟩ := Int.eq_ofNat_of_zero_le ha.1
  obtain ⟨b, rfl⟩ := Int.eq_ofNat_of_zero_le hb.1
  obtain ⟨c, rfl⟩ := Int.eq_ofNat_of_zero_le hc.1
  exact at_all (by omega) (by omega) (by omega)

theorem rests_run {W : World} {c m : Value} {l l' : List Int} (hc : BytesAt W c l) (hm : BytesAt W m l') :
    runHead Try.prog [eMasses, ePush, eConst, eLong, eGapR, eApart, eSteady] [] [ePointsN, eGatesN] [wR8Long W, wR8At W] noRule [21] 23 restM Try.f3 [.c (.val c), .c (.val m)]
      (runTail Try.prog [eConst, eLong, eGapR, eApart, eSlope, eConj, ePotAt, eBends, eSpeed] [] [] [wR8At W] noRule [21] 23 Try.f3) = Yes := by
  rw [rests_head, rests_tail, good_of hc, good_of hm]
  simp only [Bool.and_self, cond_true]
  rw [rests_b (r8v_range _ _ (by decide)), rests_4 (r8v_range _ _ (by decide)) (r8v_range _ _ (by decide)) (r8v_range _ _ (by decide))]
  cases longV 48 (bytesOf W c) (bytesOf W m) <;> rfl
end Go.Proofs.Ytlpahmefebgdlaa.Fx
namespace Go.Proofs.Ytlpahmefebgdlaa
open Go.ChangeShapes Go.WideShapes Go.ChangeAt Go.RowKit Fx

theorem fnRests_own : ownKnob Try.prog.godebug = none := by kernel_rfl
theorem fnRests_walk {W : World} {c m : Value} {l l' : List Int} (hc : BytesAt W c l) (hm : BytesAt W m l') : Calls Try.prog 3 #[c, m] W fun e W' => e = .returned (.bool true) ∧ Ext W W' := by
  have := run2_sound (w := W) Try.func3 (by rfl) (by rfl) noRule_far (loopsOk_none 0 _) rests_draw (ext_mono W) (rests_run hc hm) (Ext.refl W) (vs := [c, m]) (σ := []) (.cons rfl (.cons rfl .nil))
  exact this.mono fun e w' ⟨v, he, hv, hw⟩ => by
    have hv' : v = .bool true := hv
    subst hv'
    exact ⟨he, hw⟩

set_option maxRecDepth 100000 in
theorem fnRests_lifted (os : Os) (started : os.Started) (H : Type) (enc : TypeId × Value → H) :
    ReturnsInHanded {} Try.checked os 3 .any (Rows.fnRestsSpec.pre6 enc Try.prog Try.f3 Rows.fnRestsRow.domain false) (Rows.fnRestsSpec.post enc Try.prog Try.f3 false true false false) := by
  refine returnsInHanded_of_change (C := Try.checked) fnRests_own started (by kernel_rfl) Try.func3
    (ChangeSpec.witness6 (enc := enc) (C := Try.checked) false ⟨#[], #[.slice none 0 0, .slice none 0 0], []⟩ 8 (by kernel_rfl) (by kernel_rfl) (by kernel_rfl) (by kernel_rfl)) ?_
  intro W base args ds gs before hval0 hW _ _
  have hval : ∀ (j : Nat) t v, Try.f3.params[j]? = some t → args[j]? = some v → Value.okWide Try.prog W .any base t v := hval0
  have hW' := hW
  obtain ⟨p, q, hA0, hV, rfl, hfz, hnd⟩ := hW
  have hA : DataW.TrodAll enc Try.prog W 0 (fun _ => true) true Try.f3.params.toList args.toList ds p := hA0
  rw [Try.params3] at hA hval
  obtain ⟨v0, v1, d0, d1, p0, p1, rfl, rfl, rfl, h0, h1⟩ := trodAll_two hA
  obtain ⟨rfl, rfl⟩ := trodVars_none hV
  obtain ⟨⟨l0, k0⟩, m0⟩ := open_bytes (hval 0 22 v0 rfl rfl) h0
  obtain ⟨⟨l1, k1⟩, m1⟩ := open_bytes (hval 1 22 v1 rfl rfl) h1
  clear hA0 hval0
  refine (fnRests_walk k0 k1).mono fun e W' ⟨he, bel⟩ => ?_
  subst he
  exact ⟨_, rfl, _, _, _, [], _, [], hW', trodAll_mk1 (shut_bool Try.underlying4 _), trodAll_mk2 (shut_bytes h0 m0 bel) (shut_bytes h1 m1 bel), rfl, bel.frame _, fun h => by cases h⟩

/-- THE STATEMENT. -/
theorem fnRests_holds : Rows.FnRestsSaid :=
  OpenClaim.holds_of_wide 3 Try.f3 rfl rfl rfl rfl rfl rfl rfl ⟨rfl, rfl, rfl, rfl, rfl⟩ rfl rfl rfl rfl rfl (by kernel_rfl) Try.func3 (by kernel_rfl)
    (of_decide_eq_true (by kernel_rfl)) (by unfold Func.isWrapper; first | (rw [if_pos (by decide +kernel)]; kernel_rfl) | (rw [if_neg (by decide +kernel)]; exact ⟨rfl, rfl⟩))
    (fun os started H enc _ => fnRests_lifted os started H enc)
#print axioms fnRests_holds
end Go.Proofs.Ytlpahmefebgdlaa
