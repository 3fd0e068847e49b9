/- Texts put together: Xw. No condition. -/
import Derived.Test.YtlpahmefebgdlaaQv
import Derived.Test.YtlpahmefebgdlaaQw
import Derived.Test.YtlpahmefebgdlaaQx
import Derived.Laws.Cover2
/- The law FnShips answers true for every two slices of bytes. No condition. -/
namespace Go.Proofs.Ytlpahmefebgdlaa
open Go.ChangeShapes Go.WideShapes Go.ChangeAt Go.RowKit Fx

theorem fnShips_own : ownKnob Try.prog.godebug = none := by kernel_rfl
theorem fnShips_walk {W : World} {c m : Value} {l l' : List Int} (hc : BytesAt W c l) (hm : BytesAt W m l') : Calls Try.prog 8 #[c, m] W fun e W' => e = .returned (.bool true) ∧ Ext W W' := by
  obtain ⟨n, k, h⟩ := ships_run hc hm
  have := runV_sound (w := W) Try.func8 (by rfl) (by rfl) noRule_far (loopsOk_none 0 _) ships_draw (ext_mono W) h (Ext.refl W) (vs := [c, m]) (σ := []) (.cons rfl (.cons rfl .nil))
  exact this.mono fun e w' ⟨v, he, hv, hw⟩ => by
    have hv' : v = .bool true := hv
    subst hv'
    exact ⟨he, hw⟩

set_option maxRecDepth 100000 in
theorem fnShips_lifted (os : Os) (started : os.Started) (H : Type) (enc : TypeId × Value → H) :
    ReturnsInHanded {} Try.checked os 8 .any (Rows.fnShipsSpec.pre6 enc Try.prog Try.f8 Rows.fnShipsRow.domain false) (Rows.fnShipsSpec.post enc Try.prog Try.f8 false true false false) := by
  refine returnsInHanded_of_change (C := Try.checked) fnShips_own started (by kernel_rfl) Try.func8
    (ChangeSpec.witness6 (enc := enc) (C := Try.checked) false ⟨#[], #[.slice none 0 0, .slice none 0 0], []⟩ 8 (by kernel_rfl) (by kernel_rfl) (by kernel_rfl) (by kernel_rfl)) ?_
  intro W base args ds gs before hval0 hW _ _
  have hval : ∀ (j : Nat) t v, Try.f8.params[j]? = some t → args[j]? = some v → Value.okWide Try.prog W .any base t v := hval0
  have hW' := hW
  obtain ⟨p, q, hA0, hV, rfl, hfz, hnd⟩ := hW
  have hA : DataW.TrodAll enc Try.prog W 0 (fun _ => true) true Try.f8.params.toList args.toList ds p := hA0
  rw [Try.params8] at hA hval
  obtain ⟨v0, v1, d0, d1, p0, p1, rfl, rfl, rfl, h0, h1⟩ := trodAll_two hA
  obtain ⟨rfl, rfl⟩ := trodVars_none hV
  obtain ⟨⟨l0, k0⟩, m0⟩ := open_bytes (hval 0 22 v0 rfl rfl) h0
  obtain ⟨⟨l1, k1⟩, m1⟩ := open_bytes (hval 1 22 v1 rfl rfl) h1
  clear hA0 hval0
  refine (fnShips_walk k0 k1).mono fun e W' ⟨he, bel⟩ => ?_
  subst he
  exact ⟨_, rfl, _, _, _, [], _, [], hW', trodAll_mk1 (shut_bool Try.underlying4 _), trodAll_mk2 (shut_bytes h0 m0 bel) (shut_bytes h1 m1 bel), rfl, bel.frame _, fun h => by cases h⟩

/-- THE STATEMENT. -/
theorem fnShips_holds : Rows.FnShipsSaid :=
  OpenClaim.holds_of_wide 8 Try.f8 rfl rfl rfl rfl rfl rfl rfl ⟨rfl, rfl, rfl, rfl, rfl⟩ rfl rfl rfl rfl rfl (by kernel_rfl) Try.func8 (by kernel_rfl)
    (of_decide_eq_true (by kernel_rfl)) (by unfold Func.isWrapper; first | (rw [if_pos (by decide +kernel)]; kernel_rfl) | (rw [if_neg (by decide +kernel)]; exact ⟨rfl, rfl⟩))
    (fun os started H enc _ => fnShips_lifted os started H enc)
#print axioms fnShips_holds
end Go.Proofs.Ytlpahmefebgdlaa
