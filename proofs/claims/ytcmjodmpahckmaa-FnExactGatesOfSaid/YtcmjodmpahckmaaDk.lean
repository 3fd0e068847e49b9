/- The law FnExactGatesOf answers true for every 32-bit numbers. No condition. -/
import Derived.Test.YtcmjodmpahckmaaCo
import Derived.Test.YtcmjodmpahckmaaRows
import Derived.ProofKit
import Derived.OpenShut
import Derived.Laws.Cover2
namespace Go.Proofs.Ytcmjodmpahckmaa
open Go.ChangeShapes Go.WideShapes Go.ChangeAt Go.RowKit Fx

theorem fnExactGatesOf_own : ownKnob Try.prog.godebug = none := by kernel_rfl
theorem fnExactGatesOf_walk (b0 : Nat) (w0 : (Lit.float .f32 b0).wf = true) (W : World) : Calls Try.prog 13 #[.float .f32 b0] W fun e W' => e = .returned (.bool true) ∧ Below W.heap.size W W' := by
  have k0 : b0 < 2 ^ FloatKind.f32.format.width := by
    show b0 < 2 ^ 32
    simpa [Lit.wf] using w0
  obtain ⟨x0, t0, e0⟩ := form (k := .f32) b0 k0
  have := runJ_sound (w := W) Try.func13 (by rfl) (gates_run x0) (vs := [.float .f32 b0]) (σ := []) (.cons ⟨t0, by rw [e0], by rw [← e0]; exact k0⟩ .nil)
  exact this.mono fun e w' ⟨v, he, hv, hw⟩ => by
    have hv' : v = .bool true := hv
    subst hv'
    exact ⟨he, hw⟩

set_option maxRecDepth 100000 in
theorem fnExactGatesOf_lifted (os : Os) (started : os.Started) (H : Type) (enc : TypeId × Value → H) :
    ReturnsInHanded {} Try.checked os 13 .any (Rows.fnExactGatesOfSpec.pre6 enc Try.prog Try.f13 Rows.fnExactGatesOfRow.domain false) (Rows.fnExactGatesOfSpec.post enc Try.prog Try.f13 false true false false) := by
  refine returnsInHanded_of_change (C := Try.checked) fnExactGatesOf_own started (by kernel_rfl) Try.func13
    (ChangeSpec.witness6 (enc := enc) (C := Try.checked) false ⟨#[], #[.float .f32 0], []⟩ 8 (by kernel_rfl) (by kernel_rfl) (by kernel_rfl) (by kernel_rfl)) ?_
  intro W base args ds gs before hval0 hW _ _
  have hval : ∀ (j : Nat) t v, Try.f13.params[j]? = some t → args[j]? = some v → Value.okWide Try.prog W .any base t v := hval0
  have hW' := hW
  obtain ⟨p, q, hA0, hV, rfl, hfz, hnd⟩ := hW
  have hA : DataW.TrodAll enc Try.prog W 0 (fun _ => true) true Try.f13.params.toList args.toList ds p := hA0
  rw [Try.params13] at hA hval
  obtain ⟨v0, vs0, d0, ds0, p0, q0, hargs0, rfl, rfl, h0, r0⟩ := trodAll_cons hA
  obtain ⟨rfl, rfl, rfl⟩ := trodAll_nil r0
  obtain rfl : args = #[v0] := by cases args; simp_all
  obtain ⟨rfl, rfl⟩ := trodVars_none hV
  obtain ⟨b0, rfl, rfl, rfl, w0⟩ := open_float Try.underlying22 (hval 0 22 v0 rfl rfl) h0
  clear hA0 hval0
  refine (fnExactGatesOf_walk b0 w0 W).mono fun e W' ⟨he, bel⟩ => ?_
  subst he
  exact ⟨_, rfl, _, _, _, [], _, [], hW', trodAll_mk1 (shut_bool Try.underlying4 _), (trodAll_cons_mk (shut_float Try.underlying22 w0) trodAll_mk0), rfl, bel.frame _, fun h => by cases h⟩

/-- THE STATEMENT. -/
theorem fnExactGatesOf_holds : Rows.FnExactGatesOfSaid :=
  OpenClaim.holds_of_wide 13 Try.f13 rfl rfl rfl rfl rfl rfl rfl ⟨rfl, rfl, rfl, rfl, rfl⟩ rfl rfl rfl rfl rfl (by kernel_rfl) Try.func13 (by kernel_rfl)
    (of_decide_eq_true (by kernel_rfl)) (by unfold Func.isWrapper; first | (rw [if_pos (by decide +kernel)]; kernel_rfl) | (rw [if_neg (by decide +kernel)]; exact ⟨rfl, rfl⟩))
    (fun os started H enc _ => fnExactGatesOf_lifted os started H enc)
#print axioms fnExactGatesOf_holds
end Go.Proofs.Ytcmjodmpahckmaa
