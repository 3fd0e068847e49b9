/- The law FnExactValidStage answers true for every struct of 32-bit numbers. No condition. -/
import Derived.Test.YtcmjodmpahckmaaCi
import Derived.Test.YtcmjodmpahckmaaLf
import Derived.Test.YtcmjodmpahckmaaRows
import Derived.ProofKit
import Derived.OpenShut
import Derived.Laws.Cover2
namespace Go.Proofs.Ytcmjodmpahckmaa
open Go.ChangeShapes Go.WideShapes Go.ChangeAt Go.RowKit Fx

theorem fnExactValidStage_own : ownKnob Try.prog.godebug = none := by kernel_rfl
theorem fnExactValidStage_walk (b0 : Nat) (b1 : Nat) (b2 : Nat) (w0 : (Lit.float .f32 b0).wf = true) (w1 : (Lit.float .f32 b1).wf = true) (w2 : (Lit.float .f32 b2).wf = true) (W : World) : Calls Try.prog 5 #[.agg #[.float .f32 b0, .float .f32 b1, .float .f32 b2]] W fun e W' => e = .returned (.bool true) ∧ Below W.heap.size W W' := by
  have k0 : b0 < 2 ^ FloatKind.f32.format.width := by
    show b0 < 2 ^ 32
    simpa [Lit.wf] using w0
  obtain ⟨x0, t0, e0⟩ := form (k := .f32) b0 k0
  have k1 : b1 < 2 ^ FloatKind.f32.format.width := by
    show b1 < 2 ^ 32
    simpa [Lit.wf] using w1
  obtain ⟨x1, t1, e1⟩ := form (k := .f32) b1 k1
  have k2 : b2 < 2 ^ FloatKind.f32.format.width := by
    show b2 < 2 ^ 32
    simpa [Lit.wf] using w2
  obtain ⟨x2, t2, e2⟩ := form (k := .f32) b2 k2
  have := run_sound Try.func5 (validStage_run x0 x1 x2) (MemOk.nil W) (vs := [.agg #[.float .f32 b0, .float .f32 b1, .float .f32 b2]]) (.cons ⟨_, rfl, (.cons ⟨t0, by rw [e0], by rw [← e0]; exact k0⟩ (.cons ⟨t1, by rw [e1], by rw [← e1]; exact k1⟩ (.cons ⟨t2, by rw [e2], by rw [← e2]; exact k2⟩ .nil)))⟩ .nil)
  exact this.mono fun e w' ⟨v, he, hv, hw⟩ => by
    have hv' : v = .bool true := hv
    subst hv'
    exact ⟨he, hw⟩

set_option maxRecDepth 100000 in
theorem fnExactValidStage_lifted (os : Os) (started : os.Started) (H : Type) (enc : TypeId × Value → H) :
    ReturnsInHanded {} Try.checked os 5 .any (Rows.fnExactValidStageSpec.pre6 enc Try.prog Try.f5 Rows.fnExactValidStageRow.domain false) (Rows.fnExactValidStageSpec.post enc Try.prog Try.f5 false true false false) := by
  refine returnsInHanded_of_change (C := Try.checked) fnExactValidStage_own started (by kernel_rfl) Try.func5
    (ChangeSpec.witness6 (enc := enc) (C := Try.checked) false ⟨#[], #[.agg #[.float .f32 0, .float .f32 0, .float .f32 0]], []⟩ 8 (by kernel_rfl) (by kernel_rfl) (by kernel_rfl) (by kernel_rfl)) ?_
  intro W base args ds gs before hval0 hW _ _
  have hval : ∀ (j : Nat) t v, Try.f5.params[j]? = some t → args[j]? = some v → Value.okWide Try.prog W .any base t v := hval0
  have hW' := hW
  obtain ⟨p, q, hA0, hV, rfl, hfz, hnd⟩ := hW
  have hA : DataW.TrodAll enc Try.prog W 0 (fun _ => true) true Try.f5.params.toList args.toList ds p := hA0
  rw [Try.params5] at hA hval
  obtain ⟨v0, vs0, d0, ds0, p0, q0, hargs0, rfl, rfl, h0, r0⟩ := trodAll_cons hA
  obtain ⟨rfl, rfl, rfl⟩ := trodAll_nil r0
  obtain rfl : args = #[v0] := by cases args; simp_all
  obtain ⟨rfl, rfl⟩ := trodVars_none hV
  obtain ⟨b0, b1, b2, rfl, rfl, rfl, w0, w1, w2⟩ := open_fl3 Try.underlying29 (by kernel_rfl) (by kernel_rfl) Try.underlying22 rfl rfl rfl (hval 0 29 v0 rfl rfl) h0
  clear hA0 hval0
  refine (fnExactValidStage_walk b0 b1 b2 w0 w1 w2 W).mono fun e W' ⟨he, bel⟩ => ?_
  subst he
  exact ⟨_, rfl, _, _, _, [], _, [], hW', trodAll_mk1 (shut_bool Try.underlying4 _), (trodAll_cons_mk (shut_fl3 Try.underlying29 (by kernel_rfl) (by kernel_rfl) Try.underlying22 rfl rfl rfl w0 w1 w2) trodAll_mk0), rfl, bel.frame _, fun h => by cases h⟩

/-- THE STATEMENT. -/
theorem fnExactValidStage_holds : Rows.FnExactValidStageSaid :=
  OpenClaim.holds_of_wide 5 Try.f5 rfl rfl rfl rfl rfl rfl rfl ⟨rfl, rfl, rfl, rfl, rfl⟩ rfl rfl rfl rfl rfl (by kernel_rfl) Try.func5 (by kernel_rfl)
    (of_decide_eq_true (by kernel_rfl)) (by unfold Func.isWrapper; first | (rw [if_pos (by decide +kernel)]; kernel_rfl) | (rw [if_neg (by decide +kernel)]; exact ⟨rfl, rfl⟩))
    (fun os started H enc _ => fnExactValidStage_lifted os started H enc)
#print axioms fnExactValidStage_holds
end Go.Proofs.Ytcmjodmpahckmaa
