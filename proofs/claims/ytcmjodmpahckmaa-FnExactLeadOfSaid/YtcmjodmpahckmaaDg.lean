/- The law FnExactLeadOf answers true for every 32-bit numbers. No condition. -/
import Derived.Test.YtcmjodmpahckmaaCh
import Derived.Test.YtcmjodmpahckmaaRows
import Derived.ProofKit
import Derived.OpenShut
import Derived.Laws.Cover2
namespace Go.Proofs.Ytcmjodmpahckmaa
open Go.ChangeShapes Go.WideShapes Go.ChangeAt Go.RowKit Fx

theorem fnExactLeadOf_own : ownKnob Try.prog.godebug = none := by kernel_rfl
theorem fnExactLeadOf_walk (b0 : Nat) (b1 : Nat) (b2 : Nat) (w0 : (Lit.float .f32 b0).wf = true) (w1 : (Lit.float .f32 b1).wf = true) (w2 : (Lit.float .f32 b2).wf = true) (W : World) : Calls Try.prog 9 #[.float .f32 b0, .float .f32 b1, .float .f32 b2] W fun e W' => e = .returned (.bool true) ∧ Below W.heap.size W W' := by
  have k0 : b0 < 2 ^ FloatKind.f32.format.width := by
    show b0 < 2 ^ 32
    simpa [Lit.wf] using w0
  obtain ⟨x0, t0, e0⟩ := form (k := .f32) b0 k0
  have k1 : b1 < 2 ^ FloatKind.f32.format.width := by
    show b1 < 2 ^ 32
    simpa [Lit.wf] using w1
  obtain ⟨x1, t1, e1⟩ := form (k := .f32) b1 k1
  have k2 : b2 < 2 ^ FloatKind.f32.format.width := by
    show b2 < 2 ^ 32
    simpa [Lit.wf] using w2
  obtain ⟨x2, t2, e2⟩ := form (k := .f32) b2 k2
  have := run_sound Try.func9 (leadOf_run x0 x1 x2) (MemOk.nil W) (vs := [.float .f32 b0, .float .f32 b1, .float .f32 b2]) (.cons ⟨t0, by rw [e0], by rw [← e0]; exact k0⟩ (.cons ⟨t1, by rw [e1], by rw [← e1]; exact k1⟩ (.cons ⟨t2, by rw [e2], by rw [← e2]; exact k2⟩ .nil)))
  exact this.mono fun e w' ⟨v, he, hv, hw⟩ => by
    have hv' : v = .bool true := hv
    subst hv'
    exact ⟨he, hw⟩

set_option maxRecDepth 100000 in
theorem fnExactLeadOf_lifted (os : Os) (started : os.Started) (H : Type) (enc : TypeId × Value → H) :
    ReturnsInHanded {} Try.checked os 9 .any (Rows.fnExactLeadOfSpec.pre6 enc Try.prog Try.f9 Rows.fnExactLeadOfRow.domain false) (Rows.fnExactLeadOfSpec.post enc Try.prog Try.f9 false true false false) := by
  refine returnsInHanded_of_change (C := Try.checked) fnExactLeadOf_own started (by kernel_rfl) Try.func9
    (ChangeSpec.witness6 (enc := enc) (C := Try.checked) false ⟨#[], #[.float .f32 0, .float .f32 0, .float .f32 0], []⟩ 8 (by kernel_rfl) (by kernel_rfl) (by kernel_rfl) (by kernel_rfl)) ?_
  intro W base args ds gs before hval0 hW _ _
  have hval : ∀ (j : Nat) t v, Try.f9.params[j]? = some t → args[j]? = some v → Value.okWide Try.prog W .any base t v := hval0
  have hW' := hW
  obtain ⟨p, q, hA0, hV, rfl, hfz, hnd⟩ := hW
  have hA : DataW.TrodAll enc Try.prog W 0 (fun _ => true) true Try.f9.params.toList args.toList ds p := hA0
  rw [Try.params9] at hA hval
  obtain ⟨v0, vs0, d0, ds0, p0, q0, hargs0, rfl, rfl, h0, r0⟩ := trodAll_cons hA
  obtain ⟨v1, vs1, d1, ds1, p1, q1, hargs1, rfl, rfl, h1, r1⟩ := trodAll_cons r0
  obtain ⟨v2, vs2, d2, ds2, p2, q2, hargs2, rfl, rfl, h2, r2⟩ := trodAll_cons r1
  obtain ⟨rfl, rfl, rfl⟩ := trodAll_nil r2
  obtain rfl : args = #[v0, v1, v2] := by cases args; simp_all
  obtain ⟨rfl, rfl⟩ := trodVars_none hV
  obtain ⟨b0, rfl, rfl, rfl, w0⟩ := open_float Try.underlying22 (hval 0 22 v0 rfl rfl) h0
  obtain ⟨b1, rfl, rfl, rfl, w1⟩ := open_float Try.underlying22 (hval 1 22 v1 rfl rfl) h1
  obtain ⟨b2, rfl, rfl, rfl, w2⟩ := open_float Try.underlying22 (hval 2 22 v2 rfl rfl) h2
  clear hA0 hval0
  refine (fnExactLeadOf_walk b0 b1 b2 w0 w1 w2 W).mono fun e W' ⟨he, bel⟩ => ?_
  subst he
  exact ⟨_, rfl, _, _, _, [], _, [], hW', trodAll_mk1 (shut_bool Try.underlying4 _), (trodAll_cons_mk (shut_float Try.underlying22 w0) (trodAll_cons_mk (shut_float Try.underlying22 w1) (trodAll_cons_mk (shut_float Try.underlying22 w2) trodAll_mk0))), rfl, bel.frame _, fun h => by cases h⟩

/-- THE STATEMENT. -/
theorem fnExactLeadOf_holds : Rows.FnExactLeadOfSaid :=
  OpenClaim.holds_of_wide 9 Try.f9 rfl rfl rfl rfl rfl rfl rfl ⟨rfl, rfl, rfl, rfl, rfl⟩ rfl rfl rfl rfl rfl (by kernel_rfl) Try.func9 (by kernel_rfl)
    (of_decide_eq_true (by kernel_rfl)) (by unfold Func.isWrapper; first | (rw [if_pos (by decide +kernel)]; kernel_rfl) | (rw [if_neg (by decide +kernel)]; exact ⟨rfl, rfl⟩))
    (fun os started H enc _ => fnExactLeadOf_lifted os started H enc)
#print axioms fnExactLeadOf_holds
end Go.Proofs.Ytcmjodmpahckmaa
