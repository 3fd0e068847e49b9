/- The law FnExactTrueTurn answers true for every struct of 32-bit numbers. No condition. -/
import Derived.Test.YtcmjodmpahckmaaCj
import Derived.Test.YtcmjodmpahckmaaLf
import Derived.Test.YtcmjodmpahckmaaRows
import Derived.ProofKit
import Derived.OpenShut
import Derived.Laws.Cover2
namespace Go.Proofs.Ytcmjodmpahckmaa
open Go.ChangeShapes Go.WideShapes Go.ChangeAt Go.RowKit Fx

theorem fnExactTrueTurn_own : ownKnob Try.prog.godebug = none := by kernel_rfl
theorem fnExactTrueTurn_walk (b0 : Nat) (b1 : Nat) (b2 : Nat) (b3 : Nat) (b4 : Nat) (b5 : Nat) (w0 : (Lit.float .f32 b0).wf = true) (w1 : (Lit.float .f32 b1).wf = true) (w2 : (Lit.float .f32 b2).wf = true) (w3 : (Lit.float .f32 b3).wf = true) (w4 : (Lit.float .f32 b4).wf = true) (w5 : (Lit.float .f32 b5).wf = true) (W : World) : Calls Try.prog 14 #[.agg #[.float .f32 b0, .float .f32 b1, .float .f32 b2, .float .f32 b3, .float .f32 b4, .float .f32 b5]] W fun e W' => e = .returned (.bool true) ∧ Below W.heap.size W W' := by
  have k0 : b0 < 2 ^ FloatKind.f32.format.width := by
    show b0 < 2 ^ 32
    simpa [Lit.wf] using w0
  obtain ⟨x0, t0, e0⟩ := form (k := .f32) b0 k0
  have k1 : b1 < 2 ^ FloatKind.f32.format.width := by
    show b1 < 2 ^ 32
    simpa [Lit.wf] using w1
  obtain ⟨x1, t1, e1⟩ := form (k := .f32) b1 k1
  have k2 : b2 < 2 ^ FloatKind.f32.format.width := by
    show b2 < 2 ^ 32
    simpa [Lit.wf] using w2
  obtain ⟨x2, t2, e2⟩ := form (k := .f32) b2 k2
  have k3 : b3 < 2 ^ FloatKind.f32.format.width := by
    show b3 < 2 ^ 32
    simpa [Lit.wf] using w3
  obtain ⟨x3, t3, e3⟩ := form (k := .f32) b3 k3
  have k4 : b4 < 2 ^ FloatKind.f32.format.width := by
    show b4 < 2 ^ 32
    simpa [Lit.wf] using w4
  obtain ⟨x4, t4, e4⟩ := form (k := .f32) b4 k4
  have k5 : b5 < 2 ^ FloatKind.f32.format.width := by
    show b5 < 2 ^ 32
    simpa [Lit.wf] using w5
  obtain ⟨x5, t5, e5⟩ := form (k := .f32) b5 k5
  have := run_sound Try.func14 (trueTurn_run x0 x1 x2 x3 x4 x5) (MemOk.nil W) (vs := [.agg #[.float .f32 b0, .float .f32 b1, .float .f32 b2, .float .f32 b3, .float .f32 b4, .float .f32 b5]]) (.cons ⟨_, rfl, (.cons ⟨t0, by rw [e0], by rw [← e0]; exact k0⟩ (.cons ⟨t1, by rw [e1], by rw [← e1]; exact k1⟩ (.cons ⟨t2, by rw [e2], by rw [← e2]; exact k2⟩ (.cons ⟨t3, by rw [e3], by rw [← e3]; exact k3⟩ (.cons ⟨t4, by rw [e4], by rw [← e4]; exact k4⟩ (.cons ⟨t5, by rw [e5], by rw [← e5]; exact k5⟩ .nil))))))⟩ .nil)
  exact this.mono fun e w' ⟨v, he, hv, hw⟩ => by
    have hv' : v = .bool true := hv
    subst hv'
    exact ⟨he, hw⟩

set_option maxRecDepth 100000 in
theorem fnExactTrueTurn_lifted (os : Os) (started : os.Started) (H : Type) (enc : TypeId × Value → H) :
    ReturnsInHanded {} Try.checked os 14 .any (Rows.fnExactTrueTurnSpec.pre6 enc Try.prog Try.f14 Rows.fnExactTrueTurnRow.domain false) (Rows.fnExactTrueTurnSpec.post enc Try.prog Try.f14 false true false false) := by
  refine returnsInHanded_of_change (C := Try.checked) fnExactTrueTurn_own started (by kernel_rfl) Try.func14
    (ChangeSpec.witness6 (enc := enc) (C := Try.checked) false ⟨#[], #[.agg #[.float .f32 0, .float .f32 0, .float .f32 0, .float .f32 0, .float .f32 0, .float .f32 0]], []⟩ 8 (by kernel_rfl) (by kernel_rfl) (by kernel_rfl) (by kernel_rfl)) ?_
  intro W base args ds gs before hval0 hW _ _
  have hval : ∀ (j : Nat) t v, Try.f14.params[j]? = some t → args[j]? = some v → Value.okWide Try.prog W .any base t v := hval0
  have hW' := hW
  obtain ⟨p, q, hA0, hV, rfl, hfz, hnd⟩ := hW
  have hA : DataW.TrodAll enc Try.prog W 0 (fun _ => true) true Try.f14.params.toList args.toList ds p := hA0
  rw [Try.params14] at hA hval
  obtain ⟨v0, vs0, d0, ds0, p0, q0, hargs0, rfl, rfl, h0, r0⟩ := trodAll_cons hA
  obtain ⟨rfl, rfl, rfl⟩ := trodAll_nil r0
  obtain rfl : args = #[v0] := by cases args; simp_all
  obtain ⟨rfl, rfl⟩ := trodVars_none hV
  obtain ⟨b0, b1, b2, b3, b4, b5, rfl, rfl, rfl, w0, w1, w2, w3, w4, w5⟩ := open_fl6 Try.underlying69 (by kernel_rfl) (by kernel_rfl) Try.underlying22 rfl rfl rfl rfl rfl rfl (hval 0 69 v0 rfl rfl) h0
  clear hA0 hval0
  refine (fnExactTrueTurn_walk b0 b1 b2 b3 b4 b5 w0 w1 w2 w3 w4 w5 W).mono fun e W' ⟨he, bel⟩ => ?_
  subst he
  exact ⟨_, rfl, _, _, _, [], _, [], hW', trodAll_mk1 (shut_bool Try.underlying4 _), (trodAll_cons_mk (shut_fl6 Try.underlying69 (by kernel_rfl) (by kernel_rfl) Try.underlying22 rfl rfl rfl rfl rfl rfl w0 w1 w2 w3 w4 w5) trodAll_mk0), rfl, bel.frame _, fun h => by cases h⟩

/-- THE STATEMENT. -/
theorem fnExactTrueTurn_holds : Rows.FnExactTrueTurnSaid :=
  OpenClaim.holds_of_wide 14 Try.f14 rfl rfl rfl rfl rfl rfl rfl ⟨rfl, rfl, rfl, rfl, rfl⟩ rfl rfl rfl rfl rfl (by kernel_rfl) Try.func14 (by kernel_rfl)
    (of_decide_eq_true (by kernel_rfl)) (by unfold Func.isWrapper; first | (rw [if_pos (by decide +kernel)]; kernel_rfl) | (rw [if_neg (by decide +kernel)]; exact ⟨rfl, rfl⟩))
    (fun os started H enc _ => fnExactTrueTurn_lifted os started H enc)
#print axioms fnExactTrueTurn_holds
end Go.Proofs.Ytcmjodmpahckmaa
