/- The law FnExactIsShare answers true for every 32-bit number. No condition. -/
import Derived.Test.YtcmjodmpahckmaaCb
import Derived.Test.YtcmjodmpahckmaaRows
import Derived.ProofKit
import Derived.OpenShut
import Derived.Laws.Cover2
namespace Go.Proofs.Ytcmjodmpahckmaa
open Go.ChangeShapes Go.WideShapes Go.ChangeAt Go.RowKit Fx

theorem Try.own : ownKnob Try.prog.godebug = none := by kernel_rfl

/-- A law of one 32-bit number: its walk. -/
theorem walk32 {E : List (Entry Try.prog)} {f : FuncId} {fn : Func} (hf : Try.prog.funcs[f]? = some fn) (h : ∀ x : F32, run Try.prog E fn [.c (.fl .f32 x)] [] = some (.c (.sb true))) (b : Nat) (hb : (Lit.float .f32 b).wf = true) (W : World) :
    Calls Try.prog f #[.float .f32 b] W fun e W' => e = .returned (.bool true) ∧ Below W.heap.size W W' := by
  have hb' : b < 2 ^ FloatKind.f32.format.width := by
    show b < 2 ^ 32
    simpa [Lit.wf] using hb
  obtain ⟨x, t, hx⟩ := form (k := .f32) b hb'
  have := run_sound hf (h x) (MemOk.nil W) (vs := [.float .f32 b]) (.cons ⟨t, by rw [hx], by rw [← hx]; exact hb'⟩ .nil)
  exact this.mono fun e w' ⟨v, he, hv, hw⟩ => by
    have hv' : v = .bool true := hv
    subst hv'
    exact ⟨he, hw⟩

-- FnExactIsShare
theorem isShare_run (x : F32) : run Try.prog [sIsShare, eIsShare] Try.f3 [.c (.fl .f32 x)] [] = bif isShare x != isShare x then some (.c (.sb false)) else some (.c (.sb true)) := by kernel_rfl
theorem fnExactIsShare_walk (b : Nat) (hb : (Lit.float .f32 b).wf = true) (W : World) : Calls Try.prog 3 #[.float .f32 b] W fun e W' => e = .returned (.bool true) ∧ Below W.heap.size W W' :=
  walk32 Try.func3 (fun x => by rw [isShare_run]; cases isShare x <;> rfl) b hb W

set_option maxRecDepth 100000 in
theorem fnExactIsShare_lifted (os : Os) (started : os.Started) (H : Type) (enc : TypeId × Value → H) :
    ReturnsInHanded {} Try.checked os 3 .any (Rows.fnExactIsShareSpec.pre6 enc Try.prog Try.f3 Rows.fnExactIsShareRow.domain false) (Rows.fnExactIsShareSpec.post enc Try.prog Try.f3 false true false false) := by
  refine returnsInHanded_of_change (C := Try.checked) Try.own started (by kernel_rfl) Try.func3
    (ChangeSpec.witness6 (enc := enc) (C := Try.checked) false ⟨#[], #[.float .f32 0], []⟩ 8 (by kernel_rfl) (by kernel_rfl) (by kernel_rfl) (by kernel_rfl)) ?_
  intro W base args ds gs before hval0 hW _ _
  have hval : ∀ (j : Nat) t v, Try.f3.params[j]? = some t → args[j]? = some v → Value.okWide Try.prog W .any base t v := hval0
  have hW' := hW
  obtain ⟨p, q, hA0, hV, rfl, hfz, hnd⟩ := hW
  have hA : DataW.TrodAll enc Try.prog W 0 (fun _ => true) true Try.f3.params.toList args.toList ds p := hA0
  rw [Try.params3] at hA hval
  obtain ⟨v0, vs0, d0, ds0, p0, q0, hargs, rfl, rfl, h0, r0⟩ := trodAll_cons hA
  obtain ⟨rfl, rfl, rfl⟩ := trodAll_nil r0
  obtain rfl : args = #[v0] := by cases args; simp_all
  obtain ⟨rfl, rfl⟩ := trodVars_none hV
  obtain ⟨b0, rfl, rfl, rfl, w0⟩ := open_float Try.underlying22 (hval 0 22 v0 rfl rfl) h0
  clear hA0 hval0
  refine (fnExactIsShare_walk b0 w0 W).mono fun e W' ⟨he, bel⟩ => ?_
  subst he
  exact ⟨_, rfl, _, _, _, [], _, [], hW', trodAll_mk1 (shut_bool Try.underlying4 _), (trodAll_cons_mk (shut_float Try.underlying22 w0) trodAll_mk0), rfl, bel.frame _, fun h => by cases h⟩

/-- THE STATEMENT. -/
theorem fnExactIsShare_holds : Rows.FnExactIsShareSaid :=
  OpenClaim.holds_of_wide 3 Try.f3 rfl rfl rfl rfl rfl rfl rfl ⟨rfl, rfl, rfl, rfl, rfl⟩ rfl rfl rfl rfl rfl (by kernel_rfl) Try.func3 (by kernel_rfl)
    (of_decide_eq_true (by kernel_rfl)) (by unfold Func.isWrapper; first | (rw [if_pos (by decide +kernel)]; kernel_rfl) | (rw [if_neg (by decide +kernel)]; exact ⟨rfl, rfl⟩))
    (fun os started H enc _ => fnExactIsShare_lifted os started H enc)
#print axioms fnExactIsShare_holds
end Go.Proofs.Ytcmjodmpahckmaa
