/- Structs of 32-bit floats as arguments: opened and shut. No condition. -/
import Derived.ProofKit
import Derived.OpenShut
import Derived.Laws.Cover2
import Derived.Deep.Fields
import Derived.ChangeSame
namespace Go.Proofs.Ytcmjodmpahckmaa
open Go.ChangeShapes Go.WideShapes Go.ChangeAt Go.RowKit Go.Deep

section
variable {H : Type} {enc : TypeId × Value → H} {P : Program} {w : World} {base : Nat} {spare : Nat → Bool} {held : Bool}

theorem trod_float {t : TypeId} {k : FloatKind} {fuel : Nat} {cs : List Value} {x : DataW H × List MemPlace} (ht : P.underlying t = some (.float k)) (h : DataW.trod enc P w base spare held fuel t cs = some x) :
    ∃ b, cs = [.float k b] ∧ x = (.lit (.float k b), []) ∧ (Lit.float k b).wf = true := by
  cases fuel with
  | zero => simp [DataW.trod] at h
  | succ n =>
    unfold DataW.trod at h
    rw [ht] at h
    split at h <;> simp_all

theorem array_3 {α : Type} {cs : Array α} (h : cs.size = 3) : ∃ c0 c1 c2, cs = #[c0, c1, c2] := by
  obtain ⟨l⟩ := cs
  match l, h with
  | [c0, c1, c2], _ => exact ⟨c0, c1, c2, rfl⟩
theorem trod_st3 {t : TypeId} {f0 f1 f2 : Field} {fuel : Nat} {cs : List Value} {x : DataW H × List MemPlace} (ht : P.underlying t = some (.struct #[f0, f1, f2])) (h : DataW.trod enc P w base spare held fuel t cs = some x) :
    ∃ y0 y1 y2 n, x = (.agg [y0.1, y1.1, y2.1], y0.2 ++ (y1.2 ++ y2.2)) ∧ cs.length = P.cellsOf t ∧ DataW.trod enc P w base spare held n f0.type ((cs.drop f0.offset).take (P.cellsOf f0.type)) = some y0 ∧ DataW.trod enc P w base spare held n f1.type ((cs.drop f1.offset).take (P.cellsOf f1.type)) = some y1 ∧ DataW.trod enc P w base spare held n f2.type ((cs.drop f2.offset).take (P.cellsOf f2.type)) = some y2 := by
  obtain ⟨xs, n, _, rfl, hl, hlen, hf⟩ := DataW.trod_struct ht h
  match xs, hlen with
  | [y0, y1, y2], _ => exact ⟨y0, y1, y2, n, by simp, hl, by simpa using hf 0 f0 rfl, by simpa using hf 1 f1 rfl, by simpa using hf 2 f2 rfl⟩
theorem trod_st3_mk {t : TypeId} {f0 f1 f2 : Field} {n : Nat} {cs : List Value} {y0 y1 y2 : DataW H × List MemPlace} (ht : P.underlying t = some (.struct #[f0, f1, f2])) (hl : cs.length = P.cellsOf t)
    (h0 : DataW.trod enc P w base spare held n f0.type ((cs.drop f0.offset).take (P.cellsOf f0.type)) = some y0) (h1 : DataW.trod enc P w base spare held n f1.type ((cs.drop f1.offset).take (P.cellsOf f1.type)) = some y1) (h2 : DataW.trod enc P w base spare held n f2.type ((cs.drop f2.offset).take (P.cellsOf f2.type)) = some y2) :
    DataW.trod enc P w base spare held (n + 1) t cs = some (.agg [y0.1, y1.1, y2.1], y0.2 ++ (y1.2 ++ y2.2)) := by
  have := trod_struct_mk (enc := enc) (w := w) (base := base) (spare := spare) (held := held) (n := n) (xs := [y0, y1, y2]) ht hl (by simp [h0, h1, h2])
  simpa using this
/-- A struct of 3 32-bit floats, opened. -/
theorem open_fl3 {r : Reach} {b0 : Nat} {t u : TypeId} {f0 f1 f2 : Field} {v : Value} {d : DataW H} {p : List MemPlace} (hs : P.underlying t = some (.struct #[f0, f1, f2])) (hone : oneCellFields P #[f0, f1, f2] = true) (hC : P.cellsOf t = 3) (hu : P.underlying u = some (.float .f32))
    (g0 : f0.type = u) (g1 : f1.type = u) (g2 : f2.type = u) (hv : Value.okWide P w r b0 t v) (h : DataW.Trod enc P w base spare held t v d p) :
    ∃ b0 b1 b2 : Nat, v = .agg #[.float .f32 b0, .float .f32 b1, .float .f32 b2] ∧ d = .agg [.lit (.float .f32 b0), .lit (.float .f32 b1), .lit (.float .f32 b2)] ∧ p = [] ∧ (Lit.float .f32 b0).wf = true ∧ (Lit.float .f32 b1).wf = true ∧ (Lit.float .f32 b2).wf = true := by
  obtain ⟨cs, rfl, hsz⟩ := okWide_struct hs hv
  obtain ⟨c0, c1, c2, rfl⟩ := array_3 (hsz.trans hC)
  obtain ⟨fuel, hf⟩ := h
  obtain ⟨y0, y1, y2, n, hx, _, h0, h1, h2⟩ := trod_st3 hs hf
  simp only [Prod.mk.injEq] at hx
  obtain ⟨o0, k0⟩ := hone_of hone 0 f0 rfl
  rw [k0, o0, g0] at h0
  obtain ⟨b0, z0, rfl, w0⟩ := trod_float hu h0
  simp [Value.cells] at z0
  subst z0
  obtain ⟨o1, k1⟩ := hone_of hone 1 f1 rfl
  rw [k1, o1, g1] at h1
  obtain ⟨b1, z1, rfl, w1⟩ := trod_float hu h1
  simp [Value.cells] at z1
  subst z1
  obtain ⟨o2, k2⟩ := hone_of hone 2 f2 rfl
  rw [k2, o2, g2] at h2
  obtain ⟨b2, z2, rfl, w2⟩ := trod_float hu h2
  simp [Value.cells] at z2
  subst z2
  exact ⟨b0, b1, b2, rfl, hx.1, by simpa using hx.2, w0, w1, w2⟩
/-- A struct of 3 32-bit floats, shut. -/
theorem shut_fl3 {t u : TypeId} {f0 f1 f2 : Field} {b0 b1 b2 : Nat} (hs : P.underlying t = some (.struct #[f0, f1, f2])) (hone : oneCellFields P #[f0, f1, f2] = true) (hC : P.cellsOf t = 3) (hu : P.underlying u = some (.float .f32))
    (g0 : f0.type = u) (g1 : f1.type = u) (g2 : f2.type = u) (w0 : (Lit.float .f32 b0).wf = true) (w1 : (Lit.float .f32 b1).wf = true) (w2 : (Lit.float .f32 b2).wf = true) :
    DataW.Trod enc P w base spare held t (.agg #[.float .f32 b0, .float .f32 b1, .float .f32 b2]) (.agg [.lit (.float .f32 b0), .lit (.float .f32 b1), .lit (.float .f32 b2)]) [] := by
  obtain ⟨o0, k0⟩ := hone_of hone 0 f0 rfl
  have h0 : DataW.trod enc P w base spare held 1 f0.type [.float .f32 b0] = some (.lit (.float .f32 b0), []) := by rw [g0]; simp [DataW.trod, hu, w0]
  obtain ⟨o1, k1⟩ := hone_of hone 1 f1 rfl
  have h1 : DataW.trod enc P w base spare held 1 f1.type [.float .f32 b1] = some (.lit (.float .f32 b1), []) := by rw [g1]; simp [DataW.trod, hu, w1]
  obtain ⟨o2, k2⟩ := hone_of hone 2 f2 rfl
  have h2 : DataW.trod enc P w base spare held 1 f2.type [.float .f32 b2] = some (.lit (.float .f32 b2), []) := by rw [g2]; simp [DataW.trod, hu, w2]
  have ts := trod_st3_mk (enc := enc) (w := w) (base := base) (spare := spare) (held := held) (n := 1) (cs := [.float .f32 b0, .float .f32 b1, .float .f32 b2]) hs (by simp [hC])
    (by simpa [o0, k0] using h0) (by simpa [o1, k1] using h1) (by simpa [o2, k2] using h2)
  exact ⟨_, by simpa [Value.cells] using ts⟩

theorem array_6 {α : Type} {cs : Array α} (h : cs.size = 6) : ∃ c0 c1 c2 c3 c4 c5, cs = #[c0, c1, c2, c3, c4, c5] := by
  obtain ⟨l⟩ := cs
  match l, h with
  | [c0, c1, c2, c3, c4, c5], _ => exact ⟨c0, c1, c2, c3, c4, c5, rfl⟩
theorem trod_st6 {t : TypeId} {f0 f1 f2 f3 f4 f5 : Field} {fuel : Nat} {cs : List Value} {x : DataW H × List MemPlace} (ht : P.underlying t = some (.struct #[f0, f1, f2, f3, f4, f5])) (h : DataW.trod enc P w base spare held fuel t cs = some x) :
    ∃ y0 y1 y2 y3 y4 y5 n, x = (.agg [y0.1, y1.1, y2.1, y3.1, y4.1, y5.1], y0.2 ++ (y1.2 ++ (y2.2 ++ (y3.2 ++ (y4.2 ++ y5.2))))) ∧ cs.length = P.cellsOf t ∧ DataW.trod enc P w base spare held n f0.type ((cs.drop f0.offset).take (P.cellsOf f0.type)) = some y0 ∧ DataW.trod enc P w base spare held n f1.type ((cs.drop f1.offset).take (P.cellsOf f1.type)) = some y1 ∧ DataW.trod enc P w base spare held n f2.type ((cs.drop f2.offset).take (P.cellsOf f2.type)) = some y2 ∧ DataW.trod enc P w base spare held n f3.type ((cs.drop f3.offset).take (P.cellsOf f3.type)) = some y3 ∧ DataW.trod enc P w base spare held n f4.type ((cs.drop f4.offset).take (P.cellsOf f4.type)) = some y4 ∧ DataW.trod enc P w base spare held n f5.type ((cs.drop f5.offset).take (P.cellsOf f5.type)) = some y5 := by
  obtain ⟨xs, n, _, rfl, hl, hlen, hf⟩ := DataW.trod_struct ht h
  match xs, hlen with
  | [y0, y1, y2, y3, y4, y5], _ => exact ⟨y0, y1, y2, y3, y4, y5, n, by simp, hl, by simpa using hf 0 f0 rfl, by simpa using hf 1 f1 rfl, by simpa using hf 2 f2 rfl, by simpa using hf 3 f3 rfl, by simpa using hf 4 f4 rfl, by simpa using hf 5 f5 rfl⟩
theorem trod_st6_mk {t : TypeId} {f0 f1 f2 f3 f4 f5 : Field} {n : Nat} {cs : List Value} {y0 y1 y2 y3 y4 y5 : DataW H × List MemPlace} (ht : P.underlying t = some (.struct #[f0, f1, f2, f3, f4, f5])) (hl : cs.length = P.cellsOf t)
    (h0 : DataW.trod enc P w base spare held n f0.type ((cs.drop f0.offset).take (P.cellsOf f0.type)) = some y0) (h1 : DataW.trod enc P w base spare held n f1.type ((cs.drop f1.offset).take (P.cellsOf f1.type)) = some y1) (h2 : DataW.trod enc P w base spare held n f2.type ((cs.drop f2.offset).take (P.cellsOf f2.type)) = some y2) (h3 : DataW.trod enc P w base spare held n f3.type ((cs.drop f3.offset).take (P.cellsOf f3.type)) = some y3) (h4 : DataW.trod enc P w base spare held n f4.type ((cs.drop f4.offset).take (P.cellsOf f4.type)) = some y4) (h5 : DataW.trod enc P w base spare held n f5.type ((cs.drop f5.offset).take (P.cellsOf f5.type)) = some y5) :
    DataW.trod enc P w base spare held (n + 1) t cs = some (.agg [y0.1, y1.1, y2.1, y3.1, y4.1, y5.1], y0.2 ++ (y1.2 ++ (y2.2 ++ (y3.2 ++ (y4.2 ++ y5.2))))) := by
  have := trod_struct_mk (enc := enc) (w := w) (base := base) (spare := spare) (held := held) (n := n) (xs := [y0, y1, y2, y3, y4, y5]) ht hl (by simp [h0, h1, h2, h3, h4, h5])
  simpa using this
/-- A struct of 6 32-bit floats, opened. -/
theorem open_fl6 {r : Reach} {b0 : Nat} {t u : TypeId} {f0 f1 f2 f3 f4 f5 : Field} {v : Value} {d : DataW H} {p : List MemPlace} (hs : P.underlying t = some (.struct #[f0, f1, f2, f3, f4, f5])) (hone : oneCellFields P #[f0, f1, f2, f3, f4, f5] = true) (hC : P.cellsOf t = 6) (hu : P.underlying u = some (.float .f32))
    (g0 : f0.type = u) (g1 : f1.type = u) (g2 : f2.type = u) (g3 : f3.type = u) (g4 : f4.type = u) (g5 : f5.type = u) (hv : Value.okWide P w r b0 t v) (h : DataW.Trod enc P w base spare held t v d p) :
    ∃ b0 b1 b2 b3 b4 b5 : Nat, v = .agg #[.float .f32 b0, .float .f32 b1, .float .f32 b2, .float .f32 b3, .float .f32 b4, .float .f32 b5] ∧ d = .agg [.lit (.float .f32 b0), .lit (.float .f32 b1), .lit (.float .f32 b2), .lit (.float .f32 b3), .lit (.float .f32 b4), .lit (.float .f32 b5)] ∧ p = [] ∧ (Lit.float .f32 b0).wf = true ∧ (Lit.float .f32 b1).wf = true ∧ (Lit.float .f32 b2).wf = true ∧ (Lit.float .f32 b3).wf = true ∧ (Lit.float .f32 b4).wf = true ∧ (Lit.float .f32 b5).wf = true := by
  obtain ⟨cs, rfl, hsz⟩ := okWide_struct hs hv
  obtain ⟨c0, c1, c2, c3, c4, c5, rfl⟩ := array_6 (hsz.trans hC)
  obtain ⟨fuel, hf⟩ := h
  obtain ⟨y0, y1, y2, y3, y4, y5, n, hx, _, h0, h1, h2, h3, h4, h5⟩ := trod_st6 hs hf
  simp only [Prod.mk.injEq] at hx
  obtain ⟨o0, k0⟩ := hone_of hone 0 f0 rfl
  rw [k0, o0, g0] at h0
  obtain ⟨b0, z0, rfl, w0⟩ := trod_float hu h0
  simp [Value.cells] at z0
  subst z0
  obtain ⟨o1, k1⟩ := hone_of hone 1 f1 rfl
  rw [k1, o1, g1] at h1
  obtain ⟨b1, z1, rfl, w1⟩ := trod_float hu h1
  simp [Value.cells] at z1
  subst z1
  obtain ⟨o2, k2⟩ := hone_of hone 2 f2 rfl
  rw [k2, o2, g2] at h2
  obtain ⟨b2, z2, rfl, w2⟩ := trod_float hu h2
  simp [Value.cells] at z2
  subst z2
  obtain ⟨o3, k3⟩ := hone_of hone 3 f3 rfl
  rw [k3, o3, g3] at h3
  obtain ⟨b3, z3, rfl, w3⟩ := trod_float hu h3
  simp [Value.cells] at z3
  subst z3
  obtain ⟨o4, k4⟩ := hone_of hone 4 f4 rfl
  rw [k4, o4, g4] at h4
  obtain ⟨b4, z4, rfl, w4⟩ := trod_float hu h4
  simp [Value.cells] at z4
  subst z4
  obtain ⟨o5, k5⟩ := hone_of hone 5 f5 rfl
  rw [k5, o5, g5] at h5
  obtain ⟨b5, z5, rfl, w5⟩ := trod_float hu h5
  simp [Value.cells] at z5
  subst z5
  exact ⟨b0, b1, b2, b3, b4, b5, rfl, hx.1, by simpa using hx.2, w0, w1, w2, w3, w4, w5⟩
/-- A struct of 6 32-bit floats, shut. -/
theorem shut_fl6 {t u : TypeId} {f0 f1 f2 f3 f4 f5 : Field} {b0 b1 b2 b3 b4 b5 : Nat} (hs : P.underlying t = some (.struct #[f0, f1, f2, f3, f4, f5])) (hone : oneCellFields P #[f0, f1, f2, f3, f4, f5] = true) (hC : P.cellsOf t = 6) (hu : P.underlying u = some (.float .f32))
    (g0 : f0.type = u) (g1 : f1.type = u) (g2 : f2.type = u) (g3 : f3.type = u) (g4 : f4.type = u) (g5 : f5.type = u) (w0 : (Lit.float .f32 b0).wf = true) (w1 : (Lit.float .f32 b1).wf = true) (w2 : (Lit.float .f32 b2).wf = true) (w3 : (Lit.float .f32 b3).wf = true) (w4 : (Lit.float .f32 b4).wf = true) (w5 : (Lit.float .f32 b5).wf = true) :
    DataW.Trod enc P w base spare held t (.agg #[.float .f32 b0, .float .f32 b1, .float .f32 b2, .float .f32 b3, .float .f32 b4, .float .f32 b5]) (.agg [.lit (.float .f32 b0), .lit (.float .f32 b1), .lit (.float .f32 b2), .lit (.float .f32 b3), .lit (.float .f32 b4), .lit (.float .f32 b5)]) [] := by
  obtain ⟨o0, k0⟩ := hone_of hone 0 f0 rfl
  have h0 : DataW.trod enc P w base spare held 1 f0.type [.float .f32 b0] = some (.lit (.float .f32 b0), []) := by rw [g0]; simp [DataW.trod, hu, w0]
  obtain ⟨o1, k1⟩ := hone_of hone 1 f1 rfl
  have h1 : DataW.trod enc P w base spare held 1 f1.type [.float .f32 b1] = some (.lit (.float .f32 b1), []) := by rw [g1]; simp [DataW.trod, hu, w1]
  obtain ⟨o2, k2⟩ := hone_of hone 2 f2 rfl
  have h2 : DataW.trod enc P w base spare held 1 f2.type [.float .f32 b2] = some (.lit (.float .f32 b2), []) := by rw [g2]; simp [DataW.trod, hu, w2]
  obtain ⟨o3, k3⟩ := hone_of hone 3 f3 rfl
  have h3 : DataW.trod enc P w base spare held 1 f3.type [.float .f32 b3] = some (.lit (.float .f32 b3), []) := by rw [g3]; simp [DataW.trod, hu, w3]
  obtain ⟨o4, k4⟩ := hone_of hone 4 f4 rfl
  have h4 : DataW.trod enc P w base spare held 1 f4.type [.float .f32 b4] = some (.lit (.float .f32 b4), []) := by rw [g4]; simp [DataW.trod, hu, w4]
  obtain ⟨o5, k5⟩ := hone_of hone 5 f5 rfl
  have h5 : DataW.trod enc P w base spare held 1 f5.type [.float .f32 b5] = some (.lit (.float .f32 b5), []) := by rw [g5]; simp [DataW.trod, hu, w5]
  have ts := trod_st6_mk (enc := enc) (w := w) (base := base) (spare := spare) (held := held) (n := 1) (cs := [.float .f32 b0, .float .f32 b1, .float .f32 b2, .float .f32 b3, .float .f32 b4, .float .f32 b5]) hs (by simp [hC])
    (by simpa [o0, k0] using h0) (by simpa [o1, k1] using h1) (by simpa [o2, k2] using h2) (by simpa [o3, k3] using h3) (by simpa [o4, k4] using h4) (by simpa [o5, k5] using h5)
  exact ⟨_, by simpa [Value.cells] using ts⟩
end

end Go.Proofs.Ytcmjodmpahckmaa
