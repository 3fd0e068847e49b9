/- The law FnBurns: its two parts, as the kernel reckons them. No condition. -/
import Derived.Test.YtlpahmefebgdlaaFe
import Derived.Test.YtlpahmefebgdlaaBa
namespace Go.Proofs.Ytlpahmefebgdlaa.Fx
open Go Fa

theorem peel_t {c x : Bool} (h : (bif c then x else false) = true) : c = true ∧ x = true := by cases c <;> simp_all
theorem peel_f {c x : Bool} (h : (bif c then false else x) = true) : c = false ∧ x = true := by cases c <;> simp_all

noncomputable def overK (x y : F64) (m z : F64) : Bool := gtD (gapK x y) (mulD m (addD one z))
theorem overK_eq (x y m z : F64) : overK x y m z = over x y m z := by unfold overK over; rw [gtD_eq, gapK_eq, mulD_eq, addD_eq]
noncomputable def len3K (a b d : F32) : Bool := bb (aLengthK a) (bb (aLengthK b) (aLengthK d) false) false
theorem len3K_eq (a b d : F32) : len3K a b d = (aLength a && aLength b && aLength d) := by
  unfold len3K
  rw [bb_cond, bb_cond, aLengthK_eq, aLengthK_eq, aLengthK_eq]
  cases aLength a <;> cases aLength b <;> rfl
noncomputable def part1K (j af ch fl : F32) : Bool :=
  bb (len3K j af fl) (bb (aMassK ch) (
  tellK (mulD (widenF af) (subD (expK (divD (widenF ch) (widenF j))) one)) (fun fu =>
  bb (ltS fu (c32 0)) false (
  fo (addS af fu) fun be => bb (aLengthK be) (bb (ltS be af) false (
  logK (divD (widenF be) (widenF af)) (fun lg => tellK (mulD (widenF j) lg) (fun back =>
  bb (overK (widenF back) (widenF ch) milli (widenF ch)) false (
  tellK (divD (mulD (widenF be) (subD one (expK (negD (divD (widenF ch) (widenF j)))))) (widenF fl)) (fun ti =>
  bb (overK (mulD (widenF ti) (widenF fl)) (widenF fu) milli (widenF fu)) false (
  bb (gtS ti (c32 0)) (bb (aLengthK ti) (
    fo (subD (widenF be) (mulD (widenF fl) (widenF ti))) fun left => tellK left (fun lf => bb (gtS lf (c32 0)) (
    logK (divD (widenF be) left) (fun lg => tellK (mulD (widenF j) lg) (fun gone =>
    bb (overK (widenF lf) (widenF af) milli (widenF fu)) false (bb (overK (widenF gone) (widenF ch) centi (widenF ch)) false true)) false) false) false) false) false) true)) false)) false) false)) false)) false) false) false

structure Part1 (j af ch fl : F32) : Prop where
  q1 : q3 fuC fuQ j af ch = true
  q2 : q3 boC boQ j (af + fuel j af ch) af = true
  q3 : btQ j fl (af + fuel j af ch) ch = true
  all : ∀ rest, bPart1 j af ch fl (fuel j af ch) (btV j fl (af + fuel j af ch) ch) rest = rest

theorem told_of {y : F64} (h : tellOk y = true) : fits y = true ∧ toldV (narrow y) = narrow y ∧ toldB (narrow y) = true := by
  unfold tellOk at h
  rw [Bool.and_eq_true] at h
  refine ⟨h.1, ?_, ?_⟩
  · unfold toldV; rw [h.2]; rfl
  · rw [toldB_eq]; exact h.2

theorem part1K_eq {j af ch fl : F32} (h : part1K j af ch fl = true) : Part1 j af ch fl := by
  unfold part1K at h
  simp only [bb_cond, len3K_eq, aMassK_eq, tellK_eq, logK_eq, fo_eq, aLengthK_eq, expK_eq, mulD_eq, divD_eq, subD_eq, addS_eq, negD_eq, widenF_eq, ltS_eq, gtS_eq, overK_eq] at h
  obtain ⟨h1, h⟩ := peel_t h
  obtain ⟨h2, h⟩ := peel_t h
  obtain ⟨h3, h⟩ := peel_t h
  obtain ⟨h4, h⟩ := peel_f h
  obtain ⟨h5, h⟩ := peel_t h
  obtain ⟨h6, h⟩ := peel_f h
  obtain ⟨h7, h⟩ := peel_t h
  obtain ⟨h8, h⟩ := peel_t h
  obtain ⟨h9, h⟩ := peel_f h
  obtain ⟨h10, h⟩ := peel_t h
  obtain ⟨h11, h⟩ := peel_f h
  simp only [Bool.and_eq_true] at h1
  obtain ⟨⟨l1, l2⟩, l3⟩ := h1
  obtain ⟨f1, f2, f3⟩ := told_of h3
  have hfc : fuC j af ch = true := by unfold fuC; rw [l1, l2, h2]; rfl
  have hfu : fuel j af ch = narrow (fuY j af ch) := by unfold fuel v3; rw [hfc]; exact f2
  have hfu' : narrow (widen af * (exponential (widen ch / widen j) - one)) = fuel j af ch := hfu.symm
  rw [hfu'] at h4 h5 h6 h7 h8 h9 h10 h11 h
  obtain ⟨be, hbe⟩ : ∃ be, af + fuel j af ch = be := ⟨_, rfl⟩
  rw [hbe] at h5 h6 h7 h8 h9 h10 h11 h
  obtain ⟨b1, b2, b3⟩ := told_of h8
  have hbc : boC j be af = true := by unfold boC; rw [l1, h5, l2, h6]; rfl
  obtain ⟨t1, t2, t3'⟩ := told_of h10
  have htc : btC j fl be ch = true := by unfold btC; rw [l1, l3, h5, h2]; rfl
  have hti : btV j fl be ch = narrow (btY j fl be ch) := by unfold btV; rw [htc]; exact t2
  have hti' : narrow (widen be * (one - exponential (-(widen ch / widen j))) / widen fl) = btV j fl be ch := hti.symm
  rw [hti'] at h11 h
  refine ⟨?_, ?_, ?_, fun rest => ?_⟩
  · unfold Fx.q3 fuQ; rw [hfc]; exact f1
  · rw [hbe]; unfold Fx.q3 boQ; rw [hbc]
    show (logOk (boD be af) && fits (boY j be af)) = true
    have h7' : logOk (boD be af) = true := h7
    have b1' : fits (boY j be af) = true := b1
    rw [h7', b1']; rfl
  · rw [hbe]; unfold btQ; rw [htc]; exact t1
  · rw [hbe]
    unfold bPart1
    rw [hbe]
    have e1 : t3 fuC fuY j af ch = true := by unfold t3; rw [hfc]; exact f3
    have e2 : t3 boC boY j be af = true := by unfold t3; rw [hbc]; exact b3
    have e3 : btB j fl be ch = true := by unfold btB; rw [htc]; exact t3'
    have e4 : v3 boC boY j be af = narrow (boY j be af) := by unfold v3; rw [hbc]; exact b2
    have h9' : over (widen (narrow (boY j be af))) (widen ch) milli (widen ch) = false := h9
    rw [e1, e2, e3, h4, e4, h9', h11]
    simp only [Bool.not_true, cond_false]
    cases hg : gt (btV j fl be ch) (c32 0) with
    | false => rfl
    | true =>
      rw [hg] at h
      simp only [cond_true] at h
      obtain ⟨g1, h⟩ := peel_t h
      obtain ⟨g2, h⟩ := peel_t h
      obtain ⟨g3, h⟩ := peel_t h
      obtain ⟨g4, h⟩ := peel_t h
      obtain ⟨g5, h⟩ := peel_t h
      obtain ⟨g6, h⟩ := peel_f h
      obtain ⟨g7, _⟩ := peel_f h
      generalize btV j fl be ch = ti at hg g1 g2 g3 g4 g5 g6 g7
      obtain ⟨m1, m2, m3⟩ := told_of g2
      obtain ⟨n1, n2, n3⟩ := told_of g5
      have c1 : abC j fl be ti = true := by unfold abC; rw [l1, l3, h5, g1]; rfl
      have c2 : abP fl be ti = true := g3
      have c3 : logOk (abD fl be ti) = true := g4
      have c4 : fits (abG j fl be ti) = true := n1
      have c5 : fits (abL fl be ti) = true := m1
      have c6 : toldB (narrow (abG j fl be ti)) = true := n3
      have c7 : toldB (narrow (abL fl be ti)) = true := m3
      have c8 : toldV (narrow (abG j fl be ti)) = narrow (abG j fl be ti) := n2
      have c9 : toldV (narrow (abL fl be ti)) = narrow (abL fl be ti) := m2
      have q : abQ j fl be ti = true := by unfold abQ; rw [c1, c2, c3, c4, c5]; rfl
      have o : abOk j fl be ti = true := by unfold abOk; rw [c1, c2, c6, c7]; rfl
      have g6' : over (widen (narrow (abL fl be ti))) (widen af) milli (widen (fuel j af ch)) = false := g6
      have g7' : over (widen (narrow (abG j fl be ti))) (widen ch) centi (widen ch) = false := g7
      rw [q, o]
      simp only [cond_true]
      rw [c8, c9, g6', g7']; rfl
end Go.Proofs.Ytlpahmefebgdlaa.Fx
