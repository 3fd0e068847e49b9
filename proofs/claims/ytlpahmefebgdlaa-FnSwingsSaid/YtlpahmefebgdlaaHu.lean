/- The law FnSwings: both halves, the run. No condition. -/
import Derived.Test.YtlpahmefebgdlaaHt
import Derived.Test.YtlpahmefebgdlaaLb
namespace Go.Proofs.Ytlpahmefebgdlaa.Fx
open Go Go.RowKit Nr Ieee

theorem open_ok {j : Nat} (hj : j < 17) : ∃ g, HasS (swOpen j) g ∧ 5 / 4 ≤ g ∧ g ≤ 21 / 4 ∧ OpenOk (widen (swOpen j)) := by
  have h := all_at opens_ok hj
  unfold chkOpen at h
  simp only [Bool.and_eq_true] at h
  obtain ⟨h1, h2, h3, h4⟩ := h
  obtain ⟨g, hg, g1, g2⟩ := within_F h1
  obtain ⟨u, hu, u1, -⟩ := within_D h3
  obtain ⟨d, hd, -, d2⟩ := within_D h4
  exact ⟨g, hg, g1, g2, Two.of (widen_has hg) (by grind) g2, eqb_eq h2, ⟨u, hu, u1⟩, ⟨d, hd, d2⟩⟩
theorem lean_yes {j k : Nat} (hj : j < 17) (hk : k < 129) : leAll (swOpen j) (swFar k) = wYes := by
  obtain ⟨g, hg, g1, g2, he⟩ := open_ok hj
  have h : within (numF (swFar k)) (-8) 8 = true := all_at fars_ok hk
  obtain ⟨v, hv, v1, v2⟩ := within_F h
  exact leAll_yes hg g1 g2 hv v1 v2 he
/-- Turns that lie near. -/
theorem turns_small {a b : F32} {x y : Rat} (ha : HasS a x) (hb : HasS b y) (h1 : x - y ≤ 5 * mic) (h2 : y - x ≤ 5 * mic) : tnQ a b = true ∧ ∃ w, Has (tnV a b) w ∧ w ≤ 7 * mic := by
  have km : mic ≤ 1 / 1000000 := by decide +kernel
  have km0 : 0 < mic := by decide +kernel
  have kn : nano ≤ mic / 100 := by decide +kernel
  have k0 : (2 : Rat) ^ (0 : Int) = 1 := by decide +kernel
  have c0 : (2 : Rat) ^ ((0 : Int) - 53) ≤ nano := by decide +kernel
  obtain ⟨d, hd, d1, d2⟩ := sub_has (widen_has ha) (widen_has hb) (E := 0) (by grind) (by grind) (by decide) (by decide)
  have mh : Has mHalf (-(1 / 2)) := ⟨true, 2 ^ 52, -53, ⟨13826050856027422720, rfl, by decide⟩, by decide +kernel⟩
  have eA : tnA a b = (true, widen a - widen b) := by
    unfold tnA
    show downs (7 + 1) _ = _
    rw [downs, gt_has hd half_has, decide_eq_false (by grind)]; rfl
  have eB : tnB a b = (true, widen a - widen b) := by
    unfold tnB
    rw [eA]
    show ups (7 + 1) _ = _
    rw [ups, lt_has hd mh, decide_eq_false (by grind)]; rfl
  obtain ⟨w, hw, -, -, w3⟩ := gap_has hd zero_has (by grind) (by grind)
  refine ⟨by unfold tnQ; rw [eA, eB]; rfl, w, ?_, by grind⟩
  unfold tnV
  rw [eB]; exact hw
theorem zero32_has : HasS (c32 0) 0 := ⟨false, 0, -149, num_zero32, by decide +kernel⟩
theorem turn_zero : isTurn (c32 0) = true := by kernel_rfl
theorem circle_zero : swingPhase (widen (c32 0)) zero = zero := by kernel_rfl
theorem circle_one : swingPhase (widen (c32 0)) one = one := by kernel_rfl
/-- The law's first half. -/
theorem swing_yes {j k : Nat} (hj : j < 29) (hk : k < 256) (K : Option AV) : swAll (swRound j) (swPhase k) K = K := by
  have hr := all_at rounds_ok hj
  have hp := all_at phases_ok hk
  unfold chkRound at hr
  unfold chkPhase at hp
  simp only [Bool.and_eq_true] at hr hp
  obtain ⟨r1, r2, r3, r4⟩ := hr
  obtain ⟨p1, p2, p3, p4⟩ := hp
  generalize swRound j = r at *
  generalize swPhase k = p at *
  obtain ⟨g, hg, g0, g1⟩ := within_F r2
  obtain ⟨v, hv, v0, v1⟩ := within_F p1
  have p3 := eqb_eq p3
  have p4 := eqb_eq p4
  have hw : Has (wrap (widen p)) v := by rw [p3]; exact widen_has hv
  have v2 : v < 1 := by
    have : (255 / 256 : Rat) < 1 := by decide +kernel
    grind
  obtain ⟨u, t, hu, u0, u1, ht, t1, t2⟩ := swing_back (widen_has hg) g0 g1 (eqb_eq r3) (eqb_eq r4) hw v0 v2
  obtain ⟨c, hc, c1, c2⟩ := circle_has (widen_has zero32_has) circle_zero circle_one hw v0 v2
  have km : mic ≤ 1 / 1000000 := by decide +kernel
  have km0 : 0 < mic := by decide +kernel
  have kn : nano ≤ mic / 100 := by decide +kernel
  have fp := hasS_fin hv
  have o1 : swOk r p = true := by unfold swOk; rw [r1, fp]; rfl
  have e1 : swV r p = narrow (swing (widen r) (widen p)) := by unfold swV; rw [o1, cond_true]
  rw [← e1] at hu ht
  have o2 : swOk r (swV r p) = true := by unfold swOk; rw [r1, hasS_fin hu]; rfl
  have o3 : swOk r (p + two32) = true := by unfold swOk; rw [r1, p2]; rfl
  have o4 : swOk (c32 0) p = true := by unfold swOk; rw [turn_zero, fp]; rfl
  have e2 : swAround r p = swV r p := by
    rw [e1]
    unfold swAround swV
    rw [o3, cond_true]
    unfold swing
    rw [p4, p3]
  have e3 : swBack r p = narrow (swingPhase (widen r) (widen (swV r p))) := by unfold swBack psV; rw [o2, cond_true]
  have e4 : swCircle p = narrow (swing (widen (c32 0)) (widen p)) := by unfold swCircle swV; rw [o4, cond_true]
  rw [← e3] at ht
  rw [← e4] at hc
  obtain ⟨q1, w1, hw1, w2⟩ := turns_small ht hv (by grind) (by grind)
  obtain ⟨q2, w3, hw3, w4⟩ := turns_small hu hu (by grind) (by grind)
  obtain ⟨x, hx, -, -, x3⟩ := gap_has (widen_has hc) (widen_has hv) (by grind) (by grind)
  obtain ⟨y3, hy3, y1, -⟩ := tn3_has
  obtain ⟨y4, hy4, y2⟩ := tn4_has
  have k1 : HasS one32 1 := one32_has
  unfold swAll
  rw [o1, o2, o3, o4, e2, q1, q2, ltS_has hu zero32_has, gtS_has hu k1, gt_has hw1 hy4, gt_has hw3 hy3, gt_has hx hy4,
    decide_eq_false (by grind), decide_eq_false (by grind), decide_eq_false (by grind), decide_eq_false (by grind), decide_eq_false (by grind)]
  rfl
theorem swings_run {W : World} {c m : Value} {l l' : List Int} (hc : BytesAt W c l) (hm : BytesAt W m l') :
    runK Try.prog [eSwingOf, ePhaseOfSwingOf, eTurns, eGapB, eLeanOf, ePhaseOfLean] [] [] [wB10Long W, wB10At W] noRule [] Try.f6 [.c (.val c), .c (.val m)] = wYes := by
  rw [sw_raw, good_of hc, good_of hm]
  simp only [Bool.and_self, cond_true]
  obtain ⟨a1, a2⟩ := b10v_range (bytesOf W c) 0 (n := 29) (by decide)
  obtain ⟨b1, b2⟩ := b10v_range (bytesOf W c) 1 (n := 256) (by decide)
  obtain ⟨c1, c2⟩ := b10v_range (bytesOf W m) 0 (n := 17) (by decide)
  obtain ⟨d1, d2⟩ := b10v_range (bytesOf W m) 1 (n := 129) (by decide)
  generalize b10v (bytesOf W c) 0 29 = a at *
  generalize b10v (bytesOf W c) 1 256 = b at *
  generalize b10v (bytesOf W m) 0 17 = d at *
  generalize b10v (bytesOf W m) 1 129 = e at *
  obtain ⟨a, rfl⟩ := Int.eq_ofNat_of_zero_le a1
  obtain ⟨b, rfl⟩ := Int.eq_ofNat_of_zero_le b1
  obtain ⟨d, rfl⟩ := Int.eq_ofNat_of_zero_le c1
  obtain ⟨e, rfl⟩ := Int.eq_ofNat_of_zero_le d1
  rw [swing_yes (by omega) (by omega), lean_yes (by omega) (by omega)]
  cases longV 1048576 (bytesOf W c) (bytesOf W m) <;> rfl
end Go.Proofs.Ytlpahmefebgdlaa.Fx
