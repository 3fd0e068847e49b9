/- Texts put together: Vb, Kd, Ke, Tb, Kf, Va. No condition. -/
import Derived.Test.YtlpahmefebgdlaaQi
/- What a pull does on the way from one place to a near one. Plain numbers. No condition. -/
namespace Go.Proofs.Ytlpahmefebgdlaa.Fx
open Go

/-- A distance's inverse. -/
structure Iv (k q R : Rat) : Prop where
  p : 999 / 1000 ≤ R
  i : q * R = 1
  k : q ≤ k
theorem Iv.nn {k q R : Rat} (h : Iv k q R) : 0 ≤ q := inv_nonneg h.i h.p
/-- A place's distance. -/
structure Ds (d z R : Rat) : Prop where
  r1 : R * R ≤ d * d + z * z + 31 / 1048576
  r2 : d * d + z * z ≤ R * R + 31 / 1048576
theorem mul2_le {a b k : Rat} (a0 : 0 ≤ a) (a1 : a ≤ k) (b0 : 0 ≤ b) (b1 : b ≤ k) : 0 ≤ a * b ∧ a * b ≤ k * k :=
  ⟨Rat.mul_nonneg a0 b0, (mul_bd (a := a) (b := b) (A := k) (B := k) (by grind) a1 (by grind) b1).2⟩
/-- The mean pull's factor: w (R + R') = 2 q q'. -/
theorem mean_ex {k q q' R R' : Rat} (h : Iv k q R) (h' : Iv k q' R') : ∃ w : Rat, w * (R + R') = 2 * (q * q') ∧ w * (q + q') = 2 * (q * q') * (q * q') ∧ 0 ≤ w ∧ w ≤ k * k * k := by
  have hp := h.p
  have hp' := h'.p
  obtain ⟨v, hv⟩ : ∃ v : Rat, v * (R + R') = 1 := ⟨(R + R')⁻¹, by rw [Rat.mul_comm]; exact Rat.mul_inv_cancel (R + R') (by grind)⟩
  have v0 : 0 ≤ v := by
    refine Rat.not_lt.1 fun h => ?_
    have := Rat.mul_nonneg (show 0 ≤ -v by grind) (show 0 ≤ R + R' by grind)
    grind
  have q0 := h.nn
  have q0' := h'.nn
  have e : q * q' * (R + R') = q + q' := by
    have : q * q' * (R + R') = q' * (q * R) + q * (q' * R') := by grind
    rw [this, h.i, h'.i]; grind
  have hs : v * (q + q') = q * q' := by
    rw [← e]
    have : v * (q * q' * (R + R')) = q * q' * (v * (R + R')) := by grind
    rw [this, hv]; grind
  refine ⟨2 * (q * q') * v, by grind, by grind, ?_, ?_⟩
  · exact Rat.mul_nonneg (by have := Rat.mul_nonneg q0 q0'; grind) v0
  · -- v <= k / 2
    have hv2 : 2 * v ≤ k := by
      have r1 : 1 ≤ k * R := by have := Rat.mul_le_mul_of_nonneg_right h.k (show 0 ≤ R by grind); have := h.i; grind
      have r2 : 1 ≤ k * R' := by have := Rat.mul_le_mul_of_nonneg_right h'.k (show 0 ≤ R' by grind); have := h'.i; grind
      have := Rat.mul_le_mul_of_nonneg_left (show 2 ≤ k * (R + R') by grind) v0
      have e2 : v * (k * (R + R')) = k * (v * (R + R')) := by grind
      rw [e2, hv] at this
      grind
    have hk := mul2_le q0 h.k q0' h'.k
    have := mul_bd (a := q * q') (b := 2 * v) (A := k * k) (B := k) (by grind) hk.2 (by grind) hv2
    grind
/-- A distance in the middle. -/
theorem mid_dist {k q0 qe q2 R0 Re R2 d0 z0 de ze d2 z2 r Dx Dy ex ey : Rat} (h0 : Iv k q0 R0) (he : Iv k qe Re) (h2 : Iv k q2 R2) (s0 : Ds d0 z0 R0) (se : Ds de ze Re) (s2 : Ds d2 z2 R2)
    (hr1 : R0 - Re ≤ r) (hr2 : -r ≤ R0 - Re) (x1 : de - d0 ≤ Dx) (x2 : -Dx ≤ de - d0) (y1 : ze - z0 ≤ Dy) (y2 : -Dy ≤ ze - z0)
    (e1 : d2 - (d0 + de) / 2 ≤ ex) (e2 : -ex ≤ d2 - (d0 + de) / 2) (f1 : z2 - (z0 + ze) / 2 ≤ ey) (f2 : -ey ≤ z2 - (z0 + ze) / 2) (exs : ex ≤ 1 / 50) (eys : ey ≤ 1 / 50) :
    R0 + Re - 2 * R2 ≤ 41 / 10 * (ex + ey) + k / 2 * ((Dx * Dx + Dy * Dy) / 2 + r * r + 124 / 1048576) ∧ -(41 / 10 * (ex + ey) + k / 2 * ((Dx * Dx + Dy * Dy) / 2 + r * r + 124 / 1048576)) ≤ R0 + Re - 2 * R2 := by
  have p0 := h0.p
  have pe := he.p
  have p2 := h2.p
  -- inverses of the sums
  have inv : ∀ {q R : Rat}, Iv k q R → ∃ v : Rat, v * (R + R2) = 1 ∧ 0 ≤ v ∧ 2 * v ≤ k ∧ v * R2 ≤ 1 ∧ v * R ≤ 1 ∧ v ≤ 6 / 10 := by
    intro q R h
    have p := h.p
    obtain ⟨v, hv⟩ : ∃ v : Rat, v * (R + R2) = 1 := ⟨(R + R2)⁻¹, by rw [Rat.mul_comm]; exact Rat.mul_inv_cancel (R + R2) (by grind)⟩
    have v0 : 0 ≤ v := by
      refine Rat.not_lt.1 fun h => ?_
      have := Rat.mul_nonneg (show 0 ≤ -v by grind) (show 0 ≤ R + R2 by grind)
      grind
    have r1 : 1 ≤ k * R := by have := Rat.mul_le_mul_of_nonneg_right h.k (show 0 ≤ R by grind); have := h.i; grind
    have r2 : 1 ≤ k * R2 := by have := Rat.mul_le_mul_of_nonneg_right h2.k (show 0 ≤ R2 by grind); have := h2.i; grind
    have t1 := Rat.mul_nonneg v0 (show 0 ≤ R by grind)
    have t2 := Rat.mul_nonneg v0 (show 0 ≤ R2 by grind)
    have t3 := Rat.mul_le_mul_of_nonneg_left (show 2 ≤ k * (R + R2) by grind) v0
    have e2 : v * (k * (R + R2)) = k * (v * (R + R2)) := by grind
    rw [e2, hv] at t3
    have t4 := Rat.mul_le_mul_of_nonneg_left (show 1998 / 1000 ≤ R + R2 by grind) v0
    exact ⟨v, hv, v0, by grind, by grind, by grind, by grind⟩
  obtain ⟨v, v1, v0, v2, v3, v4, v5⟩ := inv h0
  obtain ⟨u, u1, u0, u2, u3, u4, u5⟩ := inv he
  clear inv
  -- the identity
  have g0 : R0 - R2 = (R0 * R0 - R2 * R2) * v := by
    have : (R0 * R0 - R2 * R2) * v = (R0 - R2) * (v * (R0 + R2)) := by grind
    rw [this, v1]; grind
  have ge : Re - R2 = (Re * Re - R2 * R2) * u := by
    have : (Re * Re - R2 * R2) * u = (Re - R2) * (u * (Re + R2)) := by grind
    rw [this, u1]; grind
  have vu : v - u = (Re - R0) * (v * u) := by
    have : (Re - R0) * (v * u) = v * (u * (Re + R2)) - u * (v * (R0 + R2)) := by grind
    rw [this, u1, v1]; grind
  have id : R0 + Re - 2 * R2 = (R0 * R0 + Re * Re - 2 * (R2 * R2)) * ((v + u) / 2) - (R0 - Re) * (R0 - Re) * ((v * (u * Re) + u * (v * R0)) / 2) := by
    have t : R0 + Re - 2 * R2 = (R0 * R0 + Re * Re - 2 * (R2 * R2)) * ((v + u) / 2) + (R0 * R0 - Re * Re) * (v - u) / 2 := by grind
    rw [t, vu]; grind
  -- the first factor
  have B : R0 * R0 + Re * Re - 2 * (R2 * R2) ≤ (Dx * Dx + Dy * Dy) / 2 + 2 * (ex * (20002 / 10000 * R2 + 1 / 50)) + 2 * (ey * (20002 / 10000 * R2 + 1 / 50)) + 124 / 1048576 ∧
      -((Dx * Dx + Dy * Dy) / 2 + 2 * (ex * (20002 / 10000 * R2 + 1 / 50)) + 2 * (ey * (20002 / 10000 * R2 + 1 / 50)) + 124 / 1048576) ≤ R0 * R0 + Re * Re - 2 * (R2 * R2) := by
    clear g0 ge vu id v1 v0 v2 v3 v4 v5 u1 u0 u2 u3 u4 u5
    have a1 := side_le p2 s2.r2
    have a2 := side_le (d := z2) (z := d2) p2 (by have := s2.r2; grind)
    have sx := sq_le x2 x1
    have sy := sq_le y2 y1
    have mx := ab_mul (a := (d0 + de) / 2 - d2) (b := (d0 + de) / 2 + d2) (A := ex) (B := 20002 / 10000 * R2 + 1 / 50) (by grind) (by grind) (by grind) (by grind)
    have my := ab_mul (a := (z0 + ze) / 2 - z2) (b := (z0 + ze) / 2 + z2) (A := ey) (B := 20002 / 10000 * R2 + 1 / 50) (by grind) (by grind) (by grind) (by grind)
    have ix : d0 * d0 + de * de - 2 * (d2 * d2) = (de - d0) * (de - d0) / 2 + 2 * (((d0 + de) / 2 - d2) * ((d0 + de) / 2 + d2)) := by grind
    have iy : z0 * z0 + ze * ze - 2 * (z2 * z2) = (ze - z0) * (ze - z0) / 2 + 2 * (((z0 + ze) / 2 - z2) * ((z0 + ze) / 2 + z2)) := by grind
    obtain ⟨t1, t2⟩ := s0
    obtain ⟨t3, t4⟩ := se
    obtain ⟨t5, t6⟩ := s2
    generalize ((d0 + de) / 2 - d2) * ((d0 + de) / 2 + d2) = Mx at *
    generalize ((z0 + ze) / 2 - z2) * ((z0 + ze) / 2 + z2) = My at *
    generalize (de - d0) * (de - d0) = Sx at *
    generalize (ze - z0) * (ze - z0) = Sy at *
    generalize R0 * R0 = w1 at *
    generalize Re * Re = w2 at *
    generalize R2 * R2 = w3 at *
    generalize d0 * d0 = w4 at *
    generalize de * de = w5 at *
    generalize d2 * d2 = w6 at *
    generalize z0 * z0 = w7 at *
    generalize ze * ze = w8 at *
    generalize z2 * z2 = w9 at *
    generalize ex * (20002 / 10000 * R2 + 1 / 50) = Ex at *
    generalize ey * (20002 / 10000 * R2 + 1 / 50) = Ey at *
    constructor <;> grind
  have hz : 0 ≤ (v + u) / 2 := by grind
  have b1 := Rat.mul_le_mul_of_nonneg_right B.1 hz
  have b2 := Rat.mul_le_mul_of_nonneg_right B.2 hz
  -- the second part
  have rr := sq_le hr2 hr1
  have sec : 0 ≤ (v * (u * Re) + u * (v * R0)) / 2 ∧ (v * (u * Re) + u * (v * R0)) / 2 ≤ k / 2 := by
    have t1 := Rat.mul_le_mul_of_nonneg_left u4 v0
    have t2 := Rat.mul_le_mul_of_nonneg_left v4 u0
    have t3 := Rat.mul_nonneg v0 (Rat.mul_nonneg u0 (show 0 ≤ Re by grind))
    have t4 := Rat.mul_nonneg u0 (Rat.mul_nonneg v0 (show 0 ≤ R0 by grind))
    constructor <;> grind
  have k0 : 0 ≤ k := by have := h0.nn; have := h0.k; grind
  have sec2 : (R0 - Re) * (R0 - Re) * ((v * (u * Re) + u * (v * R0)) / 2) ≤ r * r * (k / 2) := by
    have := mul_bd (a := (R0 - Re) * (R0 - Re)) (b := (v * (u * Re) + u * (v * R0)) / 2) (A := r * r) (B := k / 2) (by grind) rr.2 (by grind) sec.2
    exact this.2
  have sec0 := Rat.mul_nonneg rr.1 sec.1
  -- the first part
  have dd : 0 ≤ Dx * Dx + Dy * Dy := by have := sq_nonneg Dx; have := sq_nonneg Dy; grind
  have ex0 : 0 ≤ ex := by grind
  have ey0 : 0 ≤ ey := by grind
  have fst : ((Dx * Dx + Dy * Dy) / 2 + 2 * (ex * (20002 / 10000 * R2 + 1 / 50)) + 2 * (ey * (20002 / 10000 * R2 + 1 / 50)) + 124 / 1048576) * ((v + u) / 2) ≤ 41 / 10 * (ex + ey) + k / 2 * ((Dx * Dx + Dy * Dy) / 2 + 124 / 1048576) := by
    have t1 := Rat.mul_le_mul_of_nonneg_left (show (v + u) / 2 ≤ k / 2 by grind) (show 0 ≤ (Dx * Dx + Dy * Dy) / 2 + 124 / 1048576 by grind)
    have t2 : (20002 / 10000 * R2 + 1 / 50) * ((v + u) / 2) ≤ 41 / 20 := by grind
    have t3 := Rat.mul_le_mul_of_nonneg_left t2 ex0
    have t4 := Rat.mul_le_mul_of_nonneg_left t2 ey0
    grind
  rw [id]
  generalize (R0 * R0 + Re * Re - 2 * (R2 * R2)) * ((v + u) / 2) = F at *
  generalize (R0 - Re) * (R0 - Re) * ((v * (u * Re) + u * (v * R0)) / 2) = G at *
  have e5 : k / 2 * ((Dx * Dx + Dy * Dy) / 2 + r * r + 124 / 1048576) = k / 2 * ((Dx * Dx + Dy * Dy) / 2 + 124 / 1048576) + r * r * (k / 2) := by grind
  rw [e5]
  have e6 : -((Dx * Dx + Dy * Dy) / 2 + 2 * (ex * (20002 / 10000 * R2 + 1 / 50)) + 2 * (ey * (20002 / 10000 * R2 + 1 / 50)) + 124 / 1048576) * ((v + u) / 2) = -(((Dx * Dx + Dy * Dy) / 2 + 2 * (ex * (20002 / 10000 * R2 + 1 / 50)) + 2 * (ey * (20002 / 10000 * R2 + 1 / 50)) + 124 / 1048576) * ((v + u) / 2)) := by grind
  rw [e6] at b2
  generalize ((Dx * Dx + Dy * Dy) / 2 + 2 * (ex * (20002 / 10000 * R2 + 1 / 50)) + 2 * (ey * (20002 / 10000 * R2 + 1 / 50)) + 124 / 1048576) * ((v + u) / 2) = H at *
  generalize k / 2 * ((Dx * Dx + Dy * Dy) / 2 + 124 / 1048576) = I at *
  generalize r * r * (k / 2) = J at *
  constructor <;> grind
/-- Means of two inverses. -/
theorem mean_facts {k q0 qe R0 Re w r : Rat} (h0 : Iv k q0 R0) (he : Iv k qe Re) (hr1 : R0 - Re ≤ r) (hr2 : -r ≤ R0 - Re) (hw : w * (q0 + qe) = 2 * (q0 * qe) * (q0 * qe)) :
    ∃ s t : Rat, q0 = s + t ∧ qe = s - t ∧ 0 < s ∧ s ≤ k ∧ q0 * qe * ((R0 + Re) / 2) = s ∧ t * (R0 - Re) ≤ k * k * (r * r) / 2 ∧ -(k * k * (r * r) / 2) ≤ t * (R0 - Re) ∧
      0 ≤ s * s * s - w ∧ s * s * s - w ≤ s * (q0 * qe * (q0 * qe)) * (r * r) / 2 ∧ 0 ≤ q0 * q0 * q0 + qe * qe * qe - 2 * w ∧ q0 * q0 * q0 + qe * qe * qe - 2 * w ≤ s * (q0 * qe * (q0 * qe)) * (r * r) * (5 / 2) := by
  have a0 := h0.nn
  have ae := he.nn
  have b0 := h0.i
  have be := he.i
  have p0 := h0.p
  have pe := he.p
  have hq0 : 0 < q0 := by
    refine Rat.not_le.1 fun h => ?_
    have : q0 = 0 := by grind
    rw [this] at b0; grind
  obtain ⟨c1, c2⟩ := mul2_le a0 h0.k ae he.k
  have rr := sq_le hr2 hr1
  have ht : (q0 - qe) / 2 = q0 * qe * (Re - R0) / 2 := by
    have : q0 * qe * (Re - R0) = q0 * (qe * Re) - qe * (q0 * R0) := by grind
    rw [this, b0, be]; grind
  have hsg : q0 * qe * ((R0 + Re) / 2) = (q0 + qe) / 2 := by
    have : q0 * qe * ((R0 + Re) / 2) = (qe * (q0 * R0) + q0 * (qe * Re)) / 2 := by grind
    rw [this, b0, be]; grind
  have k0 := h0.k
  have ke := he.k
  refine ⟨(q0 + qe) / 2, (q0 - qe) / 2, by grind, by grind, by grind, by grind, hsg, ?_⟩
  have hs0 : 0 < (q0 + qe) / 2 := by grind
  generalize hS : (q0 + qe) / 2 = s at *
  generalize hT : (q0 - qe) / 2 = t at *
  have e0 : q0 = s + t := by grind
  have ee : qe = s - t := by grind
  have hp : q0 * qe = s * s - t * t := by rw [e0, ee]; grind
  have tt : t * t ≤ q0 * qe * (q0 * qe) * (r * r) / 4 := by
    have f : t * t = q0 * qe * (q0 * qe) * ((R0 - Re) * (R0 - Re)) / 4 := by rw [ht]; grind
    have := Rat.mul_le_mul_of_nonneg_left rr.2 (Rat.mul_nonneg c1 c1)
    rw [f]; grind
  have tR : t * (R0 - Re) = -(q0 * qe * ((R0 - Re) * (R0 - Re)) / 2) := by rw [ht]; grind
  have m := mul_bd (a := q0 * qe) (b := (R0 - Re) * (R0 - Re)) (A := k * k) (B := r * r) (by grind) c2 (by grind) rr.2
  have m0 := Rat.mul_nonneg c1 rr.1
  have t0 := sq_nonneg t
  have ts : t * t ≤ s * s := by
    have := c1
    rw [hp] at this; grind
  -- w s = (q0 qe)^2
  have hws : w * s = (s * s - t * t) * (s * s - t * t) := by rw [← hp]; grind
  have X : (s * s * s - w) * s = t * t * (2 * (s * s) - t * t) := by grind
  have Y : (q0 * q0 * q0 + qe * qe * qe - 2 * w) * s = t * t * (10 * (s * s) - 2 * (t * t)) := by rw [e0, ee]; grind
  have cancel : ∀ a b : Rat, a * s ≤ b * s → a ≤ b := fun a b h => Rat.le_of_mul_le_mul_left (by grind) hs0
  refine ⟨by grind, by grind, ?_, ?_, ?_, ?_⟩
  · refine cancel _ _ ?_
    rw [X]
    have := Rat.mul_nonneg t0 (show 0 ≤ 2 * (s * s) - t * t by grind)
    grind
  · refine cancel _ _ ?_
    rw [X]
    have h1 := Rat.mul_le_mul_of_nonneg_left (show 2 * (s * s) - t * t ≤ 2 * (s * s) by grind) t0
    have h2 := Rat.mul_le_mul_of_nonneg_right tt (show 0 ≤ 2 * (s * s) by have := sq_nonneg s; grind)
    generalize q0 * qe * (q0 * qe) = u at *
    grind
  · refine cancel _ _ ?_
    rw [Y]
    have := Rat.mul_nonneg t0 (show 0 ≤ 10 * (s * s) - 2 * (t * t) by grind)
    grind
  · refine cancel _ _ ?_
    rw [Y]
    have h1 := Rat.mul_le_mul_of_nonneg_left (show 10 * (s * s) - 2 * (t * t) ≤ 10 * (s * s) by grind) t0
    have h2 := Rat.mul_le_mul_of_nonneg_right tt (show 0 ≤ 10 * (s * s) by have := sq_nonneg s; grind)
    generalize q0 * qe * (q0 * qe) = u at *
    grind
/-- A side times an excess that is a square of the difference. -/
theorem side_square {k q0 qe R0 Re D s c X r : Rat} (h0 : Iv k q0 R0) (he : Iv k qe Re) (hs0 : 0 ≤ s) (hs : s ≤ k) (hsg : q0 * qe * ((R0 + Re) / 2) = s) (d1 : D ≤ 10001 / 10000 * ((R0 + Re) / 2)) (d2 : -(10001 / 10000 * ((R0 + Re) / 2)) ≤ D) (c0 : 0 ≤ c) (x0 : 0 ≤ X) (x1 : X ≤ s * (q0 * qe * (q0 * qe)) * (r * r) * c) :
    D * X ≤ 10001 / 10000 * c * (k * k * (k * k)) * (r * r) ∧ -(10001 / 10000 * c * (k * k * (k * k)) * (r * r)) ≤ D * X := by
  obtain ⟨c1, c2⟩ := mul2_le h0.nn h0.k he.nn he.k
  have rr := sq_nonneg r
  have p0 := h0.p
  have pe := he.p
  have m1 := Rat.mul_le_mul_of_nonneg_right d1 x0
  have m2 := Rat.mul_le_mul_of_nonneg_right d2 x0
  have m3 := Rat.mul_le_mul_of_nonneg_left x1 (show 0 ≤ 10001 / 10000 * ((R0 + Re) / 2) by grind)
  have e : 10001 / 10000 * ((R0 + Re) / 2) * (s * (q0 * qe * (q0 * qe)) * (r * r) * c) = 10001 / 10000 * c * ((s * (q0 * qe * ((R0 + Re) / 2))) * (q0 * qe)) * (r * r) := by grind
  rw [e, hsg] at m3
  obtain ⟨s1, s2⟩ := mul2_le hs0 hs hs0 hs
  have m4 := (mul_bd (a := s * s) (b := q0 * qe) (A := k * k) (B := k * k) (by grind) s2 (by grind) c2).2
  have m5 := Rat.mul_le_mul_of_nonneg_left m4 c0
  have m6 := Rat.mul_le_mul_of_nonneg_right m5 rr
  have e2 : 10001 / 10000 * c * (s * s * (q0 * qe)) * (r * r) = 10001 / 10000 * (c * (s * s * (q0 * qe)) * (r * r)) := by grind
  rw [e2] at m3
  constructor <;> grind
/-- The pull in the middle. -/
theorem mid_pull {k q0 qe q2 R0 Re R2 d0 de d2 z2 w r rho ex : Rat} (h0 : Iv k q0 R0) (he : Iv k qe Re) (h2 : Iv k q2 R2) (kk : k ≤ 11 / 10) (s2 : Ds d2 z2 R2)
    (hr1 : R0 - Re ≤ r) (hr2 : -r ≤ R0 - Re) (hw : w * (q0 + qe) = 2 * (q0 * qe) * (q0 * qe))
    (b1 : (d0 + de) / 2 ≤ 10001 / 10000 * ((R0 + Re) / 2)) (b2 : -(10001 / 10000 * ((R0 + Re) / 2)) ≤ (d0 + de) / 2)
    (e1 : d2 - (d0 + de) / 2 ≤ ex) (e2 : -ex ≤ d2 - (d0 + de) / 2) (exs : ex ≤ 1 / 50) (g1 : R0 + Re - 2 * R2 ≤ rho) (g2 : -rho ≤ R0 + Re - 2 * R2) :
    d2 * (q2 * q2 * q2) - w * ((d0 + de) / 2) ≤ ex * (k * k * k) + 13 / 10 * (k * k * (k * k)) * (r * r) + 155 / 100 * (k * k * k) * rho ∧
    -(ex * (k * k * k) + 13 / 10 * (k * k * (k * k)) * (r * r) + 155 / 100 * (k * k * k) * rho) ≤ d2 * (q2 * q2 * q2) - w * ((d0 + de) / 2) := by
  obtain ⟨s, t, i0, ie, s0, sk, hsg, t1, t2, x0, x1, -, -⟩ := mean_facts h0 he hr1 hr2 hw
  have side := side_le h2.p s2.r2
  generalize (d0 + de) / 2 = D at *
  have q0' := h2.nn
  have p2 := h2.p
  have A := side_square (c := 1 / 2) (X := s * s * s - w) (r := r) h0 he (by grind) sk hsg b1 b2 (by grind) x0 (by grind)
  -- q2 against the mean
  have B : q2 - s = q2 * ((s * (R0 + Re - 2 * R2) + t * (R0 - Re)) / 2) := by
    have e0 := h0.i
    have ee := he.i
    have e2' := h2.i
    have : q2 * ((s * (R0 + Re - 2 * R2) + t * (R0 - Re)) / 2) = q2 * (((s + t) * R0 + (s - t) * Re) / 2) - s * (q2 * R2) := by grind
    rw [this, ← i0, ← ie, e0, ee, e2']; grind
  have k0 : 0 ≤ k := by have := h2.k; grind
  have rho0 : 0 ≤ rho := by grind
  have C : (s * (R0 + Re - 2 * R2) + t * (R0 - Re)) / 2 ≤ (k * rho + k * k * (r * r) / 2) / 2 ∧ -((k * rho + k * k * (r * r) / 2) / 2) ≤ (s * (R0 + Re - 2 * R2) + t * (R0 - Re)) / 2 := by
    have := ab_mul (a := s) (b := R0 + Re - 2 * R2) (A := k) (B := rho) (by grind) sk g2 g1
    constructor <;> grind
  have Dq : D * q2 ≤ 103 / 100 ∧ -(103 / 100) ≤ D * q2 := by
    have u1 := Rat.mul_le_mul_of_nonneg_right (show D ≤ 10001 / 10000 * R2 + 1 / 50 by grind) q0'
    have u2 := Rat.mul_le_mul_of_nonneg_right (show -(10001 / 10000 * R2 + 1 / 50) ≤ D by grind) q0'
    have e3 : (10001 / 10000 * R2 + 1 / 50) * q2 = 10001 / 10000 * (q2 * R2) + 1 / 50 * q2 := by grind
    have e4 : -(10001 / 10000 * R2 + 1 / 50) * q2 = -(10001 / 10000 * (q2 * R2) + 1 / 50 * q2) := by grind
    rw [e3, h2.i] at u1
    rw [e4, h2.i] at u2
    have := h2.k
    constructor <;> grind
  have Q := mul2_le q0' h2.k q0' h2.k
  have Q2 := mul2_le q0' h2.k (show 0 ≤ s by grind) sk
  have Q3 := mul2_le (show 0 ≤ s by grind) sk (show 0 ≤ s by grind) sk
  generalize hZ : (s * (R0 + Re - 2 * R2) + t * (R0 - Re)) / 2 = Z at *
  have E1 := ab_mul (a := D * q2) (b := Z) (A := 103 / 100) (B := (k * rho + k * k * (r * r) / 2) / 2) Dq.2 Dq.1 C.2 C.1
  have E2 := ab_mul (a := D * q2 * Z) (b := q2 * q2 + q2 * s + s * s) (A := 103 / 100 * ((k * rho + k * k * (r * r) / 2) / 2)) (B := 3 * (k * k)) E1.2 E1.1 (by grind) (by grind)
  have F : D * (q2 * q2 * q2 - s * s * s) = D * q2 * Z * (q2 * q2 + q2 * s + s * s) := by
    have : q2 * q2 * q2 - s * s * s = (q2 - s) * (q2 * q2 + q2 * s + s * s) := by grind
    rw [this, B]; grind
  rw [← F] at E2
  have G := cube_le q0' h2.k
  have G0 := (mul3_le q0' h2.k q0' h2.k q0' h2.k).1
  have H := ab_mul (a := d2 - D) (b := q2 * q2 * q2) (A := ex) (B := k * k * k) e2 e1 (by grind) G
  have id : d2 * (q2 * q2 * q2) - w * D = (d2 - D) * (q2 * q2 * q2) + D * (q2 * q2 * q2 - s * s * s) + D * (s * s * s - w) := by grind
  rw [id]
  have e5 : 103 / 100 * ((k * rho + k * k * (r * r) / 2) / 2) * (3 * (k * k)) = 309 / 200 * (k * k * k) * rho + 309 / 400 * (k * k * (k * k)) * (r * r) := by grind
  rw [e5] at E2
  have n1 : 0 ≤ k * k * k * rho := Rat.mul_nonneg (by have := Rat.mul_nonneg (Rat.mul_nonneg k0 k0) k0; exact this) rho0
  have n2 : 0 ≤ k * k * (k * k) * (r * r) := Rat.mul_nonneg (by have := Rat.mul_nonneg k0 k0; exact Rat.mul_nonneg this this) (sq_nonneg r)
  have e6 : 155 / 100 * (k * k * k) * rho = 155 / 100 * (k * k * k * rho) := by grind
  have e7 : 13 / 10 * (k * k * (k * k)) * (r * r) = 13 / 10 * (k * k * (k * k) * (r * r)) := by grind
  have e8 : 309 / 200 * (k * k * k) * rho = 309 / 200 * (k * k * k * rho) := by grind
  have e9 : 309 / 400 * (k * k * (k * k)) * (r * r) = 309 / 400 * (k * k * (k * k) * (r * r)) := by grind
  have e10 : 10001 / 10000 * (1 / 2) * (k * k * (k * k)) * (r * r) = 10001 / 20000 * (k * k * (k * k) * (r * r)) := by grind
  rw [e6, e7]
  rw [e8, e9] at E2
  rw [e10] at A
  generalize k * k * k * rho = N1 at *
  generalize k * k * (k * k) * (r * r) = N2 at *
  generalize D * (q2 * q2 * q2 - s * s * s) = N3 at *
  generalize D * (s * s * s - w) = N4 at *
  generalize (d2 - D) * (q2 * q2 * q2) = N5 at *
  generalize ex * (k * k * k) = N6 at *
  constructor <;> grind
/-- The pulls at both ends. -/
theorem end_pull {k q0 qe R0 Re d0 de w r Dx : Rat} (h0 : Iv k q0 R0) (he : Iv k qe Re)
    (hr1 : R0 - Re ≤ r) (hr2 : -r ≤ R0 - Re) (hw : w * (q0 + qe) = 2 * (q0 * qe) * (q0 * qe))
    (b1 : (d0 + de) / 2 ≤ 10001 / 10000 * ((R0 + Re) / 2)) (b2 : -(10001 / 10000 * ((R0 + Re) / 2)) ≤ (d0 + de) / 2) (x1 : de - d0 ≤ Dx) (x2 : -Dx ≤ de - d0) :
    d0 * (q0 * q0 * q0) + de * (qe * qe * qe) - 2 * (w * ((d0 + de) / 2)) ≤ 251 / 100 * (k * k * (k * k)) * (r * r) + 3 / 2 * (k * k * (k * k)) * (r * Dx) ∧
    -(251 / 100 * (k * k * (k * k)) * (r * r) + 3 / 2 * (k * k * (k * k)) * (r * Dx)) ≤ d0 * (q0 * q0 * q0) + de * (qe * qe * qe) - 2 * (w * ((d0 + de) / 2)) := by
  obtain ⟨s, t, i0, ie, s0, sk, hsg, -, -, -, -, y0, y1⟩ := mean_facts h0 he hr1 hr2 hw
  have A := side_square (c := 5 / 2) (X := q0 * q0 * q0 + qe * qe * qe - 2 * w) (r := r) h0 he (by grind) sk hsg b1 b2 (by grind) y0 y1
  obtain ⟨c1, c2⟩ := mul2_le h0.nn h0.k he.nn he.k
  have B : q0 - qe = q0 * qe * (Re - R0) := by
    have b0 := h0.i
    have be := he.i
    have : q0 * qe * (Re - R0) = q0 * (qe * Re) - qe * (q0 * R0) := by grind
    rw [this, b0, be]; grind
  have k0 : 0 ≤ k := by have := h0.k; have := h0.nn; grind
  have Q := mul2_le h0.nn h0.k h0.nn h0.k
  have Q3 := mul2_le he.nn he.k he.nn he.k
  have C := ab_mul (a := q0 * qe) (b := Re - R0) (A := k * k) (B := r) (by grind) c2 (by grind) (by grind)
  have D := ab_mul (a := q0 * qe * (Re - R0)) (b := q0 * q0 + q0 * qe + qe * qe) (A := k * k * r) (B := 3 * (k * k)) C.2 C.1 (by grind) (by grind)
  have E := ab_mul (a := q0 * qe * (Re - R0) * (q0 * q0 + q0 * qe + qe * qe)) (b := (d0 - de) / 2) (A := k * k * r * (3 * (k * k))) (B := Dx / 2) D.2 D.1 (by grind) (by grind)
  have id : d0 * (q0 * q0 * q0) + de * (qe * qe * qe) - 2 * (w * ((d0 + de) / 2)) = (d0 + de) / 2 * (q0 * q0 * q0 + qe * qe * qe - 2 * w) + q0 * qe * (Re - R0) * (q0 * q0 + q0 * qe + qe * qe) * ((d0 - de) / 2) := by
    rw [← B]; grind
  rw [id]
  have e : k * k * r * (3 * (k * k)) * (Dx / 2) = 3 / 2 * (k * k * (k * k)) * (r * Dx) := by grind
  rw [e] at E
  have n2 : 0 ≤ k * k * (k * k) * (r * r) := Rat.mul_nonneg (by have := Rat.mul_nonneg k0 k0; exact Rat.mul_nonneg this this) (sq_nonneg r)
  have e7 : 251 / 100 * (k * k * (k * k)) * (r * r) = 251 / 100 * (k * k * (k * k) * (r * r)) := by grind
  have e10 : 10001 / 10000 * (5 / 2) * (k * k * (k * k)) * (r * r) = 10001 / 4000 * (k * k * (k * k) * (r * r)) := by grind
  rw [e7]
  rw [e10] at A
  generalize k * k * (k * k) * (r * r) = N2 at *
  generalize (d0 + de) / 2 * (q0 * q0 * q0 + qe * qe * qe - 2 * w) = N3 at *
  generalize q0 * qe * (Re - R0) * (q0 * q0 + q0 * qe + qe * qe) * ((d0 - de) / 2) = N4 at *
  generalize 3 / 2 * (k * k * (k * k)) * (r * Dx) = N5 at *
  constructor <;> grind
end Go.Proofs.Ytlpahmefebgdlaa.Fx
/- Ships' steps: what they are worth, in boxes and in pairs. No condition. -/
namespace Go.Proofs.Ytlpahmefebgdlaa.Fx
open Go

/-- A place moved by a number times a rate. -/
structure Mv (P K : V4) (H u : Rat) (Q : V4) : Prop where
  x1 : Q.x ≤ P.x + H * K.x + u
  x2 : P.x + H * K.x ≤ Q.x + u
  y1 : Q.y ≤ P.y + H * K.y + u
  y2 : P.y + H * K.y ≤ Q.y + u
  u1 : Q.u ≤ P.u + H * K.u + u
  u2 : P.u + H * K.u ≤ Q.u + u
  v1 : Q.v ≤ P.v + H * K.v + u
  v2 : P.v + H * K.v ≤ Q.v + u
/-- No part is greater than B. -/
structure Lt (B : Rat) (K : V4) : Prop where
  x1 : -B ≤ K.x
  x2 : K.x ≤ B
  y1 : -B ≤ K.y
  y2 : K.y ≤ B
  u1 : -B ≤ K.u
  u2 : K.u ≤ B
  v1 : -B ≤ K.v
  v2 : K.v ≤ B
theorem mv1 {x r h : F32} {a k H : Rat} (hx : HasS x a) (hr : HasS r k) (hh : HasS h H) (H0 : 0 ≤ H) (H1 : H ≤ 1 / 32) (a1 : -8 ≤ a) (a2 : a ≤ 8) (k1 : -64 ≤ k) (k2 : k ≤ 64) :
    ∃ v, HasS (x + r * h) v ∧ v ≤ a + k * H + 9 / 8388608 ∧ a + k * H ≤ v + 9 / 8388608 := by
  have m := ab_mul (a := k) (b := H) (A := 64) (B := 1 / 32) k1 k2 (by grind) H1
  obtain ⟨q, hq, q1, q2⟩ := mulE 1 2 (1 / 8388608) (by decide +kernel) (by decide +kernel) (by decide) (by decide) hr hh (by grind) (by grind)
  obtain ⟨v, hv, v1, v2⟩ := addE 4 16 (1 / 1048576) (by decide +kernel) (by decide +kernel) (by decide) (by decide) hx hq (by grind) (by grind)
  exact ⟨v, hv, by grind, by grind⟩
theorem mv_has {g H : Rat} {p r : Sh} {h : F32} {P K : V4} (hg : g = 1 ∨ g = -1) (hp : HasG g p P) (hr : RateG g r K) (hh : HasS h H) (H0 : 0 ≤ H) (H1 : H ≤ 1 / 32) (lp : Lt 8 P) (lk : Lt 64 K) :
    ∃ Q, HasG g (p.mv h r) Q ∧ Mv P K (g * H) (9 / 8388608) Q := by
  obtain ⟨p1, p2, p3, p4, p5, p6, p7, p8⟩ := lp
  obtain ⟨k1, k2, k3, k4, k5, k6, k7, k8⟩ := lk
  obtain ⟨X, hX, X1, X2⟩ := mv1 hp.x hr.x hh H0 H1 p1 p2 (by rcases hg with rfl | rfl <;> grind) (by rcases hg with rfl | rfl <;> grind)
  obtain ⟨Y, hY, Y1, Y2⟩ := mv1 hp.y hr.y hh H0 H1 (by rcases hg with rfl | rfl <;> grind) (by rcases hg with rfl | rfl <;> grind) k3 k4
  obtain ⟨U, hU, U1, U2⟩ := mv1 hp.u hr.u hh H0 H1 (by rcases hg with rfl | rfl <;> grind) (by rcases hg with rfl | rfl <;> grind) k5 k6
  obtain ⟨V, hV, V1, V2⟩ := mv1 hp.v hr.v hh H0 H1 p7 p8 (by rcases hg with rfl | rfl <;> grind) (by rcases hg with rfl | rfl <;> grind)
  have gg : ∀ a : Rat, g * (g * a) = a := fun a => by rcases hg with rfl | rfl <;> grind
  refine ⟨⟨X, g * Y, g * U, V⟩, ⟨hX, ?_, ?_, hV⟩, ?_⟩
  · show HasS _ (g * (g * Y)); rw [gg]; exact hY
  · show HasS _ (g * (g * U)); rw [gg]; exact hU
  · constructor <;> dsimp only <;> rcases hg with rfl | rfl <;> grind
/-- The weighted sum of rates. -/
theorem sum1 {k l m n : F32} {K L M N : Rat} (hk : HasS k K) (hl : HasS l L) (hm : HasS m M) (hn : HasS n N) (k1 : -10 ≤ K) (k2 : K ≤ 10) (l1 : -10 ≤ L) (l2 : L ≤ 10) (m1 : -10 ≤ M) (m2 : M ≤ 10) (n1 : -10 ≤ N) (n2 : N ≤ 10) :
    ∃ S, HasS (k + l * two32 + m * two32 + n) S ∧ S ≤ K + 2 * L + 2 * M + N + 16 / 1048576 ∧ K + 2 * L + 2 * M + N ≤ S + 16 / 1048576 := by
  obtain ⟨a, ha, a1, a2⟩ := mulE 5 32 (1 / 524288) (by decide +kernel) (by decide +kernel) (by decide) (by decide) hl two_hasS (by grind) (by grind)
  obtain ⟨b, hb, b1, b2⟩ := mulE 5 32 (1 / 524288) (by decide +kernel) (by decide +kernel) (by decide) (by decide) hm two_hasS (by grind) (by grind)
  obtain ⟨c, hc, c1, c2⟩ := addE 6 64 (1 / 262144) (by decide +kernel) (by decide +kernel) (by decide) (by decide) hk ha (by grind) (by grind)
  obtain ⟨d, hd, d1, d2⟩ := addE 6 64 (1 / 262144) (by decide +kernel) (by decide +kernel) (by decide) (by decide) hc hb (by grind) (by grind)
  obtain ⟨e, he, e1, e2⟩ := addE 6 64 (1 / 262144) (by decide +kernel) (by decide +kernel) (by decide) (by decide) hd hn (by grind) (by grind)
  exact ⟨e, he, by grind, by grind⟩
def vSum (K L M N : V4) : V4 := ⟨K.x + 2 * L.x + 2 * M.x + N.x, K.y + 2 * L.y + 2 * M.y + N.y, K.u + 2 * L.u + 2 * M.u + N.u, K.v + 2 * L.v + 2 * M.v + N.v⟩
theorem sum_has {g : Rat} {k l m n : Sh} {K L M N : V4} (hg : g = 1 ∨ g = -1) (hk : RateG g k K) (hl : RateG g l L) (hm : RateG g m M) (hn : RateG g n N) (lk : Lt 10 K) (ll : Lt 10 L) (lm : Lt 10 M) (ln : Lt 10 N) :
    ∃ S, RateG g (((k.pl l.tw).pl m.tw).pl n) S ∧ Mv (vSum K L M N) ⟨0, 0, 0, 0⟩ 0 (16 / 1048576) S := by
  obtain ⟨p1, p2, p3, p4, p5, p6, p7, p8⟩ := lk
  obtain ⟨q1, q2, q3, q4, q5, q6, q7, q8⟩ := ll
  obtain ⟨r1, r2, r3, r4, r5, r6, r7, r8⟩ := lm
  obtain ⟨s1, s2, s3, s4, s5, s6, s7, s8⟩ := ln
  have gb : ∀ a : Rat, -10 ≤ a → a ≤ 10 → -10 ≤ g * a ∧ g * a ≤ 10 := fun a h1 h2 => by rcases hg with rfl | rfl <;> constructor <;> grind
  obtain ⟨X, hX, X1, X2⟩ := sum1 hk.x hl.x hm.x hn.x (gb _ p1 p2).1 (gb _ p1 p2).2 (gb _ q1 q2).1 (gb _ q1 q2).2 (gb _ r1 r2).1 (gb _ r1 r2).2 (gb _ s1 s2).1 (gb _ s1 s2).2
  obtain ⟨Y, hY, Y1, Y2⟩ := sum1 hk.y hl.y hm.y hn.y p3 p4 q3 q4 r3 r4 s3 s4
  obtain ⟨U, hU, U1, U2⟩ := sum1 hk.u hl.u hm.u hn.u p5 p6 q5 q6 r5 r6 s5 s6
  obtain ⟨V, hV, V1, V2⟩ := sum1 hk.v hl.v hm.v hn.v (gb _ p7 p8).1 (gb _ p7 p8).2 (gb _ q7 q8).1 (gb _ q7 q8).2 (gb _ r7 r8).1 (gb _ r7 r8).2 (gb _ s7 s8).1 (gb _ s7 s8).2
  have gg : ∀ a : Rat, g * (g * a) = a := fun a => by rcases hg with rfl | rfl <;> grind
  refine ⟨⟨g * X, Y, U, g * V⟩, ⟨?_, hY, hU, ?_⟩, ?_⟩
  · show HasS _ (g * (g * X)); rw [gg]; exact hX
  · show HasS _ (g * (g * V)); rw [gg]; exact hV
  · unfold vSum
    constructor <;> dsimp only <;> rcases hg with rfl | rfl <;> grind
/-- The tick: 1/32, its half and its sixth. -/
structure Tick (h : F32) : Prop where
  h1 : HasS h (1 / 32)
  h2 : HasS (h / two32) (1 / 64)
  h6 : HasS (h / six32) (11184811 / 2147483648)
theorem fin_has {g : Rat} {p k l m n : Sh} {h : F32} {P K L M N : V4} (ht : Tick h) (hg : g = 1 ∨ g = -1) (hp : HasG g p P) (hk : RateG g k K) (hl : RateG g l L) (hm : RateG g m M) (hn : RateG g n N) (lp : Lt 8 P) (lk : Lt 10 K) (ll : Lt 10 L) (lm : Lt 10 M) (ln : Lt 10 N) :
    ∃ Q, HasG g (p.mv (h / six32) (((k.pl l.tw).pl m.tw).pl n)) Q ∧ Mv P (vSum K L M N) (g / 192) (5 / 4194304) Q := by
  obtain ⟨S, hS, m1, m2, m3, m4, m5, m6, m7, m8⟩ := sum_has hg hk hl hm hn lk ll lm ln
  obtain ⟨p1, p2, p3, p4, p5, p6, p7, p8⟩ := lk
  obtain ⟨q1, q2, q3, q4, q5, q6, q7, q8⟩ := ll
  obtain ⟨r1, r2, r3, r4, r5, r6, r7, r8⟩ := lm
  obtain ⟨s1, s2, s3, s4, s5, s6, s7, s8⟩ := ln
  unfold vSum at m1 m2 m3 m4 m5 m6 m7 m8
  dsimp only at m1 m2 m3 m4 m5 m6 m7 m8
  obtain ⟨Q, hQ, n1, n2, n3, n4, n5, n6, n7, n8⟩ := mv_has hg hp hS ht.h6 (by grind) (by grind) lp (by constructor <;> grind)
  refine ⟨Q, hQ, ?_⟩
  unfold vSum
  constructor <;> dsimp only <;> rcases hg with rfl | rfl <;> grind
/-- A rate at a place: what it is worth; k1, k2 bound the inverse distances. -/
structure Ra (s : F32) (m g k1 k2 : Rat) (p : Sh) (P K : V4) : Prop where
  kx : K.x = P.u
  ky : K.y = P.v
  pl : ∃ d e z R1 q1 R2 q2, Pl s p.x p.y m P.x (g * P.y) d e z R1 q1 R2 q2 ∧ q1 ≤ k1 ∧ q2 ≤ k2 ∧
      K.u ≤ 2 * P.v + P.x - pullX m d e q1 q2 + 1 / 2000 ∧ 2 * P.v + P.x - pullX m d e q1 q2 ≤ K.u + 1 / 2000 ∧
      K.v ≤ -2 * P.u + P.y - g * pullX m z z q1 q2 + 1 / 2000 ∧ -2 * P.u + P.y - g * pullX m z z q1 q2 ≤ K.v + 1 / 2000
/-- A rectangle of places: how great pulls are there. -/
structure Zone (m xa xb ya yb gl gh c k1 k2 : Rat) : Prop where
  x1 : -8 ≤ xa
  x2 : xb ≤ 8
  y1 : -8 ≤ ya
  y2 : yb ≤ 8
  f1 : ∀ x y : Rat, xa ≤ x → x ≤ xb → ya ≤ y → y ≤ yb → 1 ≤ (x + m) * (x + m) + y * y
  f2 : ∀ x y : Rat, xa ≤ x → x ≤ xb → ya ≤ y → y ≤ yb → 1 ≤ (x - 1 + m) * (x - 1 + m) + y * y
  kk : ∀ {s fx fy : F32} {g X Y d e z R1 q1 R2 q2 : Rat}, g = 1 ∨ g = -1 → xa ≤ X → X ≤ xb → ya ≤ Y → Y ≤ yb → Pl s fx fy m X (g * Y) d e z R1 q1 R2 q2 → q1 ≤ k1 ∧ q2 ≤ k2 ∧ gl ≤ pullX m d e q1 q2 ∧ pullX m d e q1 q2 ≤ gh
  c : (1 - m) * (k1 * k1 * k1) + m * (k2 * k2 * k2) ≤ c
/-- In a rectangle, not too fast. -/
structure InR (xa xb ya yb : Rat) (P : V4) : Prop where
  x1 : xa ≤ P.x
  x2 : P.x ≤ xb
  y1 : ya ≤ P.y
  y2 : P.y ≤ yb
  u1 : -8 ≤ P.u
  u2 : P.u ≤ 8
  v1 : -8 ≤ P.v
  v2 : P.v ≤ 8
theorem acc_zone {s : F32} {m g xa xb ya yb gl gh c k1 k2 : Rat} {p : Sh} {P : V4} (hs : Shr s m) (hz : Zone m xa xb ya yb gl gh c k1 k2) (hg : g = 1 ∨ g = -1) (hp : HasG g p P) (hr : InR xa xb ya yb P) :
    accQ s p = true ∧ Lt 8 P ∧ ∃ K, Ra s m g k1 k2 p P K ∧ RateG g (acc s p) K ∧
      K.u ≤ 2 * P.v + P.x - gl + 1 / 2000 ∧ 2 * P.v + P.x - gh ≤ K.u + 1 / 2000 := by
  obtain ⟨x1, x2, y1, y2, u1, u2, v1, v2⟩ := hr
  obtain ⟨z1, z2, z3, z4, f1, f2, hk, -⟩ := hz
  obtain ⟨hq, d, e, z, R1, q1, R2, q2, K, hP, hK, e1, e2, a1, a2, a3, a4⟩ := acc_has hs hg hp ⟨by grind, by grind, by grind, by grind, u1, u2, v1, v2, f1 _ _ x1 x2 y1 y2, f2 _ _ x1 x2 y1 y2⟩
  obtain ⟨b1, b2, b3, b4⟩ := hk hg x1 x2 y1 y2 hP
  exact ⟨hq, ⟨by grind, by grind, by grind, by grind, u1, u2, v1, v2⟩, K, ⟨e1, e2, d, e, z, R1, q1, R2, q2, hP, b1, b2, a1, a2, a3, a4⟩, hK, by grind, by grind⟩
theorem pull_zz (m z q1 q2 : Rat) : pullX m z z q1 q2 = z * ((1 - m) * (q1 * q1 * q1) + m * (q2 * q2 * q2)) := by unfold pullX; grind
theorem coef_le {m k1 k2 c q1 q2 : Rat} (m0 : 0 ≤ m) (m1 : m ≤ 1) (h1 : 0 ≤ q1) (h2 : 0 ≤ q2) (l1 : q1 ≤ k1) (l2 : q2 ≤ k2) (hc : (1 - m) * (k1 * k1 * k1) + m * (k2 * k2 * k2) ≤ c) :
    0 ≤ (1 - m) * (q1 * q1 * q1) + m * (q2 * q2 * q2) ∧ (1 - m) * (q1 * q1 * q1) + m * (q2 * q2 * q2) ≤ c := by
  have a := cube_le h1 l1
  have b := cube_le h2 l2
  have a0 := (mul3_le h1 l1 h1 l1 h1 l1).1
  have b0 := (mul3_le h2 l2 h2 l2 h2 l2).1
  have c1 := Rat.mul_le_mul_of_nonneg_left a (show 0 ≤ 1 - m by grind)
  have c2 := Rat.mul_le_mul_of_nonneg_left b m0
  have d1 := Rat.mul_nonneg (show 0 ≤ 1 - m by grind) a0
  have d2 := Rat.mul_nonneg m0 b0
  constructor <;> grind
/-- The rate's last part, between bounds of the place's. -/
theorem ra_v {s : F32} {m g k1 k2 c : Rat} {p : Sh} {P K : V4} (hs : Shr s m) (hg : g = 1 ∨ g = -1) (h : Ra s m g k1 k2 p P K) (hc : (1 - m) * (k1 * k1 * k1) + m * (k2 * k2 * k2) ≤ c) (c1 : c ≤ 1) {yl yh : Rat} (h1 : yl ≤ P.y) (h2 : P.y ≤ yh) :
    K.v ≤ -2 * P.u + (if 0 ≤ yh then yh else (1 - c) * yh) + 1 / 1990 ∧ -2 * P.u + (if yl ≤ 0 then yl else (1 - c) * yl) - 1 / 1990 ≤ K.v := by
  obtain ⟨-, -, d, e, z, R1, q1, R2, q2, hP, l1, l2, -, -, a3, a4⟩ := h
  have i1 := inv_nonneg hP.i1 hP.p1
  have i2 := inv_nonneg hP.i2 hP.p2
  have m0 := hs.lo
  have m1 := hs.hi
  obtain ⟨c2, c3⟩ := coef_le (by grind) (by grind) i1 i2 l1 l2 hc
  rw [pull_zz] at a3 a4
  generalize (1 - m) * (q1 * q1 * q1) + m * (q2 * q2 * q2) = C at *
  have z1 := hP.z1
  have z2 := hP.z2
  have gz : g * (z * C) ≤ P.y * C + 1 / 1048576 ∧ P.y * C ≤ g * (z * C) + 1 / 1048576 := by
    have b := ab_mul (a := g * z - P.y) (b := C) (A := 1 / 1048576) (B := 1) (by rcases hg with rfl | rfl <;> grind) (by rcases hg with rfl | rfl <;> grind) (by grind) (by grind)
    have f : (g * z - P.y) * C = g * (z * C) - P.y * C := by grind
    rw [f] at b
    constructor <;> grind
  have up : P.y - P.y * C ≤ (if 0 ≤ yh then yh else (1 - c) * yh) := by
    by_cases hy : 0 ≤ yh
    · rw [if_pos hy]
      by_cases h0 : 0 ≤ P.y
      · have := Rat.mul_nonneg h0 c2; grind
      · have := Rat.mul_le_mul_of_nonneg_left (show C ≤ 1 by grind) (show 0 ≤ -P.y by grind); grind
    · rw [if_neg hy]
      have t1 := Rat.mul_le_mul_of_nonneg_left c3 (show 0 ≤ -P.y by grind)
      have t2 := Rat.mul_le_mul_of_nonneg_left h2 (show 0 ≤ 1 - c by grind)
      grind
  have lo : (if yl ≤ 0 then yl else (1 - c) * yl) ≤ P.y - P.y * C := by
    by_cases hy : yl ≤ 0
    · rw [if_pos hy]
      by_cases h0 : 0 ≤ P.y
      · have := Rat.mul_le_mul_of_nonneg_left (show C ≤ 1 by grind) h0; grind
      · have := Rat.mul_nonneg (show 0 ≤ -P.y by grind) c2; grind
    · rw [if_neg hy]
      have t1 := Rat.mul_le_mul_of_nonneg_left c3 (show 0 ≤ P.y by grind)
      have t2 := Rat.mul_le_mul_of_nonneg_left h1 (show 0 ≤ 1 - c by grind)
      grind
  generalize (if 0 ≤ yh then yh else (1 - c) * yh) = A at *
  generalize (if yl ≤ 0 then yl else (1 - c) * yl) = B at *
  generalize P.y * C = yC at *
  generalize g * (z * C) = gzC at *
  constructor <;> grind
/-- Rates at two near places. -/
structure Df (D P P' : V4) : Prop where
  x1 : P.x - P'.x ≤ D.x
  x2 : -D.x ≤ P.x - P'.x
  y1 : P.y - P'.y ≤ D.y
  y2 : -D.y ≤ P.y - P'.y
  u1 : P.u - P'.u ≤ D.u
  u2 : -D.u ≤ P.u - P'.u
  v1 : P.v - P'.v ≤ D.v
  v2 : -D.v ≤ P.v - P'.v
/-- How far rates are apart where places are apart by D. -/
def dAcc (c : Rat) (D : V4) : V4 := ⟨D.u, D.v, 2 * D.v + D.x + c * (401 / 100 * D.x + 301 / 100 * D.y) + 1 / 900, 2 * D.u + D.y + c * (301 / 100 * D.x + 401 / 100 * D.y) + 1 / 900⟩
theorem ra_lip {s : F32} {m g g' k1 k2 c : Rat} {p p' : Sh} {P P' K K' D : V4} (hs : Shr s m) (hg : g = 1 ∨ g = -1) (hg' : g' = 1 ∨ g' = -1) (h : Ra s m g k1 k2 p P K) (h' : Ra s m g' k1 k2 p' P' K')
    (hc : (1 - m) * (k1 * k1 * k1) + m * (k2 * k2 * k2) ≤ c) (c1 : c ≤ 1 / 2) (hD : Df D P P') : Df (dAcc c D) K K' := by
  obtain ⟨kx, ky, d, e, z, R1, q1, R2, q2, hP, l1, l2, a1, a2, a3, a4⟩ := h
  obtain ⟨kx', ky', d', e', z', R1', q1', R2', q2', hP', l1', l2', a1', a2', a3', a4'⟩ := h'
  obtain ⟨D1, D2, D3, D4, D5, D6, D7, D8⟩ := hD
  have ht : g * g' = 1 ∨ g * g' = -1 := by rcases hg with rfl | rfl <;> rcases hg' with rfl | rfl <;> grind
  have zb : z - g * g' * z' ≤ D.y + 2 / 1048576 ∧ -(D.y + 2 / 1048576) ≤ z - g * g' * z' := by
    have := hP.z1; have := hP.z2; have := hP'.z1; have := hP'.z2
    rcases hg with rfl | rfl <;> rcases hg' with rfl | rfl <;> constructor <;> grind
  have db : d - d' ≤ D.x + 2 / 1048576 ∧ -(D.x + 2 / 1048576) ≤ d - d' := by
    have := hP.d1; have := hP.d2; have := hP'.d1; have := hP'.d2
    constructor <;> grind
  have eb : e - e' ≤ D.x + 2 / 1048576 ∧ -(D.x + 2 / 1048576) ≤ e - e' := by
    have := hP.e1; have := hP.e2; have := hP'.e1; have := hP'.e2
    constructor <;> grind
  obtain ⟨g1, g2, g3, g4⟩ := grav_lip hP.p1 hP'.p1 hP.i1 hP'.i1 l1 l1' ht hP.r1 hP.r1' hP'.r1 hP'.r1' db.1 db.2 zb.1 zb.2
  obtain ⟨j1, j2, j3, j4⟩ := grav_lip hP.p2 hP'.p2 hP.i2 hP'.i2 l2 l2' ht hP.r2 hP.r2' hP'.r2 hP'.r2' eb.1 eb.2 zb.1 zb.2
  have m0 := hs.lo
  have m1 := hs.hi
  have w1 : 0 ≤ 1 - m := by grind
  have w2 : 0 ≤ m := by grind
  -- both masses
  have two : ∀ A A' B : Rat, ∀ x y : Rat, x ≤ A * B → -(A * B) ≤ x → y ≤ A' * B → -(A' * B) ≤ y → 0 ≤ B → (1 - m) * A + m * A' ≤ c → (1 - m) * x + m * y ≤ c * B ∧ -(c * B) ≤ (1 - m) * x + m * y := by
    intro A A' B x y h1 h2 h3 h4 h5 h6
    have b1 := Rat.mul_le_mul_of_nonneg_left h1 w1
    have b2 := Rat.mul_le_mul_of_nonneg_left h3 w2
    have b3 := Rat.mul_le_mul_of_nonneg_left h2 w1
    have b4 := Rat.mul_le_mul_of_nonneg_left h4 w2
    have b5 := Rat.mul_le_mul_of_nonneg_right h6 h5
    have e1 : ((1 - m) * A + m * A') * B = (1 - m) * (A * B) + m * (A' * B) := by grind
    have e2 : (1 - m) * -(A * B) = -((1 - m) * (A * B)) := by grind
    have e3 : m * -(A' * B) = -(m * (A' * B)) := by grind
    rw [e1] at b5
    rw [e2] at b3
    rw [e3] at b4
    generalize (1 - m) * (A * B) = t1 at *
    generalize m * (A' * B) = t2 at *
    constructor <;> grind
  have dx0 : 0 ≤ D.x := by grind
  have dy0 : 0 ≤ D.y := by grind
  obtain ⟨X1, X2⟩ := two _ _ _ _ _ g1 g2 j1 j2 (by grind) hc
  obtain ⟨Y1, Y2⟩ := two _ _ _ _ _ g3 g4 j3 j4 (by grind) hc
  have ex : (1 - m) * (d * (q1 * q1 * q1) - d' * (q1' * q1' * q1')) + m * (e * (q2 * q2 * q2) - e' * (q2' * q2' * q2')) = pullX m d e q1 q2 - pullX m d' e' q1' q2' := by unfold pullX; grind
  have ey : (1 - m) * (z * (q1 * q1 * q1) - g * g' * (z' * (q1' * q1' * q1'))) + m * (z * (q2 * q2 * q2) - g * g' * (z' * (q2' * q2' * q2'))) = pullX m z z q1 q2 - g * g' * pullX m z' z' q1' q2' := by unfold pullX; grind
  rw [ex] at X1 X2
  rw [ey] at Y1 Y2
  have c0 : 0 ≤ c := by
    have i1 := inv_nonneg hP.i1 hP.p1
    have i2 := inv_nonneg hP.i2 hP.p2
    have := coef_le w2 (by grind) i1 i2 l1 l2 hc
    grind
  have n1 := Rat.mul_le_mul_of_nonneg_left (show 401 / 100 * (D.x + 2 / 1048576) + 301 / 100 * (D.y + 2 / 1048576) + 1 / 10000 ≤ 401 / 100 * D.x + 301 / 100 * D.y + 1 / 8000 by grind) c0
  have n2 := Rat.mul_le_mul_of_nonneg_left (show 301 / 100 * (D.x + 2 / 1048576) + 401 / 100 * (D.y + 2 / 1048576) + 1 / 10000 ≤ 301 / 100 * D.x + 401 / 100 * D.y + 1 / 8000 by grind) c0
  generalize pullX m d e q1 q2 = G1 at *
  generalize pullX m d' e' q1' q2' = G2 at *
  generalize pullX m z z q1 q2 = G3 at *
  generalize pullX m z' z' q1' q2' = G4 at *
  have e5 : c * (401 / 100 * D.x + 301 / 100 * D.y + 1 / 8000) = c * (401 / 100 * D.x + 301 / 100 * D.y) + c * (1 / 8000) := by grind
  have e6 : c * (301 / 100 * D.x + 401 / 100 * D.y + 1 / 8000) = c * (301 / 100 * D.x + 401 / 100 * D.y) + c * (1 / 8000) := by grind
  rw [e5] at n1
  rw [e6] at n2
  have Z1 : g * G3 - g' * G4 ≤ c * (301 / 100 * D.x + 401 / 100 * D.y) + c * (1 / 8000) ∧ -(c * (301 / 100 * D.x + 401 / 100 * D.y) + c * (1 / 8000)) ≤ g * G3 - g' * G4 := by
    rcases hg with rfl | rfl <;> rcases hg' with rfl | rfl <;> constructor <;> grind
  unfold dAcc
  generalize c * (401 / 100 * D.x + 301 / 100 * D.y) = B1 at *
  generalize c * (301 / 100 * D.x + 401 / 100 * D.y) = B2 at *
  generalize c * (401 / 100 * (D.x + 2 / 1048576) + 301 / 100 * (D.y + 2 / 1048576) + 1 / 10000) = B3 at *
  generalize c * (301 / 100 * (D.x + 2 / 1048576) + 401 / 100 * (D.y + 2 / 1048576) + 1 / 10000) = B4 at *
  generalize g * G3 = gG3 at *
  generalize g' * G4 = gG4 at *
  constructor <;> dsimp only <;> grind
end Go.Proofs.Ytlpahmefebgdlaa.Fx
/- Ships' steps in boxes. No condition. -/
namespace Go.Proofs.Ytlpahmefebgdlaa.Fx
open Go

/-- A step: places and rates on the way. -/
structure Stg (s : F32) (m g k1 k2 : Rat) (p : Sh) (h : F32) (P K P2 L P3 M P4 N Q : V4) : Prop where
  a1 : Ra s m g k1 k2 p P K
  a2 : Ra s m g k1 k2 (p.mv (h / two32) (sp1 s p)) P2 L
  a3 : Ra s m g k1 k2 (p.mv (h / two32) (sp2 s p h)) P3 M
  a4 : Ra s m g k1 k2 (p.mv h (sp3 s p h)) P4 N
  m2 : Mv P K (g / 64) (9 / 8388608) P2
  m3 : Mv P L (g / 64) (9 / 8388608) P3
  m4 : Mv P M (g / 32) (9 / 8388608) P4
  fn : Mv P (vSum K L M N) (g / 192) (5 / 4194304) Q
/-- A box. -/
structure Bx where
  xl : Rat
  xh : Rat
  yl : Rat
  yh : Rat
  ul : Rat
  uh : Rat
  vl : Rat
  vh : Rat
structure In (b : Bx) (P : V4) : Prop where
  x1 : b.xl ≤ P.x
  x2 : P.x ≤ b.xh
  y1 : b.yl ≤ P.y
  y2 : P.y ≤ b.yh
  u1 : b.ul ≤ P.u
  u2 : P.u ≤ b.uh
  v1 : b.vl ≤ P.v
  v2 : P.v ≤ b.vh
def bAcc (gl gh c : Rat) (b : Bx) : Bx := ⟨b.ul, b.uh, b.vl, b.vh, 2 * b.vl + b.xl - gh - 1 / 1990, 2 * b.vh + b.xh - gl + 1 / 1990, -2 * b.uh + (if b.yl ≤ 0 then b.yl else (1 - c) * b.yl) - 1 / 1990, -2 * b.ul + (if 0 ≤ b.yh then b.yh else (1 - c) * b.yh) + 1 / 1990⟩
def bMv (t u : Rat) (b k : Bx) : Bx := ⟨b.xl + t * k.xl - u, b.xh + t * k.xh + u, b.yl + t * k.yl - u, b.yh + t * k.yh + u, b.ul + t * k.ul - u, b.uh + t * k.uh + u, b.vl + t * k.vl - u, b.vh + t * k.vh + u⟩
def bSum (k l m n : Bx) : Bx := ⟨k.xl + 2 * l.xl + 2 * m.xl + n.xl, k.xh + 2 * l.xh + 2 * m.xh + n.xh, k.yl + 2 * l.yl + 2 * m.yl + n.yl, k.yh + 2 * l.yh + 2 * m.yh + n.yh, k.ul + 2 * l.ul + 2 * m.ul + n.ul, k.uh + 2 * l.uh + 2 * m.uh + n.uh, k.vl + 2 * l.vl + 2 * m.vl + n.vl, k.vh + 2 * l.vh + 2 * m.vh + n.vh⟩
theorem in_mv {b k : Bx} {P K Q : V4} {t u : Rat} (ht : 0 ≤ t) (h : In b P) (hk : In k K) (hm : Mv P K t u Q) : In (bMv t u b k) Q := by
  obtain ⟨p1, p2, p3, p4, p5, p6, p7, p8⟩ := h
  obtain ⟨k1, k2, k3, k4, k5, k6, k7, k8⟩ := hk
  obtain ⟨m1, m2, m3, m4, m5, m6, m7, m8⟩ := hm
  have c1 := Rat.mul_le_mul_of_nonneg_left k1 ht
  have c2 := Rat.mul_le_mul_of_nonneg_left k2 ht
  have c3 := Rat.mul_le_mul_of_nonneg_left k3 ht
  have c4 := Rat.mul_le_mul_of_nonneg_left k4 ht
  have c5 := Rat.mul_le_mul_of_nonneg_left k5 ht
  have c6 := Rat.mul_le_mul_of_nonneg_left k6 ht
  have c7 := Rat.mul_le_mul_of_nonneg_left k7 ht
  have c8 := Rat.mul_le_mul_of_nonneg_left k8 ht
  unfold bMv
  constructor <;> dsimp only <;> grind
theorem in_sum {k l m n : Bx} {K L M N : V4} (hk : In k K) (hl : In l L) (hm : In m M) (hn : In n N) : In (bSum k l m n) (vSum K L M N) := by
  obtain ⟨p1, p2, p3, p4, p5, p6, p7, p8⟩ := hk
  obtain ⟨q1, q2, q3, q4, q5, q6, q7, q8⟩ := hl
  obtain ⟨r1, r2, r3, r4, r5, r6, r7, r8⟩ := hm
  obtain ⟨s1, s2, s3, s4, s5, s6, s7, s8⟩ := hn
  unfold bSum vSum
  constructor <;> dsimp only <;> grind
def bIn (b b' : Bx) : Bool := decide (b'.xl ≤ b.xl) && (decide (b.xh ≤ b'.xh) && (decide (b'.yl ≤ b.yl) && (decide (b.yh ≤ b'.yh) && (decide (b'.ul ≤ b.ul) && (decide (b.uh ≤ b'.uh) && (decide (b'.vl ≤ b.vl) && decide (b.vh ≤ b'.vh)))))))
theorem in_in {b b' : Bx} {P : V4} (h : bIn b b' = true) (hp : In b P) : In b' P := by
  unfold bIn at h
  simp only [Bool.and_eq_true, decide_eq_true_eq] at h
  obtain ⟨h1, h2, h3, h4, h5, h6, h7, h8⟩ := h
  obtain ⟨p1, p2, p3, p4, p5, p6, p7, p8⟩ := hp
  constructor <;> grind
/-- The zone's box. -/
def zB (xa xb ya yb : Rat) : Bx := ⟨xa, xb, ya, yb, -8, 8, -8, 8⟩
def tenB : Bx := ⟨-10, 10, -10, 10, -10, 10, -10, 10⟩
theorem lt_ten {K : V4} (h : In tenB K) : Lt 10 K := by
  obtain ⟨h1, h2, h3, h4, h5, h6, h7, h8⟩ := h
  exact ⟨h1, h2, h3, h4, h5, h6, h7, h8⟩
theorem lt_le {A B : Rat} {K : V4} (hA : A ≤ B) (h : Lt A K) : Lt B K := by
  obtain ⟨h1, h2, h3, h4, h5, h6, h7, h8⟩ := h
  constructor <;> grind
theorem in_z {xa xb ya yb : Rat} {P : V4} (h : In (zB xa xb ya yb) P) : InR xa xb ya yb P := by
  obtain ⟨h1, h2, h3, h4, h5, h6, h7, h8⟩ := h
  exact ⟨h1, h2, h3, h4, h5, h6, h7, h8⟩
/-- A rate in a box. -/
theorem in_acc {s : F32} {m g xa xb ya yb gl gh c k1 k2 : Rat} {p : Sh} {P : V4} {b : Bx} (hs : Shr s m) (hz : Zone m xa xb ya yb gl gh c k1 k2) (c1 : c ≤ 1 / 2) (hg : g = 1 ∨ g = -1) (hp : HasG g p P) (hb : In b P) (hc : bIn b (zB xa xb ya yb) = true) :
    accQ s p = true ∧ Lt 8 P ∧ ∃ K, Ra s m g k1 k2 p P K ∧ RateG g (acc s p) K ∧ In (bAcc gl gh c b) K := by
  obtain ⟨h1, h2, K, h3, h4, h5, h6⟩ := acc_zone hs hz hg hp (in_z (in_in hc hb))
  obtain ⟨p1, p2, p3, p4, p5, p6, p7, p8⟩ := hb
  obtain ⟨v1, v2⟩ := ra_v hs hg h3 hz.c (by grind) p3 p4
  have kx := h3.kx
  have ky := h3.ky
  refine ⟨h1, h2, K, h3, h4, ?_⟩
  unfold bAcc
  generalize (if 0 ≤ b.yh then b.yh else (1 - c) * b.yh) = A at *
  generalize (if b.yl ≤ 0 then b.yl else (1 - c) * b.yl) = B at *
  constructor <;> dsimp only <;> grind
/-- The step's boxes. -/
def bK (gl gh c : Rat) (b : Bx) : Bx := bAcc gl gh c b
def b2 (gl gh c : Rat) (b : Bx) : Bx := bMv (1 / 64) (9 / 8388608) b (bK gl gh c b)
def bL (gl gh c : Rat) (b : Bx) : Bx := bAcc gl gh c (b2 gl gh c b)
def b3 (gl gh c : Rat) (b : Bx) : Bx := bMv (1 / 64) (9 / 8388608) b (bL gl gh c b)
def bM (gl gh c : Rat) (b : Bx) : Bx := bAcc gl gh c (b3 gl gh c b)
def b4 (gl gh c : Rat) (b : Bx) : Bx := bMv (1 / 32) (9 / 8388608) b (bM gl gh c b)
def bN (gl gh c : Rat) (b : Bx) : Bx := bAcc gl gh c (b4 gl gh c b)
def bS (gl gh c : Rat) (b : Bx) : Bx := bSum (bK gl gh c b) (bL gl gh c b) (bM gl gh c b) (bN gl gh c b)
def bQ (gl gh c : Rat) (b : Bx) : Bx := bMv (1 / 192) (5 / 4194304) b (bS gl gh c b)
def chk (xa xb ya yb gl gh c : Rat) (b b' : Bx) : Bool :=
  bIn b (zB xa xb ya yb) && (bIn (b2 gl gh c b) (zB xa xb ya yb) && (bIn (b3 gl gh c b) (zB xa xb ya yb) && (bIn (b4 gl gh c b) (zB xa xb ya yb) && (bIn (bK gl gh c b) tenB && (bIn (bL gl gh c b) tenB && (bIn (bM gl gh c b) tenB && (bIn (bN gl gh c b) tenB && bIn (bQ gl gh c b) b')))))))
theorem step_box {s : F32} {m xa xb ya yb gl gh c k1 k2 : Rat} {p : Sh} {h : F32} {P : V4} {b b' : Bx} (hs : Shr s m) (hz : Zone m xa xb ya yb gl gh c k1 k2) (c1 : c ≤ 1 / 2) (ht : Tick h) (hf : finS h = true) (hp : HasG 1 p P) (hb : In b P) (hc : chk xa xb ya yb gl gh c b b' = true) :
    stQ s p h = true ∧ ∃ K P2 L P3 M P4 N Q, Stg s m 1 k1 k2 p h P K P2 L P3 M P4 N Q ∧ HasG 1 (stp s p h) Q ∧ In b' Q ∧ In (bK gl gh c b) K ∧ In (bL gl gh c b) L ∧ In (bM gl gh c b) M ∧ In (bN gl gh c b) N := by
  unfold chk at hc
  simp only [Bool.and_eq_true] at hc
  obtain ⟨z1, z2, z3, z4, t1, t2, t3, t4, hq⟩ := hc
  obtain ⟨q1, l1, K, r1, g1, i1⟩ := in_acc hs hz c1 (.inl rfl) hp hb z1
  have lk := lt_ten (in_in t1 i1)
  obtain ⟨P2, hp2, m2⟩ := mv_has (.inl rfl) hp g1 ht.h2 (by grind) (by grind) l1 (lt_le (by grind) lk)
  rw [show (1 : Rat) * (1 / 64) = 1 / 64 by grind] at m2
  have j2 := in_mv (by grind) hb i1 m2
  obtain ⟨q2, l2, L, r2, g2, i2⟩ := in_acc hs hz c1 (.inl rfl) hp2 j2 z2
  have ll := lt_ten (in_in t2 i2)
  obtain ⟨P3, hp3, m3⟩ := mv_has (.inl rfl) hp g2 ht.h2 (by grind) (by grind) l1 (lt_le (by grind) ll)
  rw [show (1 : Rat) * (1 / 64) = 1 / 64 by grind] at m3
  have j3 := in_mv (by grind) hb i2 m3
  obtain ⟨q3, l3, M, r3, g3, i3⟩ := in_acc hs hz c1 (.inl rfl) hp3 j3 z3
  have lm := lt_ten (in_in t3 i3)
  obtain ⟨P4, hp4, m4⟩ := mv_has (.inl rfl) hp g3 ht.h1 (by grind) (by grind) l1 (lt_le (by grind) lm)
  rw [show (1 : Rat) * (1 / 32) = 1 / 32 by grind] at m4
  have j4 := in_mv (by grind) hb i3 m4
  obtain ⟨q4, l4, N, r4, g4, i4⟩ := in_acc hs hz c1 (.inl rfl) hp4 j4 z4
  have ln := lt_ten (in_in t4 i4)
  obtain ⟨Q, hQ, fn⟩ := fin_has ht (.inl rfl) hp g1 g2 g3 g4 l1 lk ll lm ln
  have jq := in_mv (by grind) hb (in_sum i1 i2 i3 i4) fn
  have hfin : (stp s p h).fin = true := by
    have hQ' : HasG 1 (stp s p h) Q := hQ
    unfold Sh.fin vShip cfin
    rw [hasS_fin hQ'.x, hasS_fin hQ'.y, hasS_fin hQ'.u, hasS_fin hQ'.v]; rfl
  refine ⟨?_, K, P2, L, P3, M, P4, N, Q, ⟨r1, r2, r3, r4, m2, m3, m4, fn⟩, hQ, in_in hq jq, i1, i2, i3, i4⟩
  unfold stQ
  have w1 : accQ s (p.mv (h / two32) (sp1 s p)) = true := q2
  have w2 : accQ s (p.mv (h / two32) (sp2 s p h)) = true := q3
  have w3 : accQ s (p.mv h (sp3 s p h)) = true := q4
  rw [hf, q1, w1, w2, w3, hfin]; rfl
/-- How far places and rates are apart on the way. -/
def dMv (t u : Rat) (D k : V4) : V4 := ⟨D.x + t * k.x + u, D.y + t * k.y + u, D.u + t * k.u + u, D.v + t * k.v + u⟩
theorem df_mv {D k P P' K K' Q Q' : V4} {t u : Rat} (ht : 0 ≤ t) (h : Df D P P') (hk : Df k K K') (hm : Mv P K t u Q) (hm' : Mv P' K' t u Q') : Df (dMv t (2 * u) D k) Q Q' := by
  obtain ⟨p1, p2, p3, p4, p5, p6, p7, p8⟩ := h
  obtain ⟨k1, k2, k3, k4, k5, k6, k7, k8⟩ := hk
  obtain ⟨m1, m2, m3, m4, m5, m6, m7, m8⟩ := hm
  obtain ⟨n1, n2, n3, n4, n5, n6, n7, n8⟩ := hm'
  have c1 := Rat.mul_le_mul_of_nonneg_left k1 ht
  have c2 := Rat.mul_le_mul_of_nonneg_left k2 ht
  have c3 := Rat.mul_le_mul_of_nonneg_left k3 ht
  have c4 := Rat.mul_le_mul_of_nonneg_left k4 ht
  have c5 := Rat.mul_le_mul_of_nonneg_left k5 ht
  have c6 := Rat.mul_le_mul_of_nonneg_left k6 ht
  have c7 := Rat.mul_le_mul_of_nonneg_left k7 ht
  have c8 := Rat.mul_le_mul_of_nonneg_left k8 ht
  unfold dMv
  constructor <;> dsimp only <;> grind
theorem df_sum {k l m n K L M N K' L' M' N' : V4} (hk : Df k K K') (hl : Df l L L') (hm : Df m M M') (hn : Df n N N') : Df (vSum k l m n) (vSum K L M N) (vSum K' L' M' N') := by
  obtain ⟨p1, p2, p3, p4, p5, p6, p7, p8⟩ := hk
  obtain ⟨q1, q2, q3, q4, q5, q6, q7, q8⟩ := hl
  obtain ⟨r1, r2, r3, r4, r5, r6, r7, r8⟩ := hm
  obtain ⟨s1, s2, s3, s4, s5, s6, s7, s8⟩ := hn
  unfold vSum
  constructor <;> dsimp only <;> grind
def dK (c : Rat) (D : V4) : V4 := dAcc c D
def d2 (c : Rat) (D : V4) : V4 := dMv (1 / 64) (2 * (9 / 8388608)) D (dK c D)
def dL (c : Rat) (D : V4) : V4 := dAcc c (d2 c D)
def d3 (c : Rat) (D : V4) : V4 := dMv (1 / 64) (2 * (9 / 8388608)) D (dL c D)
def dM (c : Rat) (D : V4) : V4 := dAcc c (d3 c D)
def d4 (c : Rat) (D : V4) : V4 := dMv (1 / 32) (2 * (9 / 8388608)) D (dM c D)
def dN (c : Rat) (D : V4) : V4 := dAcc c (d4 c D)
def dS (c : Rat) (D : V4) : V4 := vSum (dK c D) (dL c D) (dM c D) (dN c D)
/-- Two flights a step on; how far the difference of x has gone. -/
theorem pair_step {s : F32} {m k1 k2 c : Rat} {p p' : Sh} {h : F32} {P K P2 L P3 M P4 N Q P' K' P2' L' P3' M' P4' N' Q' D : V4} (hs : Shr s m) (hc : (1 - m) * (k1 * k1 * k1) + m * (k2 * k2 * k2) ≤ c) (c1 : c ≤ 1 / 2)
    (h1 : Stg s m 1 k1 k2 p h P K P2 L P3 M P4 N Q) (h2 : Stg s m 1 k1 k2 p' h P' K' P2' L' P3' M' P4' N' Q') (hD : Df D P P') :
    Df (dMv (1 / 192) (2 * (5 / 4194304)) D (dS c D)) Q Q' ∧ Q.x - Q'.x - (P.x - P'.x) ≤ 1 / 192 * (dS c D).x + 2 * (5 / 4194304) ∧ -(1 / 192 * (dS c D).x + 2 * (5 / 4194304)) ≤ Q.x - Q'.x - (P.x - P'.x) := by
  obtain ⟨a1, a2, a3, a4, m2, m3, m4, fn⟩ := h1
  obtain ⟨a1', a2', a3', a4', m2', m3', m4', fn'⟩ := h2
  have e1 : Df (dK c D) K K' := ra_lip hs (.inl rfl) (.inl rfl) a1 a1' hc c1 hD
  have e2 : Df (d2 c D) P2 P2' := df_mv (by grind) hD e1 m2 m2'
  have e3 : Df (dL c D) L L' := ra_lip hs (.inl rfl) (.inl rfl) a2 a2' hc c1 e2
  have e4 : Df (d3 c D) P3 P3' := df_mv (by grind) hD e3 m3 m3'
  have e5 : Df (dM c D) M M' := ra_lip hs (.inl rfl) (.inl rfl) a3 a3' hc c1 e4
  have e6 : Df (d4 c D) P4 P4' := df_mv (by grind) hD e5 m4 m4'
  have e7 : Df (dN c D) N N' := ra_lip hs (.inl rfl) (.inl rfl) a4 a4' hc c1 e6
  have e8 : Df (dS c D) (vSum K L M N) (vSum K' L' M' N') := df_sum e1 e3 e5 e7
  refine ⟨df_mv (by grind) hD e8 fn fn', ?_⟩
  have x1 := e8.x1
  have x2 := e8.x2
  have f1 := fn.x1
  have f2 := fn.x2
  have f3 := fn'.x1
  have f4 := fn'.x2
  generalize (vSum K L M N).x = A at *
  generalize (vSum K' L' M' N').x = B at *
  generalize (dS c D).x = C at *
  constructor <;> grind
def dIn (D D' : V4) : Bool := decide (D.x ≤ D'.x) && (decide (D.y ≤ D'.y) && (decide (D.u ≤ D'.u) && decide (D.v ≤ D'.v)))
theorem df_in {D D' P P' : V4} (h : dIn D D' = true) (hd : Df D P P') : Df D' P P' := by
  unfold dIn at h
  simp only [Bool.and_eq_true, decide_eq_true_eq] at h
  obtain ⟨h1, h2, h3, h4⟩ := h
  obtain ⟨p1, p2, p3, p4, p5, p6, p7, p8⟩ := hd
  constructor <;> grind
end Go.Proofs.Ytlpahmefebgdlaa.Fx
/- Contracts: flights. No condition. -/
namespace Go.Proofs.Ytlpahmefebgdlaa.Fx
open Go Go.RowKit

/-- A slice of a function's own, and true: its length and cells. -/
def slW (M : List (List AC)) : AV → Option (Nat × List AC)
  | .tup [.slw id n, .sb true] => match M[id]? with
      | some cs => if cs.all plainC = true then some (n, cs) else none
      | none => none
  | .tup [.slc id n, .sb true] => match M[id]? with
      | some cs => if cs.all plainC = true then some (n, cs) else none
      | none => none
  | _ => none
def slK (P : Program) (fn : Func) (o : Out) (F : List AV) (M : List (List AC)) : Option (Nat × List AC) :=
  match o with
  | .exit _ => none
  | _ => match resultA P fn F M with
    | some v => slW M v
    | none => none
def runW (P : Program) (E : List (Entry P)) (I : List FuncId) (N : List (EntryN P)) (lp : LoopRule) (fn : Func) (args : List AV) : Option (Nat × List AC) :=
  match fn.body with
  | none => none
  | some c => exK P E I N (G := anyW) [] 0 lp [] 4000 0 0 c (args ++ List.replicate (fn.ntmps - args.length) undefA) [] (slK P fn)
theorem slW_spec {M : List (List AC)} {v : AV} {n : Nat} {cells : List AC} (h : slW M v = some (n, cells)) :
    ∃ id, (v = .tup [.slw id n, .sb true] ∨ v = .tup [.slc id n, .sb true]) ∧ M[id]? = some cells ∧ cells.all plainC = true := by
  unfold slW at h
  split at h
  · rename_i id n
    split at h
    · rename_i cs hcs
      split at h
      · rename_i hc
        cases h
        exact ⟨id, .inl rfl, hcs, hc⟩
      · cases h
    · cases h
  · rename_i id n
    split at h
    · rename_i cs hcs
      split at h
      · rename_i hc
        cases h
        exact ⟨id, .inr rfl, hcs, hc⟩
      · cases h
    · cases h
  · cases h
def OwnPost (w : World) (n : Nat) (cells : List AC) (e : Ending) (w' : World) : Prop :=
  ∃ (blk cap : Nat) (us : Array Value) (t : TypeId), e = .returned (.tuple #[.slice (some ⟨blk, 0, none⟩) n cap, .bool true]) ∧ w.heap.size ≤ blk ∧ w'.heap[blk]? = some (.cells us t (0, 0)) ∧ RepP [] cells us.toList ∧ cap ≤ us.size ∧ n ≤ cap
theorem runW_sound {P : Program} {E : List (Entry P)} {I : List FuncId} {N : List (EntryN P)} {lp : LoopRule} {f : FuncId} {fn : Func} (hf : P.funcs[f]? = some fn) {args : List AV} {n : Nat} {cells : List AC}
    (hfar : ∀ j, farOff ≤ j → ∀ F M, lp j F M = none) (hl : LoopsOk P 0 anyW lp 0 (fn.body.getD .skip)) (h : runW P E I N lp fn args = some (n, cells))
    {vs : List Value} {w : World} (ha : RepF [] args vs) : Calls P f vs.toArray w fun e w' => Ext w w' ∧ OwnPost w n cells e w' := by
  unfold runW at h
  split at h
  · cases h
  · rename_i c hb
    rw [hb] at hl
    obtain ⟨o, F', M', hK, hg⟩ := (exK_sound hfar anyW_mono 4000).1 0 0 c _ [] _ _ hl (drawOk_nil 0 c) h
    have hg := hg ⟨w, []⟩ trivial (Nat.le_refl _)
    clear h
    have fin : ∀ {v : AV}, resultA P fn F' M' = some v → slW M' v = some (n, cells) → ∀ {σ' : List (Nat × Nat)} {a' : Act} {w' : World} (hs : St σ' 0 ⟨w, []⟩ F' M' a' w'),
        a'.defers = [] ∧ ∃ v, (results fn a'.tmps).run P w' = .ok v w' ∧ (Ext w w' ∧ OwnPost w n cells (Ending.returned v) w') := by
      intro v hres hv σ' a' w' hs
      obtain ⟨z, hz, hr⟩ := results_sound (P := P) hs hres
      obtain ⟨id, hv2, hcs, c2⟩ := slW_spec hv
      rcases hv2 with rfl | rfl
      · obtain ⟨us, rfl, hl⟩ := hr
        obtain ⟨us⟩ := us
        cases hl with
        | cons q1 q2 =>
          cases q2 with
          | cons q3 q4 =>
            cases q4
            obtain ⟨p, cp, hp, hle, hcp, rfl⟩ := q1
            cases q3
            obtain ⟨ws, t, hw, ⟨kk, hr⟩, hcap⟩ := hs.mem.at_ id p _ hp hcs
            exact ⟨hs.defers, _, hz, hs.ext, p.1, cp, ws, t, rfl, hs.own id p (Nat.zero_le _) hp, hw, ⟨kk, plainL_rep (by simp [c2]; right; rfl) hr⟩, by omega, hle⟩
      · obtain ⟨us, rfl, hl⟩ := hr
        obtain ⟨us⟩ := us
        cases hl with
        | cons q1 q2 =>
          cases q2 with
          | cons q3 q4 =>
            cases q4
            obtain ⟨p, hp, hle, rfl⟩ := q1
            cases q3
            obtain ⟨ws, t, hw, ⟨kk, hr⟩, hcap⟩ := hs.mem.at_ id p _ hp hcs
            exact ⟨hs.defers, _, hz, hs.ext, p.1, p.2, ws, t, rfl, hs.own id p (Nat.zero_le _) hp, hw, ⟨kk, plainL_rep (by simp [c2]; right; rfl) hr⟩, hcap, hle⟩
    refine calls_of_wp hf hb (hg [] _ w ⟨rfl, ?_, MemOk.nil w, Ext.refl _, fun id b hid hbb => (by cases hbb), List.prefix_refl _⟩ _ fun σ' a' w' hs => ?_)
    · have hlen := ha.length
      have h1 : ∀ (n : Nat), RepF [] (List.replicate n undefA) (List.replicate n undef) := by
        intro n
        induction n with
        | zero => exact .nil
        | succ n ih => exact .cons rfl ih
      have h2 : ∀ {l l' : List AV} {us us' : List Value}, RepF [] l us → RepF [] l' us' → RepF [] (l ++ l') (us ++ us') := by
        intro l l' us us' h h'
        induction h with
        | nil => exact h'
        | cons h _ ih => exact .cons h ih
      simpa [hlen] using h2 ha (h1 (fn.ntmps - vs.length))
    · cases o with
      | exit id => cases hK
      | norm =>
        simp only [slK] at hK
        cases hres : resultA P fn F' M' with
        | none => rw [hres] at hK; cases hK
        | some v => rw [hres] at hK; exact fin hres hK hs
      | ret =>
        simp only [slK] at hK
        cases hres : resultA P fn F' M' with
        | none => rw [hres] at hK; cases hK
        | some v => rw [hres] at hK; exact fin hres hK hs

-- flights
def flS (s h : F32) : Nat → Sh → Sh
  | 0, p => p
  | k + 1, p => stp s (flS s h k p) h
def flCells (s h : F32) (p : Sh) : Nat → List AC
  | 0 => [.cx .f32 p.x p.y, .cx .f32 p.u p.v]
  | k + 1 => flCells s h p k ++ [.cx .f32 (flS s h (k + 1) p).x (flS s h (k + 1) p).y, .cx .f32 (flS s h (k + 1) p).u (flS s h (k + 1) p).v]
def flT (s h : F32) (p : Sh) : Nat → Option (Nat × List AC) → Option (Nat × List AC)
  | 0, K => K
  | k + 1, K => flT s h p k (bif stQ s (flS s h k p) h then K else none)
theorem eWithin_run (n a b : Int) : run Try.prog [] Try.f81 [.c (.val (.int .i64 n)), .c (.val (.int .i64 a)), .c (.val (.int .i64 b))] [] = some (.c (.sb (decide (a ≤ n) && decide (n ≤ b)))) := by rw [push_and]; kernel_rfl
def flArgs (s h : F32) (p : Sh) (k : Int) : List AV := [.c (.fl .f32 s), p.agg, .c (.fl .f32 h), .c (.val (.int .i64 k))]
theorem flight_raw0 (s h : F32) (p : Sh) : runW Try.prog [eIsShare, eVShip, eIsFinite, eStep] [81] [] noRule Try.f100 (flArgs s h p 0) =
    bif !(isShare s) then none else bif !(p.fin) then none else bif !(isFinite h) then none else flT s h p 0 (some (1, flCells s h p 0)) := by kernel_rfl
theorem flight_raw1 (s h : F32) (p : Sh) : runW Try.prog [eIsShare, eVShip, eIsFinite, eStep] [81] [] noRule Try.f100 (flArgs s h p 1) =
    bif !(isShare s) then none else bif !(p.fin) then none else bif !(isFinite h) then none else flT s h p 1 (some (2, flCells s h p 1)) := by kernel_rfl
theorem flight_raw2 (s h : F32) (p : Sh) : runW Try.prog [eIsShare, eVShip, eIsFinite, eStep] [81] [] noRule Try.f100 (flArgs s h p 2) =
    bif !(isShare s) then none else bif !(p.fin) then none else bif !(isFinite h) then none else flT s h p 2 (some (3, flCells s h p 2)) := by kernel_rfl
theorem flight_raw3 (s h : F32) (p : Sh) : runW Try.prog [eIsShare, eVShip, eIsFinite, eStep] [81] [] noRule Try.f100 (flArgs s h p 3) =
    bif !(isShare s) then none else bif !(p.fin) then none else bif !(isFinite h) then none else flT s h p 3 (some (4, flCells s h p 3)) := by kernel_rfl
theorem flight_raw4 (s h : F32) (p : Sh) : runW Try.prog [eIsShare, eVShip, eIsFinite, eStep] [81] [] noRule Try.f100 (flArgs s h p 4) =
    bif !(isShare s) then none else bif !(p.fin) then none else bif !(isFinite h) then none else flT s h p 4 (some (5, flCells s h p 4)) := by kernel_rfl
theorem flight_raw5 (s h : F32) (p : Sh) : runW Try.prog [eIsShare, eVShip, eIsFinite, eStep] [81] [] noRule Try.f100 (flArgs s h p 5) =
    bif !(isShare s) then none else bif !(p.fin) then none else bif !(isFinite h) then none else flT s h p 5 (some (6, flCells s h p 5)) := by kernel_rfl
theorem flight_raw6 (s h : F32) (p : Sh) : runW Try.prog [eIsShare, eVShip, eIsFinite, eStep] [81] [] noRule Try.f100 (flArgs s h p 6) =
    bif !(isShare s) then none else bif !(p.fin) then none else bif !(isFinite h) then none else flT s h p 6 (some (7, flCells s h p 6)) := by kernel_rfl
theorem flight_raw7 (s h : F32) (p : Sh) : runW Try.prog [eIsShare, eVShip, eIsFinite, eStep] [81] [] noRule Try.f100 (flArgs s h p 7) =
    bif !(isShare s) then none else bif !(p.fin) then none else bif !(isFinite h) then none else flT s h p 7 (some (8, flCells s h p 7)) := by kernel_rfl
theorem flight_raw8 (s h : F32) (p : Sh) : runW Try.prog [eIsShare, eVShip, eIsFinite, eStep] [81] [] noRule Try.f100 (flArgs s h p 8) =
    bif !(isShare s) then none else bif !(p.fin) then none else bif !(isFinite h) then none else flT s h p 8 (some (9, flCells s h p 8)) := by kernel_rfl
theorem flight_raw9 (s h : F32) (p : Sh) : runW Try.prog [eIsShare, eVShip, eIsFinite, eStep] [81] [] noRule Try.f100 (flArgs s h p 9) =
    bif !(isShare s) then none else bif !(p.fin) then none else bif !(isFinite h) then none else flT s h p 9 (some (10, flCells s h p 9)) := by kernel_rfl
theorem flight_raw10 (s h : F32) (p : Sh) : runW Try.prog [eIsShare, eVShip, eIsFinite, eStep] [81] [] noRule Try.f100 (flArgs s h p 10) =
    bif !(isShare s) then none else bif !(p.fin) then none else bif !(isFinite h) then none else flT s h p 10 (some (11, flCells s h p 10)) := by kernel_rfl
theorem flight_raw11 (s h : F32) (p : Sh) : runW Try.prog [eIsShare, eVShip, eIsFinite, eStep] [81] [] noRule Try.f100 (flArgs s h p 11) =
    bif !(isShare s) then none else bif !(p.fin) then none else bif !(isFinite h) then none else flT s h p 11 (some (12, flCells s h p 11)) := by kernel_rfl
theorem flight_raw12 (s h : F32) (p : Sh) : runW Try.prog [eIsShare, eVShip, eIsFinite, eStep] [81] [] noRule Try.f100 (flArgs s h p 12) =
    bif !(isShare s) then none else bif !(p.fin) then none else bif !(isFinite h) then none else flT s h p 12 (some (13, flCells s h p 12)) := by kernel_rfl
theorem flight_raw (s h : F32) (p : Sh) {k : Nat} (hk : k ≤ 12) : runW Try.prog [eIsShare, eVShip, eIsFinite, eStep] [81] [] noRule Try.f100 (flArgs s h p k) =
    bif !(isShare s) then none else bif !(p.fin) then none else bif !(isFinite h) then none else flT s h p k (some (k + 1, flCells s h p k)) := by
  have h' : k = 0 ∨ k = 1 ∨ k = 2 ∨ k = 3 ∨ k = 4 ∨ k = 5 ∨ k = 6 ∨ k = 7 ∨ k = 8 ∨ k = 9 ∨ k = 10 ∨ k = 11 ∨ k = 12 := by omega
  rcases h' with rfl | rfl | rfl | rfl | rfl | rfl | rfl | rfl | rfl | rfl | rfl | rfl | rfl
  · exact flight_raw0 s h p
  · exact flight_raw1 s h p
  · exact flight_raw2 s h p
  · exact flight_raw3 s h p
  · exact flight_raw4 s h p
  · exact flight_raw5 s h p
  · exact flight_raw6 s h p
  · exact flight_raw7 s h p
  · exact flight_raw8 s h p
  · exact flight_raw9 s h p
  · exact flight_raw10 s h p
  · exact flight_raw11 s h p
  · exact flight_raw12 s h p
def flAll (s h : F32) (p : Sh) : Nat → Bool
  | 0 => true
  | k + 1 => flAll s h p k && stQ s (flS s h k p) h
theorem flT_all (s h : F32) (p : Sh) : ∀ (k : Nat) (K : Option (Nat × List AC)), flAll s h p k = true → flT s h p k K = K
  | 0, K, _ => rfl
  | k + 1, K, hq => by
    simp only [flAll, Bool.and_eq_true] at hq
    simp only [flT]
    rw [flT_all s h p k _ hq.1, hq.2]; rfl
def flQ (s h : F32) (p : Sh) (k : Nat) : Bool := isShare s && (p.fin && (finS h && flAll s h p k))
theorem flight_run (s h : F32) (p : Sh) {k : Nat} (hk : k ≤ 12) (hq : flQ s h p k = true) : runW Try.prog [eIsShare, eVShip, eIsFinite, eStep] [81] [] noRule Try.f100 (flArgs s h p k) = some (k + 1, flCells s h p k) := by
  unfold flQ at hq
  simp only [Bool.and_eq_true] at hq
  obtain ⟨h1, h2, h3, h4⟩ := hq
  rw [flight_raw s h p hk, h1, h2, fin_isFinite, h3, flT_all s h p k _ h4]; rfl
theorem flCells_length (s h : F32) (p : Sh) : ∀ k, (flCells s h p k).length = (k + 1) * 2
  | 0 => rfl
  | k + 1 => by simp only [flCells, List.length_append, flCells_length s h p k]; simp; omega
def flFn : List AV → Option (Bool × Bool × List AC)
  | [.c (.fl .f32 s), .agg [.cx .f32 x y, .cx .f32 u v], .c (.fl .f32 h), .c (.val (.int .i64 (.ofNat k)))] => some (decide (k ≤ 12) && flQ s h ⟨x, y, u, v⟩ k, true, flCells s h ⟨x, y, u, v⟩ k)
  | _ => none
theorem flight_ok : ∀ args b cells, flFn args = some (true, b, cells) → ∀ vs w, RepF [] args vs → args.all plainA = true → Calls Try.prog 100 vs.toArray w fun e w' => Ext w w' ∧
    (match b with
    | true => ∃ (blk cap : Nat) (us : Array Value) (t : TypeId), e = .returned (.tuple #[.slice (some ⟨blk, 0, none⟩) (cells.length / 2) cap, .bool true]) ∧ w.heap.size ≤ blk ∧ w'.heap[blk]? = some (.cells us t (0, 0)) ∧ RepP [] cells us.toList ∧ cap ≤ us.size ∧ cells.length / 2 ≤ cap
    | false => e = .returned (.tuple #[.slice none 0 0, .bool false])) := by
  intro args b cells h vs w ha hpl
  clear hpl
  unfold flFn at h
  split at h
  · rename_i s x y u v t k
    simp only [Option.some.injEq, Prod.mk.injEq, Bool.and_eq_true, decide_eq_true_eq] at h
    obtain ⟨⟨h1, h2⟩, rfl, rfl⟩ := h
    have e : (flCells s t ⟨x, y, u, v⟩ k).length / 2 = k + 1 := by rw [flCells_length]; omega
    rw [e]
    exact runW_sound Try.func100 noRule_far (loopsOk_none 0 _) (flight_run s t ⟨x, y, u, v⟩ h1 h2) ha
  · cases h
def eFlight : EntryN Try.prog := { f := 100, fn := flFn, len := fun cells => cells.length / 2, enter := fun _ _ => enter_of Try.func100 (by kernel_rfl) (c := Try.f100.body.getD .skip) (by kernel_rfl), ok := flight_ok }
end Go.Proofs.Ytlpahmefebgdlaa.Fx
/- Flights in boxes and in pairs. No condition. -/
namespace Go.Proofs.Ytlpahmefebgdlaa.Fx
open Go

/-- What a step's check tells. -/
def chkY (xa xb ya yb gl gh c : Rat) (b b' : Bx) : Bool := chk xa xb ya yb gl gh c b b' && decide (5 / 4194304 + 1 / 1000 ≤ 1 / 192 * (bS gl gh c b).yl)
def chkN (xa xb ya yb gl gh c : Rat) (bx : Nat → Bx) : Nat → Bool
  | 0 => true
  | n + 1 => chkN xa xb ya yb gl gh c bx n && chkY xa xb ya yb gl gh c (bx n) (bx (n + 1))
theorem flight_box {s : F32} {m xa xb ya yb gl gh c k1 k2 : Rat} {p : Sh} {h : F32} {P : V4} {bx : Nat → Bx} (hs : Shr s m) (hz : Zone m xa xb ya yb gl gh c k1 k2) (c1 : c ≤ 1 / 2) (ht : Tick h) (hf : finS h = true) (hp : HasG 1 p P) (hb : In (bx 0) P) :
    ∀ n, chkN xa xb ya yb gl gh c bx n = true → ∃ Q : Nat → V4, Q 0 = P ∧ (∀ k, k ≤ n → HasG 1 (flS s h k p) (Q k) ∧ In (bx k) (Q k)) ∧
      (∀ k, k < n → stQ s (flS s h k p) h = true ∧ (∃ K P2 L P3 M P4 N, Stg s m 1 k1 k2 (flS s h k p) h (Q k) K P2 L P3 M P4 N (Q (k + 1))) ∧ (Q k).y + 1 / 1000 ≤ (Q (k + 1)).y)
  | 0, _ => ⟨fun _ => P, rfl, fun k hk => by
      have : k = 0 := by omega
      subst this; exact ⟨hp, hb⟩, fun k hk => by omega⟩
  | n + 1, hc => by
    unfold chkN chkY at hc
    simp only [Bool.and_eq_true, decide_eq_true_eq] at hc
    obtain ⟨h1, h2, h3⟩ := hc
    obtain ⟨Q, e, g1, g2⟩ := flight_box hs hz c1 ht hf hp hb n h1
    obtain ⟨a1, a2⟩ := g1 n (Nat.le_refl n)
    obtain ⟨hst, K, P2, L, P3, M, P4, N, R, hS, hR, hi, iK, iL, iM, iN⟩ := step_box hs hz c1 ht hf a1 a2 h2
    refine ⟨fun k => if k ≤ n then Q k else R, by simp [e], fun k hk => ?_, fun k hk => ?_⟩
    · by_cases hkn : k ≤ n
      · simp only [if_pos hkn]; exact g1 k hkn
      · have : k = n + 1 := by omega
        subst this
        simp only [if_neg hkn]
        exact ⟨hR, hi⟩
    · by_cases hkn : k < n
      · simp only [if_pos (Nat.le_of_lt hkn), if_pos (show k + 1 ≤ n by omega)]
        exact g2 k hkn
      · have : k = n := by omega
        subst this
        simp only [if_pos (Nat.le_refl k), if_neg (show ¬(k + 1 ≤ k) by omega)]
        refine ⟨hst, ⟨K, P2, L, P3, M, P4, N, hS⟩, ?_⟩
        have f2 := hS.fn.y2
        have iS := (in_sum iK iL iM iN).y1
        have : (bS gl gh c (bx k)).yl ≤ (vSum K L M N).y := iS
        generalize (vSum K L M N).y = A at *
        generalize (bS gl gh c (bx k)).yl = B at *
        grind
def chkD (c : Rat) (D : Nat → V4) (W : Nat → Rat) : Nat → Bool
  | 0 => true
  | n + 1 => chkD c D W n && (dIn (dMv (1 / 192) (2 * (5 / 4194304)) (D n) (dS c (D n))) (D (n + 1)) && decide (W n + (1 / 192 * (dS c (D n)).x + 2 * (5 / 4194304)) ≤ W (n + 1)))
theorem flight_pair {s : F32} {m k1 k2 c : Rat} {p p' : Sh} {h : F32} {Q Q' D : Nat → V4} {W : Nat → Rat} (hs : Shr s m) (hc : (1 - m) * (k1 * k1 * k1) + m * (k2 * k2 * k2) ≤ c) (c1 : c ≤ 1 / 2) (hD : Df (D 0) (Q 0) (Q' 0)) (hW : 0 ≤ W 0) {n : Nat}
    (h1 : ∀ k, k < n → ∃ K P2 L P3 M P4 N, Stg s m 1 k1 k2 (flS s h k p) h (Q k) K P2 L P3 M P4 N (Q (k + 1)))
    (h2 : ∀ k, k < n → ∃ K P2 L P3 M P4 N, Stg s m 1 k1 k2 (flS s h k p') h (Q' k) K P2 L P3 M P4 N (Q' (k + 1))) :
    ∀ k, k ≤ n → chkD c D W k = true → Df (D k) (Q k) (Q' k) ∧ (Q k).x - (Q' k).x - ((Q 0).x - (Q' 0).x) ≤ W k ∧ -(W k) ≤ (Q k).x - (Q' k).x - ((Q 0).x - (Q' 0).x)
  | 0, _, _ => ⟨hD, by grind, by grind⟩
  | k + 1, hk, hq => by
    unfold chkD at hq
    simp only [Bool.and_eq_true, decide_eq_true_eq] at hq
    obtain ⟨q1, q2, q3⟩ := hq
    obtain ⟨g1, g2, g3⟩ := flight_pair hs hc c1 hD hW h1 h2 k (by omega) q1
    obtain ⟨K, P2, L, P3, M, P4, N, hS⟩ := h1 k (by omega)
    obtain ⟨K', P2', L', P3', M', P4', N', hS'⟩ := h2 k (by omega)
    obtain ⟨e1, e2, e3⟩ := pair_step hs hc c1 hS hS' g1
    refine ⟨df_in q2 e1, ?_⟩
    generalize (dS c (D k)).x = A at *
    constructor <;> grind
end Go.Proofs.Ytlpahmefebgdlaa.Fx
/- Flights that are mirrored and flown again. No condition. -/
namespace Go.Proofs.Ytlpahmefebgdlaa.Fx
open Go

/-- A zone away from the axis. -/
theorem zone_y {m ya k gh c : Rat} (m1 : 1 / 32 ≤ m) (m2 : m ≤ 1 / 2) (y1 : 11 / 10 ≤ ya) (hk : k * (ya - 1 / 100) = 1) (hg : 1001 / 1000 * (k * k) ≤ gh) (hc : k * k * k ≤ c) : Zone m (-3) 3 ya 8 (-gh) gh c k k := by
  have one_sq : ∀ a b : Rat, 1 ≤ b → 1 ≤ a * a + b * b := by
    intro a b h
    have := Rat.mul_le_mul_of_nonneg_left h (show 0 ≤ b by grind)
    have := sq_nonneg a
    grind
  have key : ∀ d z R q g Y : Rat, (g = 1 ∨ g = -1) → ya ≤ Y → z ≤ g * Y + 1 / 1048576 → g * Y ≤ z + 1 / 1048576 → d * d + z * z ≤ R * R + 31 / 1048576 → 999 / 1000 ≤ R → q * R = 1 → q ≤ k ∧ d * (q * q * q) ≤ 1001 / 1000 * (k * k) ∧ -(1001 / 1000 * (k * k)) ≤ d * (q * q * q) := by
    intro d z R q g Y hgg a1 z1 z2 r p i
    have q0 := inv_nonneg i p
    have hAR : ya - 1 / 100 ≤ R := by
      refine sq_le_sq (by grind) ?_
      have dd := sq_nonneg d
      have t1 : (ya - 1 / 1000) * (ya - 1 / 1000) ≤ z * z := by
        rcases hgg with rfl | rfl
        · have t2 := Rat.mul_le_mul_of_nonneg_left (show ya - 1 / 1000 ≤ z by grind) (show 0 ≤ ya - 1 / 1000 by grind)
          have t3 := Rat.mul_le_mul_of_nonneg_right (show ya - 1 / 1000 ≤ z by grind) (show 0 ≤ z by grind)
          grind
        · have t2 := Rat.mul_le_mul_of_nonneg_left (show ya - 1 / 1000 ≤ -z by grind) (show 0 ≤ ya - 1 / 1000 by grind)
          have t3 := Rat.mul_le_mul_of_nonneg_right (show ya - 1 / 1000 ≤ -z by grind) (show 0 ≤ -z by grind)
          grind
      have t4 : (ya - 1 / 1000) * (ya - 1 / 1000) = (ya - 1 / 100) * (ya - 1 / 100) + 18 / 1000 * ya - 99 / 1000000 := by grind
      rw [t4] at t1
      grind
    have hqk : q ≤ k := by
      have t1 := Rat.mul_le_mul_of_nonneg_left hAR q0
      refine Rat.le_of_mul_le_mul_left (c := ya - 1 / 100) ?_ (by grind)
      grind
    have sd := side_le p r
    have t0 := Rat.mul_nonneg (Rat.mul_nonneg q0 q0) q0
    have t1 := Rat.mul_le_mul_of_nonneg_right sd.1 t0
    have t1' := Rat.mul_le_mul_of_nonneg_right sd.2 t0
    have t2 : 10001 / 10000 * R * (q * q * q) = 10001 / 10000 * (q * q) * (q * R) := by grind
    have t2' : -(10001 / 10000 * R) * (q * q * q) = -(10001 / 10000 * (q * q) * (q * R)) := by grind
    rw [t2, i] at t1
    rw [t2', i] at t1'
    have t3 := (mul_bd (a := q) (b := q) (A := k) (B := k) (by grind) hqk (by grind) hqk).2
    have k0 := sq_nonneg k
    generalize d * (q * q * q) = dq at *
    generalize q * q = qq at *
    generalize k * k = kk at *
    refine ⟨hqk, by grind, by grind⟩
  refine ⟨by grind, by grind, by grind, by grind, fun x y _ _ h _ => one_sq _ _ (by grind), fun x y _ _ h _ => one_sq _ _ (by grind), ?_, by grind⟩
  intro s fx fy g X Y d e z R1 q1 R2 q2 hgg a1 a2 a3 a4 hP
  have b1 := key d z R1 q1 g Y hgg a3 hP.z1 hP.z2 hP.r1' hP.p1 hP.i1
  have b2 := key e z R2 q2 g Y hgg a3 hP.z1 hP.z2 hP.r2' hP.p2 hP.i2
  have c1 := Rat.mul_le_mul_of_nonneg_left b1.2.1 (show 0 ≤ 1 - m by grind)
  have c2 := Rat.mul_le_mul_of_nonneg_left b2.2.1 (show 0 ≤ m by grind)
  have c3 := Rat.mul_le_mul_of_nonneg_left b1.2.2 (show 0 ≤ 1 - m by grind)
  have c4 := Rat.mul_le_mul_of_nonneg_left b2.2.2 (show 0 ≤ m by grind)
  refine ⟨b1.1, b2.1, ?_, ?_⟩
  · unfold pullX
    grind
  · unfold pullX
    grind
/-- The four parts at once. -/
def v4 (f : (V4 → Rat) → Rat) : V4 := ⟨f V4.x, f V4.y, f V4.u, f V4.v⟩
/-- The inner box. -/
def zC (xa xb ya yb : Rat) : Bx := ⟨xa + 1 / 20, xb - 1 / 20, ya + 1 / 20, yb - 1 / 20, -7, 7, -7, 7⟩
def small (D : V4) : Bool := decide (D.x ≤ 1 / 20) && (decide (D.y ≤ 1 / 20) && (decide (D.u ≤ 1 / 20) && decide (D.v ≤ 1 / 20)))
theorem in_near {xa xb ya yb : Rat} {D T P : V4} (h : In (zC xa xb ya yb) P) (hD : Df D T P) (hs : small D = true) : InR xa xb ya yb T := by
  unfold small at hs
  simp only [Bool.and_eq_true, decide_eq_true_eq] at hs
  obtain ⟨h1, h2, h3, h4⟩ := hs
  obtain ⟨p1, p2, p3, p4, p5, p6, p7, p8⟩ := h
  obtain ⟨d1, d2, d3, d4, d5, d6, d7, d8⟩ := hD
  unfold zC at p1 p2 p3 p4 p5 p6 p7 p8
  dsimp only at p1 p2 p3 p4 p5 p6 p7 p8
  constructor <;> grind
/-- Rates between stages: KB, MB bound the first and the third rate. -/
def hA1 (c : Rat) (KB : V4) : V4 := dAcc c (v4 fun p => p KB / 64 + 9 / 8388608)
def hA2 (c : Rat) (A1 : V4) : V4 := dAcc c (v4 fun p => p A1 / 64 + 18 / 8388608)
def hA3 (c : Rat) (A2 MB : V4) : V4 := dAcc c (v4 fun p => (p MB + p A2) / 64 + 18 / 8388608)
def zV : V4 := ⟨0, 0, 0, 0⟩
theorem stages {s : F32} {m g k1 k2 c : Rat} {p : Sh} {h : F32} {P K P2 L P3 M P4 N Q KB MB : V4} (hs : Shr s m) (hg : g = 1 ∨ g = -1) (hc : (1 - m) * (k1 * k1 * k1) + m * (k2 * k2 * k2) ≤ c) (c1 : c ≤ 1 / 2)
    (hS : Stg s m g k1 k2 p h P K P2 L P3 M P4 N Q) (hK : Df KB K zV) (hM : Df MB M zV) :
    Df (hA1 c KB) L K ∧ Df (hA2 c (hA1 c KB)) M L ∧ Df (hA3 c (hA2 c (hA1 c KB)) MB) N M := by
  obtain ⟨a1, a2, a3, a4, m2, m3, m4, fn⟩ := hS
  have e1 : Df (v4 fun p => p KB / 64 + 9 / 8388608) P2 P := by
    obtain ⟨d1, d2, d3, d4, d5, d6, d7, d8⟩ := hK
    obtain ⟨n1, n2, n3, n4, n5, n6, n7, n8⟩ := m2
    unfold zV at d1 d2 d3 d4 d5 d6 d7 d8
    dsimp only at d1 d2 d3 d4 d5 d6 d7 d8
    unfold v4
    constructor <;> dsimp only <;> rcases hg with rfl | rfl <;> grind
  have f1 : Df (hA1 c KB) L K := ra_lip hs hg hg a2 a1 hc c1 e1
  have e2 : Df (v4 fun p => p (hA1 c KB) / 64 + 18 / 8388608) P3 P2 := by
    obtain ⟨d1, d2, d3, d4, d5, d6, d7, d8⟩ := f1
    obtain ⟨n1, n2, n3, n4, n5, n6, n7, n8⟩ := m2
    obtain ⟨q1, q2, q3, q4, q5, q6, q7, q8⟩ := m3
    generalize hA1 c KB = A at *
    unfold v4
    constructor <;> dsimp only <;> rcases hg with rfl | rfl <;> grind
  have f2 : Df (hA2 c (hA1 c KB)) M L := ra_lip hs hg hg a3 a2 hc c1 e2
  have e3 : Df (v4 fun p => (p MB + p (hA2 c (hA1 c KB))) / 64 + 18 / 8388608) P4 P3 := by
    obtain ⟨d1, d2, d3, d4, d5, d6, d7, d8⟩ := f2
    obtain ⟨b1, b2, b3, b4, b5, b6, b7, b8⟩ := hM
    unfold zV at b1 b2 b3 b4 b5 b6 b7 b8
    dsimp only at b1 b2 b3 b4 b5 b6 b7 b8
    obtain ⟨n1, n2, n3, n4, n5, n6, n7, n8⟩ := m3
    obtain ⟨q1, q2, q3, q4, q5, q6, q7, q8⟩ := m4
    generalize hA2 c (hA1 c KB) = A at *
    unfold v4
    constructor <;> dsimp only <;> rcases hg with rfl | rfl <;> grind
  exact ⟨f1, f2, ra_lip hs hg hg a4 a3 hc c1 e3⟩
def hE4 (D A1 A2 A3 : V4) : V4 := v4 fun p => p D + (p A1 + 3 * p A2 + p A3) / 192 + 19 / 8388608
def hE3 (D A1 A3 KN : V4) : V4 := v4 fun p => p D + (p A1 + 2 * p A3) / 192 + p KN / 64 + 28 / 8388608
def hE2 (D A1 A3 LM : V4) : V4 := v4 fun p => p D + (2 * p A1 + p A3) / 192 + p LM / 64 + 28 / 8388608
def hE1 (D A1 A2 A3 ML : V4) : V4 := v4 fun p => p D + (p A1 + 3 * p A2 + p A3) / 192 + p ML / 32 + 19 / 8388608
def hD' (D KN LM ML NK : V4) : V4 := v4 fun p => p D + (p KN + 2 * p LM + 2 * p ML + p NK) / 192 + 20 / 8388608
/-- The step back: what is checked. -/
def hKN (c : Rat) (D A1 A2 A3 : V4) : V4 := dAcc c (hE4 D A1 A2 A3)
def hLM (c : Rat) (D A1 A2 A3 : V4) : V4 := dAcc c (hE3 D A1 A3 (hKN c D A1 A2 A3))
def hML (c : Rat) (D A1 A2 A3 : V4) : V4 := dAcc c (hE2 D A1 A3 (hLM c D A1 A2 A3))
def hNK (c : Rat) (D A1 A2 A3 : V4) : V4 := dAcc c (hE1 D A1 A2 A3 (hML c D A1 A2 A3))
def hBack (c : Rat) (D A1 A2 A3 : V4) : V4 := hD' D (hKN c D A1 A2 A3) (hLM c D A1 A2 A3) (hML c D A1 A2 A3) (hNK c D A1 A2 A3)
def hOk (c : Rat) (D A1 A2 A3 : V4) : Bool := small D && (small (hE4 D A1 A2 A3) && (small (hE3 D A1 A3 (hKN c D A1 A2 A3)) && (small (hE2 D A1 A3 (hLM c D A1 A2 A3)) && (small (hE1 D A1 A2 A3 (hML c D A1 A2 A3)) && (bIn ⟨-(hKN c D A1 A2 A3).x, (hKN c D A1 A2 A3).x, -(hKN c D A1 A2 A3).y, (hKN c D A1 A2 A3).y, -(hKN c D A1 A2 A3).u, (hKN c D A1 A2 A3).u, -(hKN c D A1 A2 A3).v, (hKN c D A1 A2 A3).v⟩ ⟨-(1 / 10), 1 / 10, -(1 / 10), 1 / 10, -(1 / 10), 1 / 10, -(1 / 10), 1 / 10⟩ &&
  (bIn ⟨-(hLM c D A1 A2 A3).x, (hLM c D A1 A2 A3).x, -(hLM c D A1 A2 A3).y, (hLM c D A1 A2 A3).y, -(hLM c D A1 A2 A3).u, (hLM c D A1 A2 A3).u, -(hLM c D A1 A2 A3).v, (hLM c D A1 A2 A3).v⟩ ⟨-(1 / 10), 1 / 10, -(1 / 10), 1 / 10, -(1 / 10), 1 / 10, -(1 / 10), 1 / 10⟩ &&
  (bIn ⟨-(hML c D A1 A2 A3).x, (hML c D A1 A2 A3).x, -(hML c D A1 A2 A3).y, (hML c D A1 A2 A3).y, -(hML c D A1 A2 A3).u, (hML c D A1 A2 A3).u, -(hML c D A1 A2 A3).v, (hML c D A1 A2 A3).v⟩ ⟨-(1 / 10), 1 / 10, -(1 / 10), 1 / 10, -(1 / 10), 1 / 10, -(1 / 10), 1 / 10⟩ &&
  bIn ⟨-(hNK c D A1 A2 A3).x, (hNK c D A1 A2 A3).x, -(hNK c D A1 A2 A3).y, (hNK c D A1 A2 A3).y, -(hNK c D A1 A2 A3).u, (hNK c D A1 A2 A3).u, -(hNK c D A1 A2 A3).v, (hNK c D A1 A2 A3).v⟩ ⟨-(1 / 10), 1 / 10, -(1 / 10), 1 / 10, -(1 / 10), 1 / 10, -(1 / 10), 1 / 10⟩)))))))
theorem lt_near {D K K' : V4} (h : Lt (99 / 10) K) (hD : Df D K' K) (hb : bIn ⟨-D.x, D.x, -D.y, D.y, -D.u, D.u, -D.v, D.v⟩ ⟨-(1 / 10), 1 / 10, -(1 / 10), 1 / 10, -(1 / 10), 1 / 10, -(1 / 10), 1 / 10⟩ = true) : Lt 10 K' := by
  unfold bIn at hb
  simp only [Bool.and_eq_true, decide_eq_true_eq] at hb
  obtain ⟨h1, h2, h3, h4, h5, h6, h7, h8⟩ := hb
  obtain ⟨p1, p2, p3, p4, p5, p6, p7, p8⟩ := h
  obtain ⟨d1, d2, d3, d4, d5, d6, d7, d8⟩ := hD
  constructor <;> grind
theorem back_step {s : F32} {m xa xb ya yb gl gh c k1 k2 : Rat} {p t : Sh} {h : F32} {P K P2 L P3 M P4 N Q T D A1 A2 A3 : V4} (hs : Shr s m) (hz : Zone m xa xb ya yb gl gh c k1 k2) (c1 : c ≤ 1 / 2) (ht : Tick h) (hf : finS h = true)
    (hS : Stg s m 1 k1 k2 p h P K P2 L P3 M P4 N Q) (z1 : In (zC xa xb ya yb) P) (z2 : In (zC xa xb ya yb) P2) (z3 : In (zC xa xb ya yb) P3) (zq : In (zC xa xb ya yb) Q)
    (lk : Lt (99 / 10) K) (ll : Lt (99 / 10) L) (lm : Lt (99 / 10) M) (ln : Lt (99 / 10) N) (a : Df A1 L K) (b : Df A2 M L) (d : Df A3 N M) (hT : HasG (-1) t T) (hD : Df D T Q) (hq : hOk c D A1 A2 A3 = true) :
    stQ s t h = true ∧ ∃ T', HasG (-1) (stp s t h) T' ∧ Df (hBack c D A1 A2 A3) T' P := by
  unfold hOk at hq
  simp only [Bool.and_eq_true] at hq
  obtain ⟨s0, s4, s3, s2, s1, t1, t2, t3, t4⟩ := hq
  obtain ⟨r1, r2, r3, r4, m2, m3, m4, fn⟩ := hS
  obtain ⟨y1, y2, y3, y4, y5, y6, y7, y8⟩ := fn
  unfold vSum at y1 y2 y3 y4 y5 y6 y7 y8
  dsimp only at y1 y2 y3 y4 y5 y6 y7 y8
  have hcc := hz.c
  obtain ⟨q1, l1, K', rk, gk, -⟩ := acc_zone hs hz (.inr rfl) hT (in_near zq hD s0)
  have e4 : Df (hE4 D A1 A2 A3) T P4 := by
    clear lk ll lm ln z1 z2 z3 zq s0 s1 s2 s3 s4 t1 t2 t3 t4 m2 m3
    obtain ⟨a1, a2, a3, a4, a5, a6, a7, a8⟩ := a
    obtain ⟨b1, b2, b3, b4, b5, b6, b7, b8⟩ := b
    obtain ⟨d1, d2, d3, d4, d5, d6, d7, d8⟩ := d
    obtain ⟨n1, n2, n3, n4, n5, n6, n7, n8⟩ := m4
    obtain ⟨g1, g2, g3, g4, g5, g6, g7, g8⟩ := hD
    unfold hE4 v4
    constructor <;> dsimp only <;> grind
  have f1 : Df (hKN c D A1 A2 A3) K' N := ra_lip hs (.inr rfl) (.inl rfl) rk r4 hcc c1 e4
  have lk' := lt_near ln f1 t1
  obtain ⟨T2, hT2, w2⟩ := mv_has (.inr rfl) hT gk ht.h2 (by grind) (by grind) l1 (lt_le (by grind) lk')
  have e3 : Df (hE3 D A1 A3 (hKN c D A1 A2 A3)) T2 P3 := by
    clear lk ll lm ln z1 z2 z3 zq s0 s1 s2 s3 s4 t1 t2 t3 t4 m2 m4 lk' b
    obtain ⟨a1, a2, a3, a4, a5, a6, a7, a8⟩ := a
    obtain ⟨d1, d2, d3, d4, d5, d6, d7, d8⟩ := d
    obtain ⟨n1, n2, n3, n4, n5, n6, n7, n8⟩ := m3
    obtain ⟨g1, g2, g3, g4, g5, g6, g7, g8⟩ := hD
    obtain ⟨j1, j2, j3, j4, j5, j6, j7, j8⟩ := f1
    obtain ⟨o1, o2, o3, o4, o5, o6, o7, o8⟩ := w2
    generalize hKN c D A1 A2 A3 = KN at *
    unfold hE3 v4
    constructor <;> dsimp only <;> grind
  obtain ⟨q2, l2, L', rl, gl', -⟩ := acc_zone hs hz (.inr rfl) hT2 (in_near z3 e3 s3)
  have f2 : Df (hLM c D A1 A2 A3) L' M := ra_lip hs (.inr rfl) (.inl rfl) rl r3 hcc c1 e3
  have ll' := lt_near lm f2 t2
  obtain ⟨T3, hT3, w3⟩ := mv_has (.inr rfl) hT gl' ht.h2 (by grind) (by grind) l1 (lt_le (by grind) ll')
  have e2 : Df (hE2 D A1 A3 (hLM c D A1 A2 A3)) T3 P2 := by
    clear lk ll lm ln z1 z2 z3 zq s0 s1 s2 s3 s4 t1 t2 t3 t4 m3 m4 lk' ll' b f1 w2 e3
    obtain ⟨a1, a2, a3, a4, a5, a6, a7, a8⟩ := a
    obtain ⟨d1, d2, d3, d4, d5, d6, d7, d8⟩ := d
    obtain ⟨n1, n2, n3, n4, n5, n6, n7, n8⟩ := m2
    obtain ⟨g1, g2, g3, g4, g5, g6, g7, g8⟩ := hD
    obtain ⟨j1, j2, j3, j4, j5, j6, j7, j8⟩ := f2
    obtain ⟨o1, o2, o3, o4, o5, o6, o7, o8⟩ := w3
    generalize hLM c D A1 A2 A3 = LM at *
    unfold hE2 v4
    constructor <;> dsimp only <;> grind
  obtain ⟨q3, l3, M', rm, gm, -⟩ := acc_zone hs hz (.inr rfl) hT3 (in_near z2 e2 s2)
  have f3 : Df (hML c D A1 A2 A3) M' L := ra_lip hs (.inr rfl) (.inl rfl) rm r2 hcc c1 e2
  have lm' := lt_near ll f3 t3
  obtain ⟨T4, hT4, w4⟩ := mv_has (.inr rfl) hT gm ht.h1 (by grind) (by grind) l1 (lt_le (by grind) lm')
  have e1 : Df (hE1 D A1 A2 A3 (hML c D A1 A2 A3)) T4 P := by
    clear lk ll lm ln z1 z2 z3 zq s0 s1 s2 s3 s4 t1 t2 t3 t4 m2 m3 m4 lk' ll' lm' f1 f2 w2 w3 e3 e2
    obtain ⟨a1, a2, a3, a4, a5, a6, a7, a8⟩ := a
    obtain ⟨b1, b2, b3, b4, b5, b6, b7, b8⟩ := b
    obtain ⟨d1, d2, d3, d4, d5, d6, d7, d8⟩ := d
    obtain ⟨g1, g2, g3, g4, g5, g6, g7, g8⟩ := hD
    obtain ⟨j1, j2, j3, j4, j5, j6, j7, j8⟩ := f3
    obtain ⟨o1, o2, o3, o4, o5, o6, o7, o8⟩ := w4
    generalize hML c D A1 A2 A3 = ML at *
    unfold hE1 v4
    constructor <;> dsimp only <;> grind
  obtain ⟨q4, l4, N', rn, gn, -⟩ := acc_zone hs hz (.inr rfl) hT4 (in_near z1 e1 s1)
  have f4 : Df (hNK c D A1 A2 A3) N' K := ra_lip hs (.inr rfl) (.inl rfl) rn r1 hcc c1 e1
  have ln' := lt_near lk f4 t4
  obtain ⟨T', hT', fn'⟩ := fin_has ht (.inr rfl) hT gk gl' gm gn l1 lk' ll' lm' ln'
  refine ⟨?_, T', hT', ?_⟩
  · have hfin : (stp s t h).fin = true := by
      have hQ' : HasG (-1) (stp s t h) T' := hT'
      unfold Sh.fin vShip cfin
      rw [hasS_fin hQ'.x, hasS_fin hQ'.y, hasS_fin hQ'.u, hasS_fin hQ'.v]; rfl
    unfold stQ
    have w1 : accQ s (t.mv (h / two32) (sp1 s t)) = true := q2
    have w2 : accQ s (t.mv (h / two32) (sp2 s t h)) = true := q3
    have w3 : accQ s (t.mv h (sp3 s t h)) = true := q4
    rw [hf, q1, w1, w2, w3, hfin]; rfl
  · clear lk ll lm ln z1 z2 z3 zq s0 s1 s2 s3 s4 t1 t2 t3 t4 m2 m3 m4 lk' ll' lm' ln' w2 w3 w4 e1 e2 e3 e4 a b d
    obtain ⟨g1, g2, g3, g4, g5, g6, g7, g8⟩ := hD
    obtain ⟨i1, i2, i3, i4, i5, i6, i7, i8⟩ := f1
    obtain ⟨j1, j2, j3, j4, j5, j6, j7, j8⟩ := f2
    obtain ⟨o1, o2, o3, o4, o5, o6, o7, o8⟩ := f3
    obtain ⟨u1, u2, u3, u4, u5, u6, u7, u8⟩ := f4
    obtain ⟨x1, x2, x3, x4, x5, x6, x7, x8⟩ := fn'
    unfold vSum at x1 x2 x3 x4 x5 x6 x7 x8
    dsimp only at x1 x2 x3 x4 x5 x6 x7 x8
    unfold hBack
    generalize hKN c D A1 A2 A3 = KN at *
    generalize hLM c D A1 A2 A3 = LM at *
    generalize hML c D A1 A2 A3 = ML at *
    generalize hNK c D A1 A2 A3 = NK at *
    unfold hD' v4
    constructor <;> dsimp only <;> grind
end Go.Proofs.Ytlpahmefebgdlaa.Fx
