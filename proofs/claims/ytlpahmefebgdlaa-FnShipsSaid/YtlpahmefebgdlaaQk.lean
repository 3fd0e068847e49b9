/- Texts put together: Vc, Vd. No condition. -/
import Derived.Test.YtlpahmefebgdlaaQj
import Derived.Test.YtlpahmefebgdlaaQg
/- The constant is kept, nearly, by a step. No condition. -/
namespace Go.Proofs.Ytlpahmefebgdlaa.Fx
open Go

/-- How far the sum of pulls on the way lies from the mean pull. -/
def etaOf (k r Dx ex fx fy rho : Rat) : Rat := k * k * k * (401 / 100 * fx + 301 / 100 * fy + 1 / 10000) + (251 / 100 * (k * k * (k * k)) * (r * r) + 3 / 2 * (k * k * (k * k)) * (r * Dx)) + 4 * (ex * (k * k * k) + 13 / 10 * (k * k * (k * k)) * (r * r) + 155 / 100 * (k * k * k) * rho)
/-- The work of one mass. -/
theorem mass_work {k q0 q2 q3 q4 qe R0 R2 R3 R4 Re d0 d2 d3 d4 de z0 z2 z3 z4 ze r Dx Dy ex ey fx fy rho eta ub vb U V a b al be : Rat}
    (h0 : Iv k q0 R0) (h2 : Iv k q2 R2) (h3 : Iv k q3 R3) (h4 : Iv k q4 R4) (he : Iv k qe Re) (s0 : Ds d0 z0 R0) (s2 : Ds d2 z2 R2) (s3 : Ds d3 z3 R3) (s4 : Ds d4 z4 R4) (se : Ds de ze Re) (kk : k ≤ 11 / 10)
    (x1 : de - d0 ≤ Dx) (x2 : -Dx ≤ de - d0) (y1 : ze - z0 ≤ Dy) (y2 : -Dy ≤ ze - z0) (hr : 10001 / 10000 * (Dx + Dy) + 32 / 1048576 ≤ r)
    (e1 : d2 - (d0 + de) / 2 ≤ ex) (e2 : -ex ≤ d2 - (d0 + de) / 2) (e3 : d3 - (d0 + de) / 2 ≤ ex) (e4 : -ex ≤ d3 - (d0 + de) / 2)
    (f1 : z2 - (z0 + ze) / 2 ≤ ey) (f2 : -ey ≤ z2 - (z0 + ze) / 2) (f3 : z3 - (z0 + ze) / 2 ≤ ey) (f4 : -ey ≤ z3 - (z0 + ze) / 2) (exs : ex ≤ 1 / 50) (eys : ey ≤ 1 / 50)
    (g1 : d4 - de ≤ fx) (g2 : -fx ≤ d4 - de) (g3 : z4 - ze ≤ fy) (g4 : -fy ≤ z4 - ze)
    (hrho : 41 / 10 * (ex + ey) + k / 2 * ((Dx * Dx + Dy * Dy) / 2 + r * r + 124 / 1048576) ≤ rho)
    (t1 : etaOf k r Dx ex fx fy rho ≤ eta) (t2 : etaOf k r Dy ey fy fx rho ≤ eta)
    (u1 : ub ≤ U) (u2 : -U ≤ ub) (v1 : vb ≤ V) (v2 : -V ≤ vb) (a1 : a ≤ al) (a2 : -al ≤ a) (b1 : b ≤ be) (b2 : -be ≤ b)
    (w1 : de - d0 - (6 * ub + a) / 192 ≤ 26 / 8388608) (w2 : -(26 / 8388608) ≤ de - d0 - (6 * ub + a) / 192) (w3 : ze - z0 - (6 * vb + b) / 192 ≤ 26 / 8388608) (w4 : -(26 / 8388608) ≤ ze - z0 - (6 * vb + b) / 192) :
    ub * (d0 * (q0 * q0 * q0) + 2 * (d2 * (q2 * q2 * q2)) + 2 * (d3 * (q3 * q3 * q3)) + d4 * (q4 * q4 * q4)) + vb * (z0 * (q0 * q0 * q0) + 2 * (z2 * (q2 * q2 * q2)) + 2 * (z3 * (q3 * q3 * q3)) + z4 * (q4 * q4 * q4)) + 192 * (qe - q0) ≤ (U + V) * eta + 10001 / 10000 * (k * k) * (al + be + 1 / 800) + k * k * k * (1 / 170) ∧
    -((U + V) * eta + 10001 / 10000 * (k * k) * (al + be + 1 / 800) + k * k * k * (1 / 170)) ≤ ub * (d0 * (q0 * q0 * q0) + 2 * (d2 * (q2 * q2 * q2)) + 2 * (d3 * (q3 * q3 * q3)) + d4 * (q4 * q4 * q4)) + vb * (z0 * (q0 * q0 * q0) + 2 * (z2 * (q2 * q2 * q2)) + 2 * (z3 * (q3 * q3 * q3)) + z4 * (q4 * q4 * q4)) + 192 * (qe - q0) := by
  obtain ⟨w, hw, hw2, hw0, hwk⟩ := mean_ex h0 he
  have rl := dist_lip (t := 1) h0.p he.p (.inl rfl) s0.r1 s0.r2 se.r1 se.r2 (dx := Dx) (dy := Dy) (by grind) (by grind) (by grind) (by grind)
  have r1 : R0 - Re ≤ r := by grind
  have r2 : -r ≤ R0 - Re := by grind
  have rho2 := mid_dist h0 he h2 s0 se s2 r1 r2 x1 x2 y1 y2 e1 e2 f1 f2 exs eys
  have rho3 := mid_dist h0 he h3 s0 se s3 r1 r2 x1 x2 y1 y2 e3 e4 f3 f4 exs eys
  have sd0 := side_le h0.p s0.r2
  have sde := side_le he.p se.r2
  have sz0 := side_le (d := z0) (z := d0) h0.p (by have := s0.r2; grind)
  have sze := side_le (d := ze) (z := de) he.p (by have := se.r2; grind)
  have s2' : Ds z2 d2 R2 := ⟨by have := s2.r1; grind, by have := s2.r2; grind⟩
  have s3' : Ds z3 d3 R3 := ⟨by have := s3.r1; grind, by have := s3.r2; grind⟩
  have D1 : (d0 + de) / 2 ≤ 10001 / 10000 * ((R0 + Re) / 2) := by grind
  have D2 : -(10001 / 10000 * ((R0 + Re) / 2)) ≤ (d0 + de) / 2 := by grind
  have Z1 : (z0 + ze) / 2 ≤ 10001 / 10000 * ((R0 + Re) / 2) := by grind
  have Z2 : -(10001 / 10000 * ((R0 + Re) / 2)) ≤ (z0 + ze) / 2 := by grind
  have m2 := mid_pull h0 he h2 kk s2 r1 r2 hw2 D1 D2 e1 e2 exs (rho := rho) (by grind) (by grind)
  have m3 := mid_pull h0 he h3 kk s3 r1 r2 hw2 D1 D2 e3 e4 exs (rho := rho) (by grind) (by grind)
  have n2 := mid_pull h0 he h2 kk s2' r1 r2 hw2 Z1 Z2 f1 f2 eys (rho := rho) (by grind) (by grind)
  have n3 := mid_pull h0 he h3 kk s3' r1 r2 hw2 Z1 Z2 f3 f4 eys (rho := rho) (by grind) (by grind)
  have md := end_pull h0 he r1 r2 hw2 D1 D2 x1 x2
  have mz := end_pull h0 he r1 r2 hw2 Z1 Z2 y1 y2
  have lp := grav_lip (t := 1) h4.p he.p h4.i he.i h4.k he.k (.inl rfl) s4.r1 s4.r2 se.r1 se.r2 (dx := fx) (dy := fy) g1 g2 (by grind) (by grind)
  -- the inverse distances' difference
  have hq : qe - q0 = w * (R0 * R0 - Re * Re) / 2 := by
    have i0 := h0.i
    have ie := he.i
    have e : qe - q0 = q0 * qe * (R0 - Re) := by
      have : q0 * qe * (R0 - Re) = qe * (q0 * R0) - q0 * (qe * Re) := by grind
      rw [this, i0, ie]; grind
    have e' : w * (R0 * R0 - Re * Re) / 2 = w * (R0 + Re) * (R0 - Re) / 2 := by grind
    rw [e, e', hw]; grind
  have hsq : R0 * R0 - Re * Re + 2 * ((de - d0) * ((d0 + de) / 2) + (ze - z0) * ((z0 + ze) / 2)) ≤ 62 / 1048576 ∧ -(62 / 1048576) ≤ R0 * R0 - Re * Re + 2 * ((de - d0) * ((d0 + de) / 2) + (ze - z0) * ((z0 + ze) / 2)) := by
    have e5 : 2 * ((de - d0) * ((d0 + de) / 2) + (ze - z0) * ((z0 + ze) / 2)) = de * de - d0 * d0 + (ze * ze - z0 * z0) := by grind
    rw [e5]
    have := s0.r1
    have := s0.r2
    have := se.r1
    have := se.r2
    generalize R0 * R0 = j1 at *
    generalize Re * Re = j2 at *
    generalize d0 * d0 = j3 at *
    generalize de * de = j4 at *
    generalize z0 * z0 = j5 at *
    generalize ze * ze = j6 at *
    constructor <;> grind
  have hE := ab_mul (a := w) (b := R0 * R0 - Re * Re + 2 * ((de - d0) * ((d0 + de) / 2) + (ze - z0) * ((z0 + ze) / 2))) (A := k * k * k) (B := 62 / 1048576) (by grind) hwk hsq.2 hsq.1
  have id1 : 192 * (qe - q0) = -(192 * ((de - d0) * (w * ((d0 + de) / 2)) + (ze - z0) * (w * ((z0 + ze) / 2)))) + 96 * (w * (R0 * R0 - Re * Re + 2 * ((de - d0) * ((d0 + de) / 2) + (ze - z0) * ((z0 + ze) / 2)))) := by rw [hq]; grind
  -- w times a mean side
  obtain ⟨c1, c2⟩ := mul2_le h0.nn h0.k he.nn he.k
  have hwd : w * ((d0 + de) / 2) ≤ 10001 / 10000 * (k * k) ∧ -(10001 / 10000 * (k * k)) ≤ w * ((d0 + de) / 2) := by
    have p1 := Rat.mul_le_mul_of_nonneg_left D1 hw0
    have p2 := Rat.mul_le_mul_of_nonneg_left D2 hw0
    have e6 : w * (10001 / 10000 * ((R0 + Re) / 2)) = 10001 / 10000 * (w * (R0 + Re) / 2) := by grind
    have e7 : w * -(10001 / 10000 * ((R0 + Re) / 2)) = -(10001 / 10000 * (w * (R0 + Re) / 2)) := by grind
    rw [e6, hw] at p1
    rw [e7, hw] at p2
    constructor <;> grind
  have hwz : w * ((z0 + ze) / 2) ≤ 10001 / 10000 * (k * k) ∧ -(10001 / 10000 * (k * k)) ≤ w * ((z0 + ze) / 2) := by
    have p1 := Rat.mul_le_mul_of_nonneg_left Z1 hw0
    have p2 := Rat.mul_le_mul_of_nonneg_left Z2 hw0
    have e6 : w * (10001 / 10000 * ((R0 + Re) / 2)) = 10001 / 10000 * (w * (R0 + Re) / 2) := by grind
    have e7 : w * -(10001 / 10000 * ((R0 + Re) / 2)) = -(10001 / 10000 * (w * (R0 + Re) / 2)) := by grind
    rw [e6, hw] at p1
    rw [e7, hw] at p2
    constructor <;> grind
  unfold etaOf at t1 t2
  clear hr hrho rho2 rho3 sd0 sde sz0 sze s2' s3' D1 D2 Z1 Z2 rl hsq hq hw hw2 r1 r2 x1 x2 y1 y2 e1 e2 e3 e4 f1 f2 f3 f4 exs eys g1 g2 g3 g4 kk s0 s2 s3 s4 se h0 h2 h3 h4 he hw0 hwk c1 c2
  rw [id1]
  generalize w * (R0 * R0 - Re * Re + 2 * ((de - d0) * ((d0 + de) / 2) + (ze - z0) * ((z0 + ze) / 2))) = EE at *
  generalize w * ((d0 + de) / 2) = wd at *
  generalize w * ((z0 + ze) / 2) = wz at *
  generalize 251 / 100 * (k * k * (k * k)) * (r * r) + 3 / 2 * (k * k * (k * k)) * (r * Dx) = n1 at *
  generalize 251 / 100 * (k * k * (k * k)) * (r * r) + 3 / 2 * (k * k * (k * k)) * (r * Dy) = n4 at *
  generalize ex * (k * k * k) + 13 / 10 * (k * k * (k * k)) * (r * r) + 155 / 100 * (k * k * k) * rho = n5 at *
  generalize ey * (k * k * k) + 13 / 10 * (k * k * (k * k)) * (r * r) + 155 / 100 * (k * k * k) * rho = n6 at *
  have sw : k * k * k * (301 / 100 * fx + 401 / 100 * fy + 1 / 10000) = k * k * k * (401 / 100 * fy + 301 / 100 * fx + 1 / 10000) := by grind
  rw [sw] at lp
  generalize k * k * k * (401 / 100 * fx + 301 / 100 * fy + 1 / 10000) = n7 at *
  generalize k * k * k * (401 / 100 * fy + 301 / 100 * fx + 1 / 10000) = n8 at *
  generalize d0 * (q0 * q0 * q0) = D0 at *
  generalize d2 * (q2 * q2 * q2) = D2 at *
  generalize d3 * (q3 * q3 * q3) = D3 at *
  generalize d4 * (q4 * q4 * q4) = D4 at *
  generalize de * (qe * qe * qe) = De at *
  generalize z0 * (q0 * q0 * q0) = Z0 at *
  generalize z2 * (q2 * q2 * q2) = Z2 at *
  generalize z3 * (q3 * q3 * q3) = Z3 at *
  generalize z4 * (q4 * q4 * q4) = Z4 at *
  generalize ze * (qe * qe * qe) = Ze at *
  have G1 : D0 + 2 * D2 + 2 * D3 + D4 - 6 * wd ≤ eta ∧ -eta ≤ D0 + 2 * D2 + 2 * D3 + D4 - 6 * wd := by constructor <;> grind
  have H1 : Z0 + 2 * Z2 + 2 * Z3 + Z4 - 6 * wz ≤ eta ∧ -eta ≤ Z0 + 2 * Z2 + 2 * Z3 + Z4 - 6 * wz := by constructor <;> grind
  have P1 := ab_mul (a := ub) (b := D0 + 2 * D2 + 2 * D3 + D4 - 6 * wd) (A := U) (B := eta) u2 u1 G1.2 G1.1
  have P2 := ab_mul (a := vb) (b := Z0 + 2 * Z2 + 2 * Z3 + Z4 - 6 * wz) (A := V) (B := eta) v2 v1 H1.2 H1.1
  have P3 := ab_mul (a := wd) (b := a + 192 * (de - d0 - (6 * ub + a) / 192)) (A := 10001 / 10000 * (k * k)) (B := al + 1 / 1600) hwd.2 hwd.1 (by grind) (by grind)
  have P4 := ab_mul (a := wz) (b := b + 192 * (ze - z0 - (6 * vb + b) / 192)) (A := 10001 / 10000 * (k * k)) (B := be + 1 / 1600) hwz.2 hwz.1 (by grind) (by grind)
  have id2 : ub * (D0 + 2 * D2 + 2 * D3 + D4) + vb * (Z0 + 2 * Z2 + 2 * Z3 + Z4) + (-(192 * ((de - d0) * wd + (ze - z0) * wz)) + 96 * EE) =
      ub * (D0 + 2 * D2 + 2 * D3 + D4 - 6 * wd) + vb * (Z0 + 2 * Z2 + 2 * Z3 + Z4 - 6 * wz) - wd * (a + 192 * (de - d0 - (6 * ub + a) / 192)) - wz * (b + 192 * (ze - z0 - (6 * vb + b) / 192)) + 96 * EE := by grind
  rw [id2]
  have e8 : (U + V) * eta = U * eta + V * eta := by grind
  have e9 : 10001 / 10000 * (k * k) * (al + be + 1 / 800) = 10001 / 10000 * (k * k) * (al + 1 / 1600) + 10001 / 10000 * (k * k) * (be + 1 / 1600) := by grind
  rw [e8, e9]
  generalize ub * (D0 + 2 * D2 + 2 * D3 + D4 - 6 * wd) = O1 at *
  generalize vb * (Z0 + 2 * Z2 + 2 * Z3 + Z4 - 6 * wz) = O2 at *
  generalize wd * (a + 192 * (de - d0 - (6 * ub + a) / 192)) = O3 at *
  generalize wz * (b + 192 * (ze - z0 - (6 * vb + b) / 192)) = O4 at *
  generalize U * eta = O5 at *
  generalize V * eta = O6 at *
  generalize 10001 / 10000 * (k * k) * (al + 1 / 1600) = O7 at *
  generalize 10001 / 10000 * (k * k) * (be + 1 / 1600) = O8 at *
  generalize k * k * k = O9 at *
  constructor <;> grind
theorem pl_inj {s x y : F32} {m X Y d e z R1 q1 R2 q2 X' Y' d' e' z' R1' q1' R2' q2' : Rat} (h : Pl s x y m X Y d e z R1 q1 R2 q2) (h' : Pl s x y m X' Y' d' e' z' R1' q1' R2' q2') :
    d = d' ∧ e = e' ∧ z = z' ∧ R1 = R1' ∧ q1 = q1' ∧ R2 = R2' ∧ q2 = q2' := by
  have inj : ∀ {x : F32} {a b : Rat}, HasS x a → HasS x b → a = b := fun h h' => has_inj (widen_has h) (widen_has h')
  have inv : ∀ q q' R : Rat, q * R = 1 → q' * R = 1 → q = q' := by
    intro q q' R h1 h2
    have : q * (q' * R) = q' * (q * R) := by grind
    rw [h1, h2] at this; grind
  have e1 := inj h.h1 h'.h1
  have e2 := inj h.h2 h'.h2
  refine ⟨inj h.hd h'.hd, inj h.he h'.he, inj h.hz h'.hz, e1, ?_, e2, ?_⟩
  · exact inv _ _ R1 h.i1 (by rw [e1]; exact h'.i1)
  · exact inv _ _ R2 h.i2 (by rw [e2]; exact h'.i2)
/-- The constant. -/
def enV (m q1 q2 : Rat) (P : V4) : Rat := P.x * P.x + P.y * P.y - P.u * P.u - P.v * P.v + 2 * ((1 - m) * q1 + m * q2)
theorem en_id (px py pu pv qx qy qu qv sx sy su sv X Y G H A : Rat) :
    qx * qx + qy * qy - qu * qu - qv * qv - (px * px + py * py - pu * pu - pv * pv) + 2 * A =
      1 / 96 * ((px + qx) / 2 * (sx - 6 * ((pu + qu) / 2)) + (pu + qu) / 2 * (6 * ((px + qx) / 2) - X) + (py + qy) / 2 * (sy - 6 * ((pv + qv) / 2)) + (pv + qv) / 2 * (6 * ((py + qy) / 2) - Y)
        + 2 * ((pv + qv) / 2 * (sx - 6 * ((pu + qu) / 2)) - (pu + qu) / 2 * (sy - 6 * ((pv + qv) / 2)))
        - (pu + qu) / 2 * (su - (2 * sy + X - G)) - (pv + qv) / 2 * (sv - (-2 * sx + Y - H)) + ((pu + qu) / 2 * G + (pv + qv) / 2 * H + 192 * A))
      + 2 * ((px + qx) / 2 * (qx - px - sx / 192) + (py + qy) / 2 * (qy - py - sy / 192) - (pu + qu) / 2 * (qu - pu - su / 192) - (pv + qv) / 2 * (qv - pv - sv / 192)) := by grind
/-- The bound of a step's change. -/
def ebOf (k eta al be ga de : Rat) (B : V4) : Rat :=
  1 / 96 * (B.x * al + B.u * ga + B.y * be + B.v * de + 2 * (B.v * al + B.u * be) + (B.u + B.v) * (6 / 2000) + ((B.u + B.v) * eta + 10001 / 10000 * (k * k) * (al + be + 1 / 800) + k * k * k * (1 / 170))) + 20 / 8388608 * (B.x + B.y + B.u + B.v)
theorem en_fin {X1 X2 X3 X4 X5 X6 X7 X8 X9 X10 X11 X12 w xa xb xc xd xe xf xg xh bx by' bu bv WB t : Rat} (T1 : X1 ≤ xa ∧ -xa ≤ X1) (T2 : X2 ≤ xb ∧ -xb ≤ X2) (T3 : X3 ≤ xc ∧ -xc ≤ X3) (T4 : X4 ≤ xd ∧ -xd ≤ X4) (T5 : X5 ≤ xe ∧ -xe ≤ X5) (T6 : X6 ≤ xf ∧ -xf ≤ X6) (T7 : X7 ≤ xg ∧ -xg ≤ X7) (T8 : X8 ≤ xh ∧ -xh ≤ X8)
    (T9 : X9 ≤ bx ∧ -bx ≤ X9) (T10 : X10 ≤ by' ∧ -by' ≤ X10) (T11 : X11 ≤ bu ∧ -bu ≤ X11) (T12 : X12 ≤ bv ∧ -bv ≤ X12) (V5 : w ≤ WB ∧ -WB ≤ w) (ht : 1 / 96 * (xa + xb + xc + xd + 2 * (xe + xf) + (xg + xh) + WB) + 2 * (bx + by' + bu + bv) ≤ t) :
    1 / 96 * (X1 + X2 + X3 + X4 + 2 * (X5 - X6) - X7 - X8 + w) + 2 * (X9 + X10 - X11 - X12) ≤ t ∧ -t ≤ 1 / 96 * (X1 + X2 + X3 + X4 + 2 * (X5 - X6) - X7 - X8 + w) + 2 * (X9 + X10 - X11 - X12) := by
  constructor <;> grind
theorem ww_id (m uu vv q0 q1 q2 q3 q4 o0 o1 o2 o3 o4 d0 d2 d3 d4 e0 e2 e3 e4 z0 z2 z3 z4 : Rat) : uu * (pullX m d0 e0 q0 o0 + 2 * pullX m d2 e2 q2 o2 + 2 * pullX m d3 e3 q3 o3 + pullX m d4 e4 q4 o4) + vv * (pullX m z0 z0 q0 o0 + 2 * pullX m z2 z2 q2 o2 + 2 * pullX m z3 z3 q3 o3 + pullX m z4 z4 q4 o4) + 192 * ((1 - m) * (q1 - q0) + m * (o1 - o0)) =
      (1 - m) * (uu * (d0 * (q0 * q0 * q0) + 2 * (d2 * (q2 * q2 * q2)) + 2 * (d3 * (q3 * q3 * q3)) + d4 * (q4 * q4 * q4)) + vv * (z0 * (q0 * q0 * q0) + 2 * (z2 * (q2 * q2 * q2)) + 2 * (z3 * (q3 * q3 * q3)) + z4 * (q4 * q4 * q4)) + 192 * (q1 - q0)) +
      m * (uu * (e0 * (o0 * o0 * o0) + 2 * (e2 * (o2 * o2 * o2)) + 2 * (e3 * (o3 * o3 * o3)) + e4 * (o4 * o4 * o4)) + vv * (z0 * (o0 * o0 * o0) + 2 * (z2 * (o2 * o2 * o2)) + 2 * (z3 * (o3 * o3 * o3)) + z4 * (o4 * o4 * o4)) + 192 * (o1 - o0)) := by
  unfold pullX
  generalize q0 * q0 * q0 = j0
  generalize q2 * q2 * q2 = j2
  generalize q3 * q3 * q3 = j3
  generalize q4 * q4 * q4 = j4
  generalize o0 * o0 * o0 = k0
  generalize o2 * o2 * o2 = k2
  generalize o3 * o3 * o3 = k3
  generalize o4 * o4 * o4 = k4
  grind
/-- Two masses' work together. -/
theorem two_work {m w1 w2 WB : Rat} (m0 : 0 ≤ m) (m1 : m ≤ 1) (W1 : w1 ≤ WB ∧ -WB ≤ w1) (W2 : w2 ≤ WB ∧ -WB ≤ w2) : (1 - m) * w1 + m * w2 ≤ WB ∧ -WB ≤ (1 - m) * w1 + m * w2 := by
  have V1 := Rat.mul_le_mul_of_nonneg_left W1.1 (show 0 ≤ 1 - m by grind)
  have V2 := Rat.mul_le_mul_of_nonneg_left W1.2 (show 0 ≤ 1 - m by grind)
  have V3 := Rat.mul_le_mul_of_nonneg_left W2.1 m0
  have V4' := Rat.mul_le_mul_of_nonneg_left W2.2 m0
  constructor <;> grind
/-- A step's linear facts. -/
structure Lin (P K P2 L P3 M P4 N Q : V4) (ex ey fx fy al be ga de : Rat) : Prop where
  wal : K.x + 2 * L.x + 2 * M.x + N.x - 6 * ((P.u + Q.u) / 2) ≤ al ∧ -(al) ≤ K.x + 2 * L.x + 2 * M.x + N.x - 6 * ((P.u + Q.u) / 2)
  wbe : K.y + 2 * L.y + 2 * M.y + N.y - 6 * ((P.v + Q.v) / 2) ≤ be ∧ -(be) ≤ K.y + 2 * L.y + 2 * M.y + N.y - 6 * ((P.v + Q.v) / 2)
  wga : 6 * ((P.x + Q.x) / 2) - (P.x + 2 * P2.x + 2 * P3.x + P4.x) ≤ ga ∧ -(ga) ≤ 6 * ((P.x + Q.x) / 2) - (P.x + 2 * P2.x + 2 * P3.x + P4.x)
  wde : 6 * ((P.y + Q.y) / 2) - (P.y + 2 * P2.y + 2 * P3.y + P4.y) ≤ de ∧ -(de) ≤ 6 * ((P.y + Q.y) / 2) - (P.y + 2 * P2.y + 2 * P3.y + P4.y)
  x2 : P2.x - (P.x + Q.x) / 2 ≤ ex - 16 / 8388608 ∧ -(ex - 16 / 8388608) ≤ P2.x - (P.x + Q.x) / 2
  x3 : P3.x - (P.x + Q.x) / 2 ≤ ex - 16 / 8388608 ∧ -(ex - 16 / 8388608) ≤ P3.x - (P.x + Q.x) / 2
  x4 : P4.x - Q.x ≤ fx - 16 / 8388608 ∧ -(fx - 16 / 8388608) ≤ P4.x - Q.x
  y2 : P2.y - (P.y + Q.y) / 2 ≤ ey - 16 / 8388608 ∧ -(ey - 16 / 8388608) ≤ P2.y - (P.y + Q.y) / 2
  y3 : P3.y - (P.y + Q.y) / 2 ≤ ey - 16 / 8388608 ∧ -(ey - 16 / 8388608) ≤ P3.y - (P.y + Q.y) / 2
  y4 : P4.y - Q.y ≤ fy - 16 / 8388608 ∧ -(fy - 16 / 8388608) ≤ P4.y - Q.y
  dX : Q.x - P.x - (K.x + 2 * L.x + 2 * M.x + N.x) / 192 ≤ 10 / 8388608 ∧ -(10 / 8388608) ≤ Q.x - P.x - (K.x + 2 * L.x + 2 * M.x + N.x) / 192
  dY : Q.y - P.y - (K.y + 2 * L.y + 2 * M.y + N.y) / 192 ≤ 10 / 8388608 ∧ -(10 / 8388608) ≤ Q.y - P.y - (K.y + 2 * L.y + 2 * M.y + N.y) / 192
  dU : Q.u - P.u - (K.u + 2 * L.u + 2 * M.u + N.u) / 192 ≤ 10 / 8388608 ∧ -(10 / 8388608) ≤ Q.u - P.u - (K.u + 2 * L.u + 2 * M.u + N.u) / 192
  dV : Q.v - P.v - (K.v + 2 * L.v + 2 * M.v + N.v) / 192 ≤ 10 / 8388608 ∧ -(10 / 8388608) ≤ Q.v - P.v - (K.v + 2 * L.v + 2 * M.v + N.v) / 192
theorem step_lin {s : F32} {m k1 k2 : Rat} {p : Sh} {h : F32} {P K P2 L P3 M P4 N Q A1 A2 A3 : V4} {ex ey fx fy al be ga de : Rat} (hS : Stg s m 1 k1 k2 p h P K P2 L P3 M P4 N Q) (a : Df A1 L K) (b : Df A2 M L) (c : Df A3 N M)
    (hex : (5 * A1.x + 3 * A2.x + A3.x) / 384 + 30 / 8388608 ≤ ex) (hey : (5 * A1.y + 3 * A2.y + A3.y) / 384 + 30 / 8388608 ≤ ey)
    (hfx : (A1.x + 3 * A2.x + A3.x) / 192 + 35 / 8388608 ≤ fx) (hfy : (A1.y + 3 * A2.y + A3.y) / 192 + 35 / 8388608 ≤ fy)
    (hal : (A1.u + A2.u + A3.u) / 64 + 75 / 8388608 ≤ al) (hbe : (A1.v + A2.v + A3.v) / 64 + 75 / 8388608 ≤ be) (hga : (A1.x + A2.x + A3.x) / 64 + 75 / 8388608 ≤ ga) (hde : (A1.y + A2.y + A3.y) / 64 + 75 / 8388608 ≤ de) :
    Lin P K P2 L P3 M P4 N Q ex ey fx fy al be ga de := by
  obtain ⟨r1, r2, r3, r4, m2, m3, m4, fn⟩ := hS
  have kx := r1.kx
  have ky := r1.ky
  have kx2 := r2.kx
  have ky2 := r2.ky
  have kx3 := r3.kx
  have ky3 := r3.ky
  have kx4 := r4.kx
  have ky4 := r4.ky
  clear r1 r2 r3 r4
  obtain ⟨a1, a2, a3, a4, a5, a6, a7, a8⟩ := a
  obtain ⟨b1, b2, b3, b4, b5, b6, b7, b8⟩ := b
  obtain ⟨c1, c2, c3, c4, c5, c6, c7, c8⟩ := c
  obtain ⟨n1, n2, n3, n4, n5, n6, n7, n8⟩ := m2
  obtain ⟨n9, n10, n11, n12, n13, n14, n15, n16⟩ := m3
  obtain ⟨n17, n18, n19, n20, n21, n22, n23, n24⟩ := m4
  obtain ⟨y1, y2, y3, y4, y5, y6, y7, y8⟩ := fn
  unfold vSum at y1 y2 y3 y4 y5 y6 y7 y8
  dsimp only at y1 y2 y3 y4 y5 y6 y7 y8
  constructor <;> constructor <;> grind
theorem w_eq (u S : Rat) : (6 * u + (S - 6 * u)) / 192 = S / 192 := by grind
/-- Places' differences seen from a mass. -/
structure Nd (d0 d1 d2 d3 d4 D ex fx S : Rat) : Prop where
  a1 : d1 - d0 ≤ D + 2 / 1048576
  a2 : -(D + 2 / 1048576) ≤ d1 - d0
  b1 : d2 - (d0 + d1) / 2 ≤ ex
  b2 : -ex ≤ d2 - (d0 + d1) / 2
  b3 : d3 - (d0 + d1) / 2 ≤ ex
  b4 : -ex ≤ d3 - (d0 + d1) / 2
  c1 : d4 - d1 ≤ fx
  c2 : -fx ≤ d4 - d1
  w1 : d1 - d0 - S / 192 ≤ 26 / 8388608
  w2 : -(26 / 8388608) ≤ d1 - d0 - S / 192
theorem near_diffs {c X0 X1 X2 X3 X4 d0 d1 d2 d3 d4 D ex fx S : Rat} (h0 : d0 ≤ X0 + c + 8 / 8388608 ∧ X0 + c ≤ d0 + 8 / 8388608) (h1 : d1 ≤ X1 + c + 8 / 8388608 ∧ X1 + c ≤ d1 + 8 / 8388608) (h2 : d2 ≤ X2 + c + 8 / 8388608 ∧ X2 + c ≤ d2 + 8 / 8388608) (h3 : d3 ≤ X3 + c + 8 / 8388608 ∧ X3 + c ≤ d3 + 8 / 8388608) (h4 : d4 ≤ X4 + c + 8 / 8388608 ∧ X4 + c ≤ d4 + 8 / 8388608)
    (x2 : X2 - (X0 + X1) / 2 ≤ ex - 16 / 8388608 ∧ -(ex - 16 / 8388608) ≤ X2 - (X0 + X1) / 2) (x3 : X3 - (X0 + X1) / 2 ≤ ex - 16 / 8388608 ∧ -(ex - 16 / 8388608) ≤ X3 - (X0 + X1) / 2) (x4 : X4 - X1 ≤ fx - 16 / 8388608 ∧ -(fx - 16 / 8388608) ≤ X4 - X1)
    (D1 : X1 - X0 ≤ D) (D2 : -D ≤ X1 - X0) (dX : X1 - X0 - S / 192 ≤ 10 / 8388608 ∧ -(10 / 8388608) ≤ X1 - X0 - S / 192) : Nd d0 d1 d2 d3 d4 D ex fx S := by
  constructor <;> grind
theorem pl_zz {s x y : F32} {m X Y d e z R1 q1 R2 q2 : Rat} (h : Pl s x y m X (1 * Y) d e z R1 q1 R2 q2) : (d ≤ X + m + 8 / 8388608 ∧ X + m ≤ d + 8 / 8388608) ∧ (e ≤ X + (m - 1) + 8 / 8388608 ∧ X + (m - 1) ≤ e + 8 / 8388608) ∧ (z ≤ Y + 0 + 8 / 8388608 ∧ Y + 0 ≤ z + 8 / 8388608) := by
  have := h.d1; have := h.d2; have := h.e1; have := h.e2; have := h.z1; have := h.z2
  refine ⟨⟨by grind, by grind⟩, ⟨by grind, by grind⟩, ⟨by grind, by grind⟩⟩
theorem step_work {s : F32} {m k : Rat} {p : Sh} {h fx' fy' : F32} {P K P2 L P3 M P4 N Q B DD : V4} {d0 e0 z0 R0 q0 S0 o0 d1 e1 z1 R1 q1 S1 o1 r ex ey fx fy rho eta al be ga de : Rat} (hs : Shr s m) (kk : k ≤ 11 / 10)
    (hS : Stg s m 1 k k p h P K P2 L P3 M P4 N Q) (hl : Lin P K P2 L P3 M P4 N Q ex ey fx fy al be ga de) (hp : Pl s p.x p.y m P.x (1 * P.y) d0 e0 z0 R0 q0 S0 o0) (hq : Pl s fx' fy' m Q.x (1 * Q.y) d1 e1 z1 R1 q1 S1 o1) (kq : q1 ≤ k) (ko : o1 ≤ k)
    (ub : (P.u + Q.u) / 2 ≤ B.u ∧ -B.u ≤ (P.u + Q.u) / 2) (vb : (P.v + Q.v) / 2 ≤ B.v ∧ -B.v ≤ (P.v + Q.v) / 2) (dd : Df DD Q P)
    (hr : 10001 / 10000 * (DD.x + DD.y + 4 / 1048576) + 32 / 1048576 ≤ r) (exs : ex ≤ 1 / 50) (eys : ey ≤ 1 / 50)
    (hrho : 41 / 10 * (ex + ey) + k / 2 * (((DD.x + 2 / 1048576) * (DD.x + 2 / 1048576) + (DD.y + 2 / 1048576) * (DD.y + 2 / 1048576)) / 2 + r * r + 124 / 1048576) ≤ rho)
    (t1 : etaOf k r (DD.x + 2 / 1048576) ex fx fy rho ≤ eta) (t2 : etaOf k r (DD.y + 2 / 1048576) ey fy fx rho ≤ eta) :
    ∃ G H : Rat, (K.u + 2 * L.u + 2 * M.u + N.u - (2 * (K.y + 2 * L.y + 2 * M.y + N.y) + (P.x + 2 * P2.x + 2 * P3.x + P4.x) - G) ≤ 6 / 2000 ∧ -(6 / 2000) ≤ K.u + 2 * L.u + 2 * M.u + N.u - (2 * (K.y + 2 * L.y + 2 * M.y + N.y) + (P.x + 2 * P2.x + 2 * P3.x + P4.x) - G)) ∧ (K.v + 2 * L.v + 2 * M.v + N.v - (-2 * (K.x + 2 * L.x + 2 * M.x + N.x) + (P.y + 2 * P2.y + 2 * P3.y + P4.y) - H) ≤ 6 / 2000 ∧ -(6 / 2000) ≤ K.v + 2 * L.v + 2 * M.v + N.v - (-2 * (K.x + 2 * L.x + 2 * M.x + N.x) + (P.y + 2 * P2.y + 2 * P3.y + P4.y) - H)) ∧ ((P.u + Q.u) / 2 * G + (P.v + Q.v) / 2 * H + 192 * ((1 - m) * (q1 - q0) + m * (o1 - o0)) ≤ (B.u + B.v) * eta + 10001 / 10000 * (k * k) * (al + be + 1 / 800) + k * k * k * (1 / 170) ∧ -((B.u + B.v) * eta + 10001 / 10000 * (k * k) * (al + be + 1 / 800) + k * k * k * (1 / 170)) ≤ (P.u + Q.u) / 2 * G + (P.v + Q.v) / 2 * H + 192 * ((1 - m) * (q1 - q0) + m * (o1 - o0))) := by
  obtain ⟨r1, r2, r3, r4, -, -, -, -⟩ := hS
  obtain ⟨kx, ky, d0', e0', z0', R0', q0', S0', o0', hp', l1, l2, g1, g2, g3, g4⟩ := r1
  obtain ⟨rfl, rfl, rfl, rfl, rfl, rfl, rfl⟩ := pl_inj hp hp'
  obtain ⟨kx2, ky2, d2, e2, z2, R2, q2, S2, o2, hp2, l3, l4, g5, g6, g7, g8⟩ := r2
  obtain ⟨kx3, ky3, d3, e3, z3, R3, q3, S3, o3, hp3, l5, l6, g9, g10, g11, g12⟩ := r3
  obtain ⟨kx4, ky4, d4, e4, z4, R4, q4, S4, o4, hp4, l7, l8, g13, g14, g15, g16⟩ := r4
  refine ⟨pullX m d0 e0 q0 o0 + 2 * pullX m d2 e2 q2 o2 + 2 * pullX m d3 e3 q3 o3 + pullX m d4 e4 q4 o4, pullX m z0 z0 q0 o0 + 2 * pullX m z2 z2 q2 o2 + 2 * pullX m z3 z3 q3 o3 + pullX m z4 z4 q4 o4, ?_, ?_, ?_⟩
  · clear hl ub vb dd hr hrho t1 t2 g3 g4 g7 g8 g11 g12 g15 g16
    constructor <;> grind
  · clear hl ub vb dd hr hrho t1 t2 g1 g2 g5 g6 g9 g10 g13 g14
    constructor <;> grind
  · clear g1 g2 g3 g4 g5 g6 g7 g8 g9 g10 g11 g12 g13 g14 g15 g16 kx ky kx2 ky2 kx3 ky3 kx4 ky4
    obtain ⟨wal, wbe, -, -, x2, x3, x4, y2, y3, y4, dX, dY, -, -⟩ := hl
    obtain ⟨D1, D2, D3, D4, -, -, -, -⟩ := dd
    obtain ⟨i1, i2, i3⟩ := pl_zz hp
    obtain ⟨i4, i5, i6⟩ := pl_zz hp2
    obtain ⟨i7, i8, i9⟩ := pl_zz hp3
    obtain ⟨i10, i11, i12⟩ := pl_zz hp4
    obtain ⟨i13, i14, i15⟩ := pl_zz hq
    have nd := near_diffs i1 i13 i4 i7 i10 x2 x3 x4 D1 D2 dX
    have ne := near_diffs i2 i14 i5 i8 i11 x2 x3 x4 D1 D2 dX
    have nz := near_diffs i3 i15 i6 i9 i12 y2 y3 y4 D3 D4 dY
    have hr' : 10001 / 10000 * (DD.x + 2 / 1048576 + (DD.y + 2 / 1048576)) + 32 / 1048576 ≤ r := by clear t1 t2 hrho; grind
    rw [ww_id]
    refine two_work (by have := hs.lo; grind) (by have := hs.hi; grind) ?_ ?_
    · exact mass_work (k := k) (r := r) (Dx := DD.x + 2 / 1048576) (Dy := DD.y + 2 / 1048576) (ex := ex) (ey := ey) (fx := fx) (fy := fy) (rho := rho) (eta := eta) (ub := (P.u + Q.u) / 2) (vb := (P.v + Q.v) / 2) (U := B.u) (V := B.v)
        (a := K.x + 2 * L.x + 2 * M.x + N.x - 6 * ((P.u + Q.u) / 2)) (b := K.y + 2 * L.y + 2 * M.y + N.y - 6 * ((P.v + Q.v) / 2)) (al := al) (be := be)
        ⟨hp.p1, hp.i1, l1⟩ ⟨hp2.p1, hp2.i1, l3⟩ ⟨hp3.p1, hp3.i1, l5⟩ ⟨hp4.p1, hp4.i1, l7⟩ ⟨hq.p1, hq.i1, kq⟩ ⟨hp.r1, hp.r1'⟩ ⟨hp2.r1, hp2.r1'⟩ ⟨hp3.r1, hp3.r1'⟩ ⟨hp4.r1, hp4.r1'⟩ ⟨hq.r1, hq.r1'⟩ kk
        nd.a1 nd.a2 nz.a1 nz.a2 hr' nd.b1 nd.b2 nd.b3 nd.b4 nz.b1 nz.b2 nz.b3 nz.b4 exs eys nd.c1 nd.c2 nz.c1 nz.c2 hrho t1 t2 ub.1 ub.2 vb.1 vb.2 wal.1 wal.2 wbe.1 wbe.2 (by rw [w_eq]; exact nd.w1) (by rw [w_eq]; exact nd.w2) (by rw [w_eq]; exact nz.w1) (by rw [w_eq]; exact nz.w2)
    · exact mass_work (k := k) (r := r) (Dx := DD.x + 2 / 1048576) (Dy := DD.y + 2 / 1048576) (ex := ex) (ey := ey) (fx := fx) (fy := fy) (rho := rho) (eta := eta) (ub := (P.u + Q.u) / 2) (vb := (P.v + Q.v) / 2) (U := B.u) (V := B.v)
        (a := K.x + 2 * L.x + 2 * M.x + N.x - 6 * ((P.u + Q.u) / 2)) (b := K.y + 2 * L.y + 2 * M.y + N.y - 6 * ((P.v + Q.v) / 2)) (al := al) (be := be)
        ⟨hp.p2, hp.i2, l2⟩ ⟨hp2.p2, hp2.i2, l4⟩ ⟨hp3.p2, hp3.i2, l6⟩ ⟨hp4.p2, hp4.i2, l8⟩ ⟨hq.p2, hq.i2, ko⟩ ⟨hp.r2, hp.r2'⟩ ⟨hp2.r2, hp2.r2'⟩ ⟨hp3.r2, hp3.r2'⟩ ⟨hp4.r2, hp4.r2'⟩ ⟨hq.r2, hq.r2'⟩ kk
        ne.a1 ne.a2 nz.a1 nz.a2 hr' ne.b1 ne.b2 ne.b3 ne.b4 nz.b1 nz.b2 nz.b3 nz.b4 exs eys ne.c1 ne.c2 nz.c1 nz.c2 hrho t1 t2 ub.1 ub.2 vb.1 vb.2 wal.1 wal.2 wbe.1 wbe.2 (by rw [w_eq]; exact ne.w1) (by rw [w_eq]; exact ne.w2) (by rw [w_eq]; exact nz.w1) (by rw [w_eq]; exact nz.w2)
theorem energy_step {s : F32} {m k : Rat} {p : Sh} {h fx' fy' : F32} {P K P2 L P3 M P4 N Q A1 A2 A3 B DD : V4} {d0 e0 z0 R0 q0 S0 o0 d1 e1 z1 R1 q1 S1 o1 r ex ey fx fy rho eta al be ga de : Rat} (hs : Shr s m) (kk : k ≤ 11 / 10)
    (hS : Stg s m 1 k k p h P K P2 L P3 M P4 N Q) (hp : Pl s p.x p.y m P.x (1 * P.y) d0 e0 z0 R0 q0 S0 o0) (hq : Pl s fx' fy' m Q.x (1 * Q.y) d1 e1 z1 R1 q1 S1 o1) (kq : q1 ≤ k) (ko : o1 ≤ k)
    (a : Df A1 L K) (b : Df A2 M L) (c : Df A3 N M) (bP : Df B P zV) (bQ : Df B Q zV) (dd : Df DD Q P)
    (hr : 10001 / 10000 * (DD.x + DD.y + 4 / 1048576) + 32 / 1048576 ≤ r)
    (hex : (5 * A1.x + 3 * A2.x + A3.x) / 384 + 30 / 8388608 ≤ ex) (hey : (5 * A1.y + 3 * A2.y + A3.y) / 384 + 30 / 8388608 ≤ ey) (exs : ex ≤ 1 / 50) (eys : ey ≤ 1 / 50)
    (hfx : (A1.x + 3 * A2.x + A3.x) / 192 + 35 / 8388608 ≤ fx) (hfy : (A1.y + 3 * A2.y + A3.y) / 192 + 35 / 8388608 ≤ fy)
    (hrho : 41 / 10 * (ex + ey) + k / 2 * (((DD.x + 2 / 1048576) * (DD.x + 2 / 1048576) + (DD.y + 2 / 1048576) * (DD.y + 2 / 1048576)) / 2 + r * r + 124 / 1048576) ≤ rho)
    (t1 : etaOf k r (DD.x + 2 / 1048576) ex fx fy rho ≤ eta) (t2 : etaOf k r (DD.y + 2 / 1048576) ey fy fx rho ≤ eta)
    (hal : (A1.u + A2.u + A3.u) / 64 + 75 / 8388608 ≤ al) (hbe : (A1.v + A2.v + A3.v) / 64 + 75 / 8388608 ≤ be) (hga : (A1.x + A2.x + A3.x) / 64 + 75 / 8388608 ≤ ga) (hde : (A1.y + A2.y + A3.y) / 64 + 75 / 8388608 ≤ de) :
    enV m q1 o1 Q - enV m q0 o0 P ≤ ebOf k eta al be ga de B ∧ -(ebOf k eta al be ga de B) ≤ enV m q1 o1 Q - enV m q0 o0 P := by
  have hl := step_lin hS a b c hex hey hfx hfy hal hbe hga hde
  obtain ⟨P1, P2', P3', P4', P5, P6, P7, P8⟩ := bP
  obtain ⟨Q1, Q2, Q3, Q4, Q5, Q6, Q7, Q8⟩ := bQ
  unfold zV at P1 P2' P3' P4' P5 P6 P7 P8 Q1 Q2 Q3 Q4 Q5 Q6 Q7 Q8
  dsimp only at P1 P2' P3' P4' P5 P6 P7 P8 Q1 Q2 Q3 Q4 Q5 Q6 Q7 Q8
  have ub : (P.u + Q.u) / 2 ≤ B.u ∧ -B.u ≤ (P.u + Q.u) / 2 := by constructor <;> grind
  have vb : (P.v + Q.v) / 2 ≤ B.v ∧ -B.v ≤ (P.v + Q.v) / 2 := by constructor <;> grind
  have xb : (P.x + Q.x) / 2 ≤ B.x ∧ -B.x ≤ (P.x + Q.x) / 2 := by constructor <;> grind
  have yb : (P.y + Q.y) / 2 ≤ B.y ∧ -B.y ≤ (P.y + Q.y) / 2 := by constructor <;> grind
  obtain ⟨G, H, gu, gv, V5⟩ := step_work hs kk hS hl hp hq kq ko ub vb dd hr exs eys hrho t1 t2
  obtain ⟨wal, wbe, wga, wde, -, -, -, -, -, -, dX, dY, dU, dV⟩ := hl
  have T1 := ab_mul xb.2 xb.1 wal.2 wal.1
  have T2 := ab_mul ub.2 ub.1 wga.2 wga.1
  have T3 := ab_mul yb.2 yb.1 wbe.2 wbe.1
  have T4 := ab_mul vb.2 vb.1 wde.2 wde.1
  have T5 := ab_mul vb.2 vb.1 wal.2 wal.1
  have T6 := ab_mul ub.2 ub.1 wbe.2 wbe.1
  have T7 := ab_mul ub.2 ub.1 gu.2 gu.1
  have T8 := ab_mul vb.2 vb.1 gv.2 gv.1
  have T9 := ab_mul xb.2 xb.1 dX.2 dX.1
  have T10 := ab_mul yb.2 yb.1 dY.2 dY.1
  have T11 := ab_mul ub.2 ub.1 dU.2 dU.1
  have T12 := ab_mul vb.2 vb.1 dV.2 dV.1
  have id := en_id P.x P.y P.u P.v Q.x Q.y Q.u Q.v (K.x + 2 * L.x + 2 * M.x + N.x) (K.y + 2 * L.y + 2 * M.y + N.y) (K.u + 2 * L.u + 2 * M.u + N.u) (K.v + 2 * L.v + 2 * M.v + N.v) (P.x + 2 * P2.x + 2 * P3.x + P4.x) (P.y + 2 * P2.y + 2 * P3.y + P4.y) G H ((1 - m) * (q1 - q0) + m * (o1 - o0))
  have en : enV m q1 o1 Q - enV m q0 o0 P = Q.x * Q.x + Q.y * Q.y - Q.u * Q.u - Q.v * Q.v - (P.x * P.x + P.y * P.y - P.u * P.u - P.v * P.v) + 2 * ((1 - m) * (q1 - q0) + m * (o1 - o0)) := by
    unfold enV
    clear T1 T2 T3 T4 T5 T6 T7 T8 T9 T10 T11 T12 id V5 gu gv
    grind
  rw [en, id]
  refine en_fin T1 T2 T3 T4 T5 T6 T7 T8 T9 T10 T11 T12 V5 ?_
  unfold ebOf
  generalize (B.u + B.v) * eta + 10001 / 10000 * (k * k) * (al + be + 1 / 800) + k * k * k * (1 / 170) = WB
  clear T1 T2 T3 T4 T5 T6 T7 T8 T9 T10 T11 T12 V5 id en wal wbe wga wde gu gv dX dY dU dV xb yb ub vb P1 P2' P3' P4' P5 P6 P7 P8 Q1 Q2 Q3 Q4 Q5 Q6 Q7 Q8
  grind
end Go.Proofs.Ytlpahmefebgdlaa.Fx
/- Flights forth and back in boxes; the constant along a flight. No condition. -/
namespace Go.Proofs.Ytlpahmefebgdlaa.Fx
open Go

def mx (a b : Rat) : Rat := if a ≤ b then b else a
theorem mx_le (a b : Rat) : a ≤ mx a b ∧ b ≤ mx a b := by
  unfold mx
  split
  · constructor <;> grind
  · constructor <;> grind
def bMag (b : Bx) : V4 := ⟨mx (-b.xl) b.xh, mx (-b.yl) b.yh, mx (-b.ul) b.uh, mx (-b.vl) b.vh⟩
theorem df_mag {b : Bx} {K : V4} (h : In b K) : Df (bMag b) K zV := by
  obtain ⟨h1, h2, h3, h4, h5, h6, h7, h8⟩ := h
  have a := mx_le (-b.xl) b.xh
  have c := mx_le (-b.yl) b.yh
  have d := mx_le (-b.ul) b.uh
  have e := mx_le (-b.vl) b.vh
  unfold bMag zV
  generalize mx (-b.xl) b.xh = m1 at *
  generalize mx (-b.yl) b.yh = m2 at *
  generalize mx (-b.ul) b.uh = m3 at *
  generalize mx (-b.vl) b.vh = m4 at *
  constructor <;> dsimp only <;> grind
def nineB : Bx := ⟨-(99 / 10), 99 / 10, -(99 / 10), 99 / 10, -(99 / 10), 99 / 10, -(99 / 10), 99 / 10⟩
theorem lt_nine {K : V4} (h : In nineB K) : Lt (99 / 10) K := by
  obtain ⟨h1, h2, h3, h4, h5, h6, h7, h8⟩ := h
  exact ⟨h1, h2, h3, h4, h5, h6, h7, h8⟩
/-- A step of the forward flight: what is checked of its boxes. -/
def chkF (xa xb ya yb gl gh c : Rat) (b b' : Bx) : Bool :=
  chk xa xb ya yb gl gh c b b' && (bIn b (zC xa xb ya yb) && (bIn (b2 gl gh c b) (zC xa xb ya yb) && (bIn (b3 gl gh c b) (zC xa xb ya yb) && (bIn b' (zC xa xb ya yb) && (bIn (bK gl gh c b) nineB && (bIn (bL gl gh c b) nineB && (bIn (bM gl gh c b) nineB && bIn (bN gl gh c b) nineB)))))))
def chkFN (xa xb ya yb gl gh c : Rat) (bx : Nat → Bx) : Nat → Bool
  | 0 => true
  | n + 1 => chkFN xa xb ya yb gl gh c bx n && chkF xa xb ya yb gl gh c (bx n) (bx (n + 1))
theorem chkFN_at {xa xb ya yb gl gh c : Rat} {bx : Nat → Bx} : ∀ {n : Nat}, chkFN xa xb ya yb gl gh c bx n = true → ∀ k, k < n → chkF xa xb ya yb gl gh c (bx k) (bx (k + 1)) = true
  | 0, _, k, hk => by omega
  | n + 1, h, k, hk => by
    unfold chkFN at h
    rw [Bool.and_eq_true] at h
    by_cases hkn : k < n
    · exact chkFN_at h.1 k hkn
    · have : k = n := by omega
      subst this; exact h.2
/-- What is known of a step. -/
structure Fst (s : F32) (m xa xb ya yb gl gh c k1 k2 : Rat) (p : Sh) (h : F32) (b : Bx) (P Q : V4) (K P2 L P3 M P4 N : V4) : Prop where
  st : Stg s m 1 k1 k2 p h P K P2 L P3 M P4 N Q
  z1 : In (zC xa xb ya yb) P
  z2 : In (zC xa xb ya yb) P2
  z3 : In (zC xa xb ya yb) P3
  zq : In (zC xa xb ya yb) Q
  bK : In (bK gl gh c b) K
  bL : In (bL gl gh c b) L
  bM : In (bM gl gh c b) M
  bN : In (bN gl gh c b) N
  lk : Lt (99 / 10) K
  ll : Lt (99 / 10) L
  lm : Lt (99 / 10) M
  ln : Lt (99 / 10) N
theorem flight_fst {s : F32} {m xa xb ya yb gl gh c k1 k2 : Rat} {p : Sh} {h : F32} {P : V4} {bx : Nat → Bx} (hs : Shr s m) (hz : Zone m xa xb ya yb gl gh c k1 k2) (c1 : c ≤ 1 / 2) (ht : Tick h) (hf : finS h = true) (hp : HasG 1 p P) (hb : In (bx 0) P) :
    ∀ n, chkFN xa xb ya yb gl gh c bx n = true → ∃ Q : Nat → V4, Q 0 = P ∧ (∀ k, k ≤ n → HasG 1 (flS s h k p) (Q k) ∧ In (bx k) (Q k)) ∧
      (∀ k, k < n → stQ s (flS s h k p) h = true ∧ ∃ K P2 L P3 M P4 N, Fst s m xa xb ya yb gl gh c k1 k2 (flS s h k p) h (bx k) (Q k) (Q (k + 1)) K P2 L P3 M P4 N)
  | 0, _ => ⟨fun _ => P, rfl, fun k hk => by
      have : k = 0 := by omega
      subst this; exact ⟨hp, hb⟩, fun k hk => by omega⟩
  | n + 1, hc => by
    unfold chkFN chkF at hc
    simp only [Bool.and_eq_true] at hc
    obtain ⟨h1, h2, h3, h4, h5, h6, h7, h8, h9, h10⟩ := hc
    obtain ⟨Q, e, g1, g2⟩ := flight_fst hs hz c1 ht hf hp hb n h1
    obtain ⟨a1, a2⟩ := g1 n (Nat.le_refl n)
    obtain ⟨hst, K, P2, L, P3, M, P4, N, R, hS, hR, hi, iK, iL, iM, iN⟩ := step_box hs hz c1 ht hf a1 a2 h2
    refine ⟨fun k => if k ≤ n then Q k else R, by simp [e], fun k hk => ?_, fun k hk => ?_⟩
    · by_cases hkn : k ≤ n
      · simp only [if_pos hkn]; exact g1 k hkn
      · have : k = n + 1 := by omega
        subst this
        simp only [if_neg hkn]
        exact ⟨hR, hi⟩
    · by_cases hkn : k < n
      · simp only [if_pos (Nat.le_of_lt hkn), if_pos (show k + 1 ≤ n by omega)]
        exact g2 k hkn
      · have : k = n := by omega
        subst this
        simp only [if_pos (Nat.le_refl k), if_neg (show ¬(k + 1 ≤ k) by omega)]
        have m2 := hS.m2
        have m3 := hS.m3
        rw [show (1 : Rat) / 64 = 1 / 64 from rfl] at m2 m3
        exact ⟨hst, K, P2, L, P3, M, P4, N, hS, in_in h3 a2, in_in h4 (in_mv (by grind) a2 iK m2), in_in h5 (in_mv (by grind) a2 iL m3), in_in h6 hi, iK, iL, iM, iN, lt_nine (in_in h7 iK), lt_nine (in_in h8 iL), lt_nine (in_in h9 iM), lt_nine (in_in h10 iN)⟩
/-- The rates' differences of a step. -/
def sA1 (gl gh c : Rat) (b : Bx) : V4 := hA1 c (bMag (bK gl gh c b))
def sA2 (gl gh c : Rat) (b : Bx) : V4 := hA2 c (sA1 gl gh c b)
def sA3 (gl gh c : Rat) (b : Bx) : V4 := hA3 c (sA2 gl gh c b) (bMag (bM gl gh c b))
theorem fst_rates {s : F32} {m xa xb ya yb gl gh c k1 k2 : Rat} {p : Sh} {h : F32} {b : Bx} {P Q K P2 L P3 M P4 N : V4} (hs : Shr s m) (hz : Zone m xa xb ya yb gl gh c k1 k2) (c1 : c ≤ 1 / 2) (hF : Fst s m xa xb ya yb gl gh c k1 k2 p h b P Q K P2 L P3 M P4 N) :
    Df (sA1 gl gh c b) L K ∧ Df (sA2 gl gh c b) M L ∧ Df (sA3 gl gh c b) N M :=
  stages hs (.inl rfl) hz.c c1 hF.st (df_mag hF.bK) (df_mag hF.bM)
/-- Steps back. -/
def chkB (gl gh c : Rat) (b : Bx) (D D' : V4) : Bool := hOk c D' (sA1 gl gh c b) (sA2 gl gh c b) (sA3 gl gh c b) && dIn (hBack c D' (sA1 gl gh c b) (sA2 gl gh c b) (sA3 gl gh c b)) D
theorem home_back {s : F32} {m xa xb ya yb gl gh c k1 k2 : Rat} {p t : Sh} {h : F32} {T : V4} {bx : Nat → Bx} {Q D : Nat → V4} (hs : Shr s m) (hz : Zone m xa xb ya yb gl gh c k1 k2) (c1 : c ≤ 1 / 2) (ht : Tick h) (hf : finS h = true) {n : Nat}
    (hF : ∀ k, k < n → ∃ K P2 L P3 M P4 N, Fst s m xa xb ya yb gl gh c k1 k2 (flS s h k p) h (bx k) (Q k) (Q (k + 1)) K P2 L P3 M P4 N) (hB : ∀ k, k < n → chkB gl gh c (bx k) (D k) (D (k + 1)) = true)
    (hT : HasG (-1) t T) (hD : Df (D n) T (Q n)) : ∀ j, j ≤ n → ∃ R, HasG (-1) (flS s h j t) R ∧ Df (D (n - j)) R (Q (n - j)) ∧ ∀ i, i < j → stQ s (flS s h i t) h = true
  | 0, _ => ⟨T, hT, hD, fun i hi => by omega⟩
  | j + 1, hj => by
    obtain ⟨R, h1, h2, h3⟩ := home_back hs hz c1 ht hf hF hB hT hD j (by omega)
    have e : n - j = (n - (j + 1)) + 1 := by omega
    rw [e] at h2
    obtain ⟨K, P2, L, P3, M, P4, N, hS⟩ := hF (n - (j + 1)) (by omega)
    have hc := hB (n - (j + 1)) (by omega)
    unfold chkB at hc
    rw [Bool.and_eq_true] at hc
    obtain ⟨A, B, C⟩ := fst_rates hs hz c1 hS
    obtain ⟨g1, T', g2, g3⟩ := back_step hs hz c1 ht hf hS.st hS.z1 hS.z2 hS.z3 hS.zq hS.lk hS.ll hS.lm hS.ln A B C h1 h2 hc.1
    refine ⟨T', g2, df_in hc.2 g3, fun i hi => ?_⟩
    by_cases hij : i < j
    · exact h3 i hij
    · have : i = j := by omega
      subst this; exact g1
/-- The constant's change in a step. -/
def eDD (gl gh c : Rat) (b : Bx) : V4 := v4 fun p => p (bMag (bS gl gh c b)) / 192 + 10 / 8388608
def eR (DD : V4) : Rat := 10001 / 10000 * (DD.x + DD.y + 4 / 1048576) + 32 / 1048576
def eXX (p : V4 → Rat) (A1 A2 A3 : V4) : Rat := (5 * p A1 + 3 * p A2 + p A3) / 384 + 30 / 8388608
def eFX (p : V4 → Rat) (A1 A2 A3 : V4) : Rat := (p A1 + 3 * p A2 + p A3) / 192 + 35 / 8388608
def eAl (p : V4 → Rat) (A1 A2 A3 : V4) : Rat := (p A1 + p A2 + p A3) / 64 + 75 / 8388608
def eRho (k : Rat) (DD : V4) (ex ey r : Rat) : Rat := 41 / 10 * (ex + ey) + k / 2 * (((DD.x + 2 / 1048576) * (DD.x + 2 / 1048576) + (DD.y + 2 / 1048576) * (DD.y + 2 / 1048576)) / 2 + r * r + 124 / 1048576)
def eEta (k : Rat) (DD : V4) (r ex ey fx fy rho : Rat) : Rat := mx (etaOf k r (DD.x + 2 / 1048576) ex fx fy rho) (etaOf k r (DD.y + 2 / 1048576) ey fy fx rho)
def eSt2 (k : Rat) (DD A1 A2 A3 B : V4) (r ex ey : Rat) : Rat :=
  ebOf k (eEta k DD r ex ey (eFX V4.x A1 A2 A3) (eFX V4.y A1 A2 A3) (eRho k DD ex ey r)) (eAl V4.u A1 A2 A3) (eAl V4.v A1 A2 A3) (eAl V4.x A1 A2 A3) (eAl V4.y A1 A2 A3) B
def eSt (k : Rat) (DD A1 A2 A3 B : V4) : Rat := eSt2 k DD A1 A2 A3 B (eR DD) (eXX V4.x A1 A2 A3) (eXX V4.y A1 A2 A3)
def mx4 (A B : V4) : V4 := ⟨mx A.x B.x, mx A.y B.y, mx A.u B.u, mx A.v B.v⟩
def chkE (k gl gh c : Rat) (b b' : Bx) (e : Rat) : Bool :=
  decide (eXX V4.x (sA1 gl gh c b) (sA2 gl gh c b) (sA3 gl gh c b) ≤ 1 / 50) && (decide (eXX V4.y (sA1 gl gh c b) (sA2 gl gh c b) (sA3 gl gh c b) ≤ 1 / 50) &&
    decide (eSt k (eDD gl gh c b) (sA1 gl gh c b) (sA2 gl gh c b) (sA3 gl gh c b) (mx4 (bMag b) (bMag b')) ≤ e))
theorem df_mx {A B P : V4} (h : Df A P zV) : Df (mx4 A B) P zV ∧ Df (mx4 B A) P zV := by
  obtain ⟨h1, h2, h3, h4, h5, h6, h7, h8⟩ := h
  have a := mx_le A.x B.x
  have b := mx_le A.y B.y
  have c := mx_le A.u B.u
  have d := mx_le A.v B.v
  have a' := mx_le B.x A.x
  have b' := mx_le B.y A.y
  have c' := mx_le B.u A.u
  have d' := mx_le B.v A.v
  unfold mx4
  constructor
  · constructor <;> dsimp only <;> grind
  · constructor <;> dsimp only <;> grind
theorem df_dd {P Q S : V4} {b : Bx} {gl gh c : Rat} (hm : Mv P S (1 / 192) (5 / 4194304) Q) (hi : In (bS gl gh c b) S) : Df (eDD gl gh c b) Q P := by
  have h := df_mag hi
  obtain ⟨h1, h2, h3, h4, h5, h6, h7, h8⟩ := h
  obtain ⟨m1, m2, m3, m4, m5, m6, m7, m8⟩ := hm
  unfold eDD v4
  unfold zV at h1 h2 h3 h4 h5 h6 h7 h8
  dsimp only at h1 h2 h3 h4 h5 h6 h7 h8
  generalize bMag (bS gl gh c b) = B at *
  constructor <;> dsimp only <;> grind
theorem energy_fst {s : F32} {m xa xb ya yb gl gh c k : Rat} {p : Sh} {h fx' fy' : F32} {b b' : Bx} {P Q K P2 L P3 M P4 N : V4} {d0 e0 z0 R0 q0 S0 o0 d1 e1 z1 R1 q1 S1 o1 e : Rat} (hs : Shr s m) (hz : Zone m xa xb ya yb gl gh c k k) (c1 : c ≤ 1 / 2) (kk : k ≤ 11 / 10) (hF : Fst s m xa xb ya yb gl gh c k k p h b P Q K P2 L P3 M P4 N)
    (hb : In b P) (hb' : In b' Q) (hp : Pl s p.x p.y m P.x (1 * P.y) d0 e0 z0 R0 q0 S0 o0) (hq : Pl s fx' fy' m Q.x (1 * Q.y) d1 e1 z1 R1 q1 S1 o1) (kq : q1 ≤ k) (ko : o1 ≤ k) (hE : chkE k gl gh c b b' e = true) :
    enV m q1 o1 Q - enV m q0 o0 P ≤ e ∧ -e ≤ enV m q1 o1 Q - enV m q0 o0 P := by
  unfold chkE at hE
  simp only [Bool.and_eq_true, decide_eq_true_eq] at hE
  obtain ⟨g1, g2, g3⟩ := hE
  obtain ⟨A, B, C⟩ := fst_rates hs hz c1 hF
  have dd := df_dd hF.st.fn (in_sum hF.bK hF.bL hF.bM hF.bN)
  have key := energy_step (ex := eXX V4.x (sA1 gl gh c b) (sA2 gl gh c b) (sA3 gl gh c b)) (ey := eXX V4.y (sA1 gl gh c b) (sA2 gl gh c b) (sA3 gl gh c b)) (r := eR (eDD gl gh c b)) (fx := eFX V4.x (sA1 gl gh c b) (sA2 gl gh c b) (sA3 gl gh c b)) (fy := eFX V4.y (sA1 gl gh c b) (sA2 gl gh c b) (sA3 gl gh c b))
    hs kk hF.st hp hq kq ko A B C (df_mx (df_mag hb)).1 (df_mx (df_mag hb')).2 dd Rat.le_refl Rat.le_refl Rat.le_refl g1 g2 Rat.le_refl Rat.le_refl Rat.le_refl (mx_le _ _).1 (mx_le _ _).2 Rat.le_refl Rat.le_refl Rat.le_refl Rat.le_refl
  have key2 : enV m q1 o1 Q - enV m q0 o0 P ≤ eSt k (eDD gl gh c b) (sA1 gl gh c b) (sA2 gl gh c b) (sA3 gl gh c b) (mx4 (bMag b) (bMag b')) ∧ -(eSt k (eDD gl gh c b) (sA1 gl gh c b) (sA2 gl gh c b) (sA3 gl gh c b) (mx4 (bMag b) (bMag b'))) ≤ enV m q1 o1 Q - enV m q0 o0 P := key
  generalize eSt k (eDD gl gh c b) (sA1 gl gh c b) (sA2 gl gh c b) (sA3 gl gh c b) (mx4 (bMag b) (bMag b')) = X at *
  constructor <;> grind
/-- The constant along a flight. -/
theorem energy_flight {s : F32} {m xa xb ya yb gl gh c k : Rat} {p : Sh} {h : F32} {bx : Nat → Bx} {Q : Nat → V4} {E : Nat → Rat} (hs : Shr s m) (hz : Zone m xa xb ya yb gl gh c k k) (c1 : c ≤ 1 / 2) (kk : k ≤ 11 / 10) {n : Nat}
    (hQ : ∀ j, j ≤ n → HasG 1 (flS s h j p) (Q j) ∧ In (bx j) (Q j)) (hF : ∀ j, j < n → ∃ K P2 L P3 M P4 N, Fst s m xa xb ya yb gl gh c k k (flS s h j p) h (bx j) (Q j) (Q (j + 1)) K P2 L P3 M P4 N)
    (hR : ∀ j, j ≤ n → InR xa xb ya yb (Q j)) (hE : ∀ j, j < n → chkE k gl gh c (bx j) (bx (j + 1)) (E (j + 1) - E j) = true) (h0 : E 0 = 0) {d0 e0 z0 R0 q0 S0 o0 : Rat} (hp : Pl s p.x p.y m (Q 0).x (1 * (Q 0).y) d0 e0 z0 R0 q0 S0 o0) :
    ∀ j, j ≤ n → ∀ {d1 e1 z1 R1 q1 S1 o1 : Rat}, Pl s (flS s h j p).x (flS s h j p).y m (Q j).x (1 * (Q j).y) d1 e1 z1 R1 q1 S1 o1 → enV m q1 o1 (Q j) - enV m q0 o0 (Q 0) ≤ E j ∧ -(E j) ≤ enV m q1 o1 (Q j) - enV m q0 o0 (Q 0)
  | 0, _, _, _, _, _, _, _, _, hq => by
    obtain ⟨rfl, rfl, rfl, rfl, rfl, rfl, rfl⟩ := pl_inj hp hq
    rw [h0]
    constructor <;> grind
  | j + 1, hj, d1, e1, z1, R1, q1, S1, o1, hq => by
    obtain ⟨x1, x2, y1, y2, -, -, -, -⟩ := hR j (by omega)
    obtain ⟨hg, hb⟩ := hQ j (by omega)
    obtain ⟨-, d2, e2, z2, R2, q2, S2, o2, hq2⟩ := place_has hs hg.x hg.y (by have := hz.x1; grind) (by have := hz.x2; grind) (by have := hz.y1; grind) (by have := hz.y2; grind) (by rw [Rat.one_mul]; exact hz.f1 _ _ x1 x2 y1 y2) (by rw [Rat.one_mul]; exact hz.f2 _ _ x1 x2 y1 y2)
    obtain ⟨i1, i2⟩ := energy_flight hs hz c1 kk hQ hF hR hE h0 hp j (by omega) hq2
    obtain ⟨x1', x2', y1', y2', -, -, -, -⟩ := hR (j + 1) hj
    obtain ⟨k1, k2, -, -⟩ := hz.kk (.inl rfl) x1' x2' y1' y2' hq
    obtain ⟨K, P2, L, P3, M, P4, N, hS⟩ := hF j (by omega)
    obtain ⟨w1, w2⟩ := energy_fst hs hz c1 kk hS hb (hQ (j + 1) hj).2 hq2 hq k1 k2 (hE j (by omega))
    constructor <;> grind
end Go.Proofs.Ytlpahmefebgdlaa.Fx
