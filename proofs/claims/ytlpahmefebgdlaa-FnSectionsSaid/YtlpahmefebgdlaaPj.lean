/- Texts put together: Kd, Ke, Tb, Kf, Em, Tc, Td. No condition. -/
import Derived.Test.YtlpahmefebgdlaaPi
/- Ships' steps: what they are worth, in boxes and in pairs. No condition. -/
namespace Go.Proofs.Ytlpahmefebgdlaa.Fx
open Go

/-- A place moved by a number times a rate. -/
structure Mv (P K : V4) (H u : Rat) (Q : V4) : Prop where
  x1 : Q.x ≤ P.x + H * K.x + u
  x2 : P.x + H * K.x ≤ Q.x + u
  y1 : Q.y ≤ P.y + H * K.y + u
  y2 : P.y + H * K.y ≤ Q.y + u
  u1 : Q.u ≤ P.u + H * K.u + u
  u2 : P.u + H * K.u ≤ Q.u + u
  v1 : Q.v ≤ P.v + H * K.v + u
  v2 : P.v + H * K.v ≤ Q.v + u
/-- No part is greater than B. -/
structure Lt (B : Rat) (K : V4) : Prop where
  x1 : -B ≤ K.x
  x2 : K.x ≤ B
  y1 : -B ≤ K.y
  y2 : K.y ≤ B
  u1 : -B ≤ K.u
  u2 : K.u ≤ B
  v1 : -B ≤ K.v
  v2 : K.v ≤ B
theorem mv1 {x r h : F32} {a k H : Rat} (hx : HasS x a) (hr : HasS r k) (hh : HasS h H) (H0 : 0 ≤ H) (H1 : H ≤ 1 / 32) (a1 : -8 ≤ a) (a2 : a ≤ 8) (k1 : -64 ≤ k) (k2 : k ≤ 64) :
    ∃ v, HasS (x + r * h) v ∧ v ≤ a + k * H + 9 / 8388608 ∧ a + k * H ≤ v + 9 / 8388608 := by
  have m := ab_mul (a := k) (b := H) (A := 64) (B := 1 / 32) k1 k2 (by grind) H1
  obtain ⟨q, hq, q1, q2⟩ := mulE 1 2 (1 / 8388608) (by decide +kernel) (by decide +kernel) (by decide) (by decide) hr hh (by grind) (by grind)
  obtain ⟨v, hv, v1, v2⟩ := addE 4 16 (1 / 1048576) (by decide +kernel) (by decide +kernel) (by decide) (by decide) hx hq (by grind) (by grind)
  exact ⟨v, hv, by grind, by grind⟩
theorem mv_has {g H : Rat} {p r : Sh} {h : F32} {P K : V4} (hg : g = 1 ∨ g = -1) (hp : HasG g p P) (hr : RateG g r K) (hh : HasS h H) (H0 : 0 ≤ H) (H1 : H ≤ 1 / 32) (lp : Lt 8 P) (lk : Lt 64 K) :
    ∃ Q, HasG g (p.mv h r) Q ∧ Mv P K (g * H) (9 / 8388608) Q := by
  obtain ⟨p1, p2, p3, p4, p5, p6, p7, p8⟩ := lp
  obtain ⟨k1, k2, k3, k4, k5, k6, k7, k8⟩ := lk
  obtain ⟨X, hX, X1, X2⟩ := mv1 hp.x hr.x hh H0 H1 p1 p2 (by rcases hg with rfl | rfl <;> grind) (by rcases hg with rfl | rfl <;> grind)
  obtain ⟨Y, hY, Y1, Y2⟩ := mv1 hp.y hr.y hh H0 H1 (by rcases hg with rfl | rfl <;> grind) (by rcases hg with rfl | rfl <;> grind) k3 k4
  obtain ⟨U, hU, U1, U2⟩ := mv1 hp.u hr.u hh H0 H1 (by rcases hg with rfl | rfl <;> grind) (by rcases hg with rfl | rfl <;> grind) k5 k6
  obtain ⟨V, hV, V1, V2⟩ := mv1 hp.v hr.v hh H0 H1 p7 p8 (by rcases hg with rfl | rfl <;> grind) (by rcases hg with rfl | rfl <;> grind)
  have gg : ∀ a : Rat, g * (g * a) = a := fun a => by rcases hg with rfl | rfl <;> grind
  refine ⟨⟨X, g * Y, g * U, V⟩, ⟨hX, ?_, ?_, hV⟩, ?_⟩
  · show HasS _ (g * (g * Y)); rw [gg]; exact hY
  · show HasS _ (g * (g * U)); rw [gg]; exact hU
  · constructor <;> dsimp only <;> rcases hg with rfl | rfl <;> grind
/-- The weighted sum of rates. -/
theorem sum1 {k l m n : F32} {K L M N : Rat} (hk : HasS k K) (hl : HasS l L) (hm : HasS m M) (hn : HasS n N) (k1 : -10 ≤ K) (k2 : K ≤ 10) (l1 : -10 ≤ L) (l2 : L ≤ 10) (m1 : -10 ≤ M) (m2 : M ≤ 10) (n1 : -10 ≤ N) (n2 : N ≤ 10) :
    ∃ S, HasS (k + l * two32 + m * two32 + n) S ∧ S ≤ K + 2 * L + 2 * M + N + 16 / 1048576 ∧ K + 2 * L + 2 * M + N ≤ S + 16 / 1048576 := by
  obtain ⟨a, ha, a1, a2⟩ := mulE 5 32 (1 / 524288) (by decide +kernel) (by decide +kernel) (by decide) (by decide) hl two_hasS (by grind) (by grind)
  obtain ⟨b, hb, b1, b2⟩ := mulE 5 32 (1 / 524288) (by decide +kernel) (by decide +kernel) (by decide) (by decide) hm two_hasS (by grind) (by grind)
  obtain ⟨c, hc, c1, c2⟩ := addE 6 64 (1 / 262144) (by decide +kernel) (by decide +kernel) (by decide) (by decide) hk ha (by grind) (by grind)
  obtain ⟨d, hd, d1, d2⟩ := addE 6 64 (1 / 262144) (by decide +kernel) (by decide +kernel) (by decide) (by decide) hc hb (by grind) (by grind)
  obtain ⟨e, he, e1, e2⟩ := addE 6 64 (1 / 262144) (by decide +kernel) (by decide +kernel) (by decide) (by decide) hd hn (by grind) (by grind)
  exact ⟨e, he, by grind, by grind⟩
def vSum (K L M N : V4) : V4 := ⟨K.x + 2 * L.x + 2 * M.x + N.x, K.y + 2 * L.y + 2 * M.y + N.y, K.u + 2 * L.u + 2 * M.u + N.u, K.v + 2 * L.v + 2 * M.v + N.v⟩
theorem sum_has {g : Rat} {k l m n : Sh} {K L M N : V4} (hg : g = 1 ∨ g = -1) (hk : RateG g k K) (hl : RateG g l L) (hm : RateG g m M) (hn : RateG g n N) (lk : Lt 10 K) (ll : Lt 10 L) (lm : Lt 10 M) (ln : Lt 10 N) :
    ∃ S, RateG g (((k.pl l.tw).pl m.tw).pl n) S ∧ Mv (vSum K L M N) ⟨0, 0, 0, 0⟩ 0 (16 / 1048576) S := by
  obtain ⟨p1, p2, p3, p4, p5, p6, p7, p8⟩ := lk
  obtain ⟨q1, q2, q3, q4, q5, q6, q7, q8⟩ := ll
  obtain ⟨r1, r2, r3, r4, r5, r6, r7, r8⟩ := lm
  obtain ⟨s1, s2, s3, s4, s5, s6, s7, s8⟩ := ln
  have gb : ∀ a : Rat, -10 ≤ a → a ≤ 10 → -10 ≤ g * a ∧ g * a ≤ 10 := fun a h1 h2 => by rcases hg with rfl | rfl <;> constructor <;> grind
  obtain ⟨X, hX, X1, X2⟩ := sum1 hk.x hl.x hm.x hn.x (gb _ p1 p2).1 (gb _ p1 p2).2 (gb _ q1 q2).1 (gb _ q1 q2).2 (gb _ r1 r2).1 (gb _ r1 r2).2 (gb _ s1 s2).1 (gb _ s1 s2).2
  obtain ⟨Y, hY, Y1, Y2⟩ := sum1 hk.y hl.y hm.y hn.y p3 p4 q3 q4 r3 r4 s3 s4
  obtain ⟨U, hU, U1, U2⟩ := sum1 hk.u hl.u hm.u hn.u p5 p6 q5 q6 r5 r6 s5 s6
  obtain ⟨V, hV, V1, V2⟩ := sum1 hk.v hl.v hm.v hn.v (gb _ p7 p8).1 (gb _ p7 p8).2 (gb _ q7 q8).1 (gb _ q7 q8).2 (gb _ r7 r8).1 (gb _ r7 r8).2 (gb _ s7 s8).1 (gb _ s7 s8).2
  have gg : ∀ a : Rat, g * (g * a) = a := fun a => by rcases hg with rfl | rfl <;> grind
  refine ⟨⟨g * X, Y, U, g * V⟩, ⟨?_, hY, hU, ?_⟩, ?_⟩
  · show HasS _ (g * (g * X)); rw [gg]; exact hX
  · show HasS _ (g * (g * V)); rw [gg]; exact hV
  · unfold vSum
    constructor <;> dsimp only <;> rcases hg with rfl | rfl <;> grind
/-- The tick: 1/32, its half and its sixth. -/
structure Tick (h : F32) : Prop where
  h1 : HasS h (1 / 32)
  h2 : HasS (h / two32) (1 / 64)
  h6 : HasS (h / six32) (11184811 / 2147483648)
theorem fin_has {g : Rat} {p k l m n : Sh} {h : F32} {P K L M N : V4} (ht : Tick h) (hg : g = 1 ∨ g = -1) (hp : HasG g p P) (hk : RateG g k K) (hl : RateG g l L) (hm : RateG g m M) (hn : RateG g n N) (lp : Lt 8 P) (lk : Lt 10 K) (ll : Lt 10 L) (lm : Lt 10 M) (ln : Lt 10 N) :
    ∃ Q, HasG g (p.mv (h / six32) (((k.pl l.tw).pl m.tw).pl n)) Q ∧ Mv P (vSum K L M N) (g / 192) (5 / 4194304) Q := by
  obtain ⟨S, hS, m1, m2, m3, m4, m5, m6, m7, m8⟩ := sum_has hg hk hl hm hn lk ll lm ln
  obtain ⟨p1, p2, p3, p4, p5, p6, p7, p8⟩ := lk
  obtain ⟨q1, q2, q3, q4, q5, q6, q7, q8⟩ := ll
  obtain ⟨r1, r2, r3, r4, r5, r6, r7, r8⟩ := lm
  obtain ⟨s1, s2, s3, s4, s5, s6, s7, s8⟩ := ln
  unfold vSum at m1 m2 m3 m4 m5 m6 m7 m8
  dsimp only at m1 m2 m3 m4 m5 m6 m7 m8
  obtain ⟨Q, hQ, n1, n2, n3, n4, n5, n6, n7, n8⟩ := mv_has hg hp hS ht.h6 (by grind) (by grind) lp (by constructor <;> grind)
  refine ⟨Q, hQ, ?_⟩
  unfold vSum
  constructor <;> dsimp only <;> rcases hg with rfl | rfl <;> grind
/-- A rate at a place: what it is worth; k1, k2 bound the inverse distances. -/
structure Ra (s : F32) (m g k1 k2 : Rat) (p : Sh) (P K : V4) : Prop where
  kx : K.x = P.u
  ky : K.y = P.v
  pl : ∃ d e z R1 q1 R2 q2, Pl s p.x p.y m P.x (g * P.y) d e z R1 q1 R2 q2 ∧ q1 ≤ k1 ∧ q2 ≤ k2 ∧
      K.u ≤ 2 * P.v + P.x - pullX m d e q1 q2 + 1 / 2000 ∧ 2 * P.v + P.x - pullX m d e q1 q2 ≤ K.u + 1 / 2000 ∧
      K.v ≤ -2 * P.u + P.y - g * pullX m z z q1 q2 + 1 / 2000 ∧ -2 * P.u + P.y - g * pullX m z z q1 q2 ≤ K.v + 1 / 2000
/-- A rectangle of places: how great pulls are there. -/
structure Zone (m xa xb ya yb gl gh c k1 k2 : Rat) : Prop where
  x1 : -8 ≤ xa
  x2 : xb ≤ 8
  y1 : -8 ≤ ya
  y2 : yb ≤ 8
  f1 : ∀ x y : Rat, xa ≤ x → x ≤ xb → ya ≤ y → y ≤ yb → 1 ≤ (x + m) * (x + m) + y * y
  f2 : ∀ x y : Rat, xa ≤ x → x ≤ xb → ya ≤ y → y ≤ yb → 1 ≤ (x - 1 + m) * (x - 1 + m) + y * y
  kk : ∀ {s fx fy : F32} {g X Y d e z R1 q1 R2 q2 : Rat}, g = 1 ∨ g = -1 → xa ≤ X → X ≤ xb → ya ≤ Y → Y ≤ yb → Pl s fx fy m X (g * Y) d e z R1 q1 R2 q2 → q1 ≤ k1 ∧ q2 ≤ k2 ∧ gl ≤ pullX m d e q1 q2 ∧ pullX m d e q1 q2 ≤ gh
  c : (1 - m) * (k1 * k1 * k1) + m * (k2 * k2 * k2) ≤ c
/-- In a rectangle, not too fast. -/
structure InR (xa xb ya yb : Rat) (P : V4) : Prop where
  x1 : xa ≤ P.x
  x2 : P.x ≤ xb
  y1 : ya ≤ P.y
  y2 : P.y ≤ yb
  u1 : -8 ≤ P.u
  u2 : P.u ≤ 8
  v1 : -8 ≤ P.v
  v2 : P.v ≤ 8
theorem acc_zone {s : F32} {m g xa xb ya yb gl gh c k1 k2 : Rat} {p : Sh} {P : V4} (hs : Shr s m) (hz : Zone m xa xb ya yb gl gh c k1 k2) (hg : g = 1 ∨ g = -1) (hp : HasG g p P) (hr : InR xa xb ya yb P) :
    accQ s p = true ∧ Lt 8 P ∧ ∃ K, Ra s m g k1 k2 p P K ∧ RateG g (acc s p) K ∧
      K.u ≤ 2 * P.v + P.x - gl + 1 / 2000 ∧ 2 * P.v + P.x - gh ≤ K.u + 1 / 2000 := by
  obtain ⟨x1, x2, y1, y2, u1, u2, v1, v2⟩ := hr
  obtain ⟨z1, z2, z3, z4, f1, f2, hk, -⟩ := hz
  obtain ⟨hq, d, e, z, R1, q1, R2, q2, K, hP, hK, e1, e2, a1, a2, a3, a4⟩ := acc_has hs hg hp ⟨by grind, by grind, by grind, by grind, u1, u2, v1, v2, f1 _ _ x1 x2 y1 y2, f2 _ _ x1 x2 y1 y2⟩
  obtain ⟨b1, b2, b3, b4⟩ := hk hg x1 x2 y1 y2 hP
  exact ⟨hq, ⟨by grind, by grind, by grind, by grind, u1, u2, v1, v2⟩, K, ⟨e1, e2, d, e, z, R1, q1, R2, q2, hP, b1, b2, a1, a2, a3, a4⟩, hK, by grind, by grind⟩
theorem pull_zz (m z q1 q2 : Rat) : pullX m z z q1 q2 = z * ((1 - m) * (q1 * q1 * q1) + m * (q2 * q2 * q2)) := by unfold pullX; grind
theorem coef_le {m k1 k2 c q1 q2 : Rat} (m0 : 0 ≤ m) (m1 : m ≤ 1) (h1 : 0 ≤ q1) (h2 : 0 ≤ q2) (l1 : q1 ≤ k1) (l2 : q2 ≤ k2) (hc : (1 - m) * (k1 * k1 * k1) + m * (k2 * k2 * k2) ≤ c) :
    0 ≤ (1 - m) * (q1 * q1 * q1) + m * (q2 * q2 * q2) ∧ (1 - m) * (q1 * q1 * q1) + m * (q2 * q2 * q2) ≤ c := by
  have a := cube_le h1 l1
  have b := cube_le h2 l2
  have a0 := (mul3_le h1 l1 h1 l1 h1 l1).1
  have b0 := (mul3_le h2 l2 h2 l2 h2 l2).1
  have c1 := Rat.mul_le_mul_of_nonneg_left a (show 0 ≤ 1 - m by grind)
  have c2 := Rat.mul_le_mul_of_nonneg_left b m0
  have d1 := Rat.mul_nonneg (show 0 ≤ 1 - m by grind) a0
  have d2 := Rat.mul_nonneg m0 b0
  constructor <;> grind
/-- The rate's last part, between bounds of the place's. -/
theorem ra_v {s : F32} {m g k1 k2 c : Rat} {p : Sh} {P K : V4} (hs : Shr s m) (hg : g = 1 ∨ g = -1) (h : Ra s m g k1 k2 p P K) (hc : (1 - m) * (k1 * k1 * k1) + m * (k2 * k2 * k2) ≤ c) (c1 : c ≤ 1) {yl yh : Rat} (h1 : yl ≤ P.y) (h2 : P.y ≤ yh) :
    K.v ≤ -2 * P.u + (if 0 ≤ yh then yh else (1 - c) * yh) + 1 / 1990 ∧ -2 * P.u + (if yl ≤ 0 then yl else (1 - c) * yl) - 1 / 1990 ≤ K.v := by
  obtain ⟨-, -, d, e, z, R1, q1, R2, q2, hP, l1, l2, -, -, a3, a4⟩ := h
  have i1 := inv_nonneg hP.i1 hP.p1
  have i2 := inv_nonneg hP.i2 hP.p2
  have m0 := hs.lo
  have m1 := hs.hi
  obtain ⟨c2, c3⟩ := coef_le (by grind) (by grind) i1 i2 l1 l2 hc
  rw [pull_zz] at a3 a4
  generalize (1 - m) * (q1 * q1 * q1) + m * (q2 * q2 * q2) = C at *
  have z1 := hP.z1
  have z2 := hP.z2
  have gz : g * (z * C) ≤ P.y * C + 1 / 1048576 ∧ P.y * C ≤ g * (z * C) + 1 / 1048576 := by
    have b := ab_mul (a := g * z - P.y) (b := C) (A := 1 / 1048576) (B := 1) (by rcases hg with rfl | rfl <;> grind) (by rcases hg with rfl | rfl <;> grind) (by grind) (by grind)
    have f : (g * z - P.y) * C = g * (z * C) - P.y * C := by grind
    rw [f] at b
    constructor <;> grind
  have up : P.y - P.y * C ≤ (if 0 ≤ yh then yh else (1 - c) * yh) := by
    by_cases hy : 0 ≤ yh
    · rw [if_pos hy]
      by_cases h0 : 0 ≤ P.y
      · have := Rat.mul_nonneg h0 c2; grind
      · have := Rat.mul_le_mul_of_nonneg_left (show C ≤ 1 by grind) (show 0 ≤ -P.y by grind); grind
    · rw [if_neg hy]
      have t1 := Rat.mul_le_mul_of_nonneg_left c3 (show 0 ≤ -P.y by grind)
      have t2 := Rat.mul_le_mul_of_nonneg_left h2 (show 0 ≤ 1 - c by grind)
      grind
  have lo : (if yl ≤ 0 then yl else (1 - c) * yl) ≤ P.y - P.y * C := by
    by_cases hy : yl ≤ 0
    · rw [if_pos hy]
      by_cases h0 : 0 ≤ P.y
      · have := Rat.mul_le_mul_of_nonneg_left (show C ≤ 1 by grind) h0; grind
      · have := Rat.mul_nonneg (show 0 ≤ -P.y by grind) c2; grind
    · rw [if_neg hy]
      have t1 := Rat.mul_le_mul_of_nonneg_left c3 (show 0 ≤ P.y by grind)
      have t2 := Rat.mul_le_mul_of_nonneg_left h1 (show 0 ≤ 1 - c by grind)
      grind
  generalize (if 0 ≤ yh then yh else (1 - c) * yh) = A at *
  generalize (if yl ≤ 0 then yl else (1 - c) * yl) = B at *
  generalize P.y * C = yC at *
  generalize g * (z * C) = gzC at *
  constructor <;> grind
/-- Rates at two near places. -/
structure Df (D P P' : V4) : Prop where
  x1 : P.x - P'.x ≤ D.x
  x2 : -D.x ≤ P.x - P'.x
  y1 : P.y - P'.y ≤ D.y
  y2 : -D.y ≤ P.y - P'.y
  u1 : P.u - P'.u ≤ D.u
  u2 : -D.u ≤ P.u - P'.u
  v1 : P.v - P'.v ≤ D.v
  v2 : -D.v ≤ P.v - P'.v
/-- How far rates are apart where places are apart by D. -/
def dAcc (c : Rat) (D : V4) : V4 := ⟨D.u, D.v, 2 * D.v + D.x + c * (401 / 100 * D.x + 301 / 100 * D.y) + 1 / 900, 2 * D.u + D.y + c * (301 / 100 * D.x + 401 / 100 * D.y) + 1 / 900⟩
theorem ra_lip {s : F32} {m g g' k1 k2 c : Rat} {p p' : Sh} {P P' K K' D : V4} (hs : Shr s m) (hg : g = 1 ∨ g = -1) (hg' : g' = 1 ∨ g' = -1) (h : Ra s m g k1 k2 p P K) (h' : Ra s m g' k1 k2 p' P' K')
    (hc : (1 - m) * (k1 * k1 * k1) + m * (k2 * k2 * k2) ≤ c) (c1 : c ≤ 1 / 2) (hD : Df D P P') : Df (dAcc c D) K K' := by
  obtain ⟨kx, ky, d, e, z, R1, q1, R2, q2, hP, l1, l2, a1, a2, a3, a4⟩ := h
  obtain ⟨kx', ky', d', e', z', R1', q1', R2', q2', hP', l1', l2', a1', a2', a3', a4'⟩ := h'
  obtain ⟨D1, D2, D3, D4, D5, D6, D7, D8⟩ := hD
  have ht : g * g' = 1 ∨ g * g' = -1 := by rcases hg with rfl | rfl <;> rcases hg' with rfl | rfl <;> grind
  have zb : z - g * g' * z' ≤ D.y + 2 / 1048576 ∧ -(D.y + 2 / 1048576) ≤ z - g * g' * z' := by
    have := hP.z1; have := hP.z2; have := hP'.z1; have := hP'.z2
    rcases hg with rfl | rfl <;> rcases hg' with rfl | rfl <;> constructor <;> grind
  have db : d - d' ≤ D.x + 2 / 1048576 ∧ -(D.x + 2 / 1048576) ≤ d - d' := by
    have := hP.d1; have := hP.d2; have := hP'.d1; have := hP'.d2
    constructor <;> grind
  have eb : e - e' ≤ D.x + 2 / 1048576 ∧ -(D.x + 2 / 1048576) ≤ e - e' := by
    have := hP.e1; have := hP.e2; have := hP'.e1; have := hP'.e2
    constructor <;> grind
  obtain ⟨g1, g2, g3, g4⟩ := grav_lip hP.p1 hP'.p1 hP.i1 hP'.i1 l1 l1' ht hP.r1 hP.r1' hP'.r1 hP'.r1' db.1 db.2 zb.1 zb.2
  obtain ⟨j1, j2, j3, j4⟩ := grav_lip hP.p2 hP'.p2 hP.i2 hP'.i2 l2 l2' ht hP.r2 hP.r2' hP'.r2 hP'.r2' eb.1 eb.2 zb.1 zb.2
  have m0 := hs.lo
  have m1 := hs.hi
  have w1 : 0 ≤ 1 - m := by grind
  have w2 : 0 ≤ m := by grind
  -- both masses
  have two : ∀ A A' B : Rat, ∀ x y : Rat, x ≤ A * B → -(A * B) ≤ x → y ≤ A' * B → -(A' * B) ≤ y → 0 ≤ B → (1 - m) * A + m * A' ≤ c → (1 - m) * x + m * y ≤ c * B ∧ -(c * B) ≤ (1 - m) * x + m * y := by
    intro A A' B x y h1 h2 h3 h4 h5 h6
    have b1 := Rat.mul_le_mul_of_nonneg_left h1 w1
    have b2 := Rat.mul_le_mul_of_nonneg_left h3 w2
    have b3 := Rat.mul_le_mul_of_nonneg_left h2 w1
    have b4 := Rat.mul_le_mul_of_nonneg_left h4 w2
    have b5 := Rat.mul_le_mul_of_nonneg_right h6 h5
    have e1 : ((1 - m) * A + m * A') * B = (1 - m) * (A * B) + m * (A' * B) := by grind
    have e2 : (1 - m) * -(A * B) = -((1 - m) * (A * B)) := by grind
    have e3 : m * -(A' * B) = -(m * (A' * B)) := by grind
    rw [e1] at b5
    rw [e2] at b3
    rw [e3] at b4
    generalize (1 - m) * (A * B) = t1 at *
    generalize m * (A' * B) = t2 at *
    constructor <;> grind
  have dx0 : 0 ≤ D.x := by grind
  have dy0 : 0 ≤ D.y := by grind
  obtain ⟨X1, X2⟩ := two _ _ _ _ _ g1 g2 j1 j2 (by grind) hc
  obtain ⟨Y1, Y2⟩ := two _ _ _ _ _ g3 g4 j3 j4 (by grind) hc
  have ex : (1 - m) * (d * (q1 * q1 * q1) - d' * (q1' * q1' * q1')) + m * (e * (q2 * q2 * q2) - e' * (q2' * q2' * q2')) = pullX m d e q1 q2 - pullX m d' e' q1' q2' := by unfold pullX; grind
  have ey : (1 - m) * (z * (q1 * q1 * q1) - g * g' * (z' * (q1' * q1' * q1'))) + m * (z * (q2 * q2 * q2) - g * g' * (z' * (q2' * q2' * q2'))) = pullX m z z q1 q2 - g * g' * pullX m z' z' q1' q2' := by unfold pullX; grind
  rw [ex] at X1 X2
  rw [ey] at Y1 Y2
  have c0 : 0 ≤ c := by
    have i1 := inv_nonneg hP.i1 hP.p1
    have i2 := inv_nonneg hP.i2 hP.p2
    have := coef_le w2 (by grind) i1 i2 l1 l2 hc
    grind
  have n1 := Rat.mul_le_mul_of_nonneg_left (show 401 / 100 * (D.x + 2 / 1048576) + 301 / 100 * (D.y + 2 / 1048576) + 1 / 10000 ≤ 401 / 100 * D.x + 301 / 100 * D.y + 1 / 8000 by grind) c0
  have n2 := Rat.mul_le_mul_of_nonneg_left (show 301 / 100 * (D.x + 2 / 1048576) + 401 / 100 * (D.y + 2 / 1048576) + 1 / 10000 ≤ 301 / 100 * D.x + 401 / 100 * D.y + 1 / 8000 by grind) c0
  generalize pullX m d e q1 q2 = G1 at *
  generalize pullX m d' e' q1' q2' = G2 at *
  generalize pullX m z z q1 q2 = G3 at *
  generalize pullX m z' z' q1' q2' = G4 at *
  have e5 : c * (401 / 100 * D.x + 301 / 100 * D.y + 1 / 8000) = c * (401 / 100 * D.x + 301 / 100 * D.y) + c * (1 / 8000) := by grind
  have e6 : c * (301 / 100 * D.x + 401 / 100 * D.y + 1 / 8000) = c * (301 / 100 * D.x + 401 / 100 * D.y) + c * (1 / 8000) := by grind
  rw [e5] at n1
  rw [e6] at n2
  have Z1 : g * G3 - g' * G4 ≤ c * (301 / 100 * D.x + 401 / 100 * D.y) + c * (1 / 8000) ∧ -(c * (301 / 100 * D.x + 401 / 100 * D.y) + c * (1 / 8000)) ≤ g * G3 - g' * G4 := by
    rcases hg with rfl | rfl <;> rcases hg' with rfl | rfl <;> constructor <;> grind
  unfold dAcc
  generalize c * (401 / 100 * D.x + 301 / 100 * D.y) = B1 at *
  generalize c * (301 / 100 * D.x + 401 / 100 * D.y) = B2 at *
  generalize c * (401 / 100 * (D.x + 2 / 1048576) + 301 / 100 * (D.y + 2 / 1048576) + 1 / 10000) = B3 at *
  generalize c * (301 / 100 * (D.x + 2 / 1048576) + 401 / 100 * (D.y + 2 / 1048576) + 1 / 10000) = B4 at *
  generalize g * G3 = gG3 at *
  generalize g' * G4 = gG4 at *
  constructor <;> dsimp only <;> grind
end Go.Proofs.Ytlpahmefebgdlaa.Fx
/- Ships' steps in boxes. No condition. -/
namespace Go.Proofs.Ytlpahmefebgdlaa.Fx
open Go

/-- A step: places and rates on the way. -/
structure Stg (s : F32) (m g k1 k2 : Rat) (p : Sh) (h : F32) (P K P2 L P3 M P4 N Q : V4) : Prop where
  a1 : Ra s m g k1 k2 p P K
  a2 : Ra s m g k1 k2 (p.mv (h / two32) (sp1 s p)) P2 L
  a3 : Ra s m g k1 k2 (p.mv (h / two32) (sp2 s p h)) P3 M
  a4 : Ra s m g k1 k2 (p.mv h (sp3 s p h)) P4 N
  m2 : Mv P K (g / 64) (9 / 8388608) P2
  m3 : Mv P L (g / 64) (9 / 8388608) P3
  m4 : Mv P M (g / 32) (9 / 8388608) P4
  fn : Mv P (vSum K L M N) (g / 192) (5 / 4194304) Q
/-- A box. -/
structure Bx where
  xl : Rat
  xh : Rat
  yl : Rat
  yh : Rat
  ul : Rat
  uh : Rat
  vl : Rat
  vh : Rat
structure In (b : Bx) (P : V4) : Prop where
  x1 : b.xl ≤ P.x
  x2 : P.x ≤ b.xh
  y1 : b.yl ≤ P.y
  y2 : P.y ≤ b.yh
  u1 : b.ul ≤ P.u
  u2 : P.u ≤ b.uh
  v1 : b.vl ≤ P.v
  v2 : P.v ≤ b.vh
def bAcc (gl gh c : Rat) (b : Bx) : Bx := ⟨b.ul, b.uh, b.vl, b.vh, 2 * b.vl + b.xl - gh - 1 / 1990, 2 * b.vh + b.xh - gl + 1 / 1990, -2 * b.uh + (if b.yl ≤ 0 then b.yl else (1 - c) * b.yl) - 1 / 1990, -2 * b.ul + (if 0 ≤ b.yh then b.yh else (1 - c) * b.yh) + 1 / 1990⟩
def bMv (t u : Rat) (b k : Bx) : Bx := ⟨b.xl + t * k.xl - u, b.xh + t * k.xh + u, b.yl + t * k.yl - u, b.yh + t * k.yh + u, b.ul + t * k.ul - u, b.uh + t * k.uh + u, b.vl + t * k.vl - u, b.vh + t * k.vh + u⟩
def bSum (k l m n : Bx) : Bx := ⟨k.xl + 2 * l.xl + 2 * m.xl + n.xl, k.xh + 2 * l.xh + 2 * m.xh + n.xh, k.yl + 2 * l.yl + 2 * m.yl + n.yl, k.yh + 2 * l.yh + 2 * m.yh + n.yh, k.ul + 2 * l.ul + 2 * m.ul + n.ul, k.uh + 2 * l.uh + 2 * m.uh + n.uh, k.vl + 2 * l.vl + 2 * m.vl + n.vl, k.vh + 2 * l.vh + 2 * m.vh + n.vh⟩
theorem in_mv {b k : Bx} {P K Q : V4} {t u : Rat} (ht : 0 ≤ t) (h : In b P) (hk : In k K) (hm : Mv P K t u Q) : In (bMv t u b k) Q := by
  obtain ⟨p1, p2, p3, p4, p5, p6, p7, p8⟩ := h
  obtain ⟨k1, k2, k3, k4, k5, k6, k7, k8⟩ := hk
  obtain ⟨m1, m2, m3, m4, m5, m6, m7, m8⟩ := hm
  have c1 := Rat.mul_le_mul_of_nonneg_left k1 ht
  have c2 := Rat.mul_le_mul_of_nonneg_left k2 ht
  have c3 := Rat.mul_le_mul_of_nonneg_left k3 ht
  have c4 := Rat.mul_le_mul_of_nonneg_left k4 ht
  have c5 := Rat.mul_le_mul_of_nonneg_left k5 ht
  have c6 := Rat.mul_le_mul_of_nonneg_left k6 ht
  have c7 := Rat.mul_le_mul_of_nonneg_left k7 ht
  have c8 := Rat.mul_le_mul_of_nonneg_left k8 ht
  unfold bMv
  constructor <;> dsimp only <;> grind
theorem in_sum {k l m n : Bx} {K L M N : V4} (hk : In k K) (hl : In l L) (hm : In m M) (hn : In n N) : In (bSum k l m n) (vSum K L M N) := by
  obtain ⟨p1, p2, p3, p4, p5, p6, p7, p8⟩ := hk
  obtain ⟨q1, q2, q3, q4, q5, q6, q7, q8⟩ := hl
  obtain ⟨r1, r2, r3, r4, r5, r6, r7, r8⟩ := hm
  obtain ⟨s1, s2, s3, s4, s5, s6, s7, s8⟩ := hn
  unfold bSum vSum
  constructor <;> dsimp only <;> grind
def bIn (b b' : Bx) : Bool := decide (b'.xl ≤ b.xl) && (decide (b.xh ≤ b'.xh) && (decide (b'.yl ≤ b.yl) && (decide (b.yh ≤ b'.yh) && (decide (b'.ul ≤ b.ul) && (decide (b.uh ≤ b'.uh) && (decide (b'.vl ≤ b.vl) && decide (b.vh ≤ b'.vh)))))))
theorem in_in {b b' : Bx} {P : V4} (h : bIn b b' = true) (hp : In b P) : In b' P := by
  unfold bIn at h
  simp only [Bool.and_eq_true, decide_eq_true_eq] at h
  obtain ⟨h1, h2, h3, h4, h5, h6, h7, h8⟩ := h
  obtain ⟨p1, p2, p3, p4, p5, p6, p7, p8⟩ := hp
  constructor <;> grind
/-- The zone's box. -/
def zB (xa xb ya yb : Rat) : Bx := ⟨xa, xb, ya, yb, -8, 8, -8, 8⟩
def tenB : Bx := ⟨-10, 10, -10, 10, -10, 10, -10, 10⟩
theorem lt_ten {K : V4} (h : In tenB K) : Lt 10 K := by
  obtain ⟨h1, h2, h3, h4, h5, h6, h7, h8⟩ := h
  exact ⟨h1, h2, h3, h4, h5, h6, h7, h8⟩
theorem lt_le {A B : Rat} {K : V4} (hA : A ≤ B) (h : Lt A K) : Lt B K := by
  obtain ⟨h1, h2, h3, h4, h5, h6, h7, h8⟩ := h
  constructor <;> grind
theorem in_z {xa xb ya yb : Rat} {P : V4} (h : In (zB xa xb ya yb) P) : InR xa xb ya yb P := by
  obtain ⟨h1, h2, h3, h4, h5, h6, h7, h8⟩ := h
  exact ⟨h1, h2, h3, h4, h5, h6, h7, h8⟩
/-- A rate in a box. -/
theorem in_acc {s : F32} {m g xa xb ya yb gl gh c k1 k2 : Rat} {p : Sh} {P : V4} {b : Bx} (hs : Shr s m) (hz : Zone m xa xb ya yb gl gh c k1 k2) (c1 : c ≤ 1 / 2) (hg : g = 1 ∨ g = -1) (hp : HasG g p P) (hb : In b P) (hc : bIn b (zB xa xb ya yb) = true) :
    accQ s p = true ∧ Lt 8 P ∧ ∃ K, Ra s m g k1 k2 p P K ∧ RateG g (acc s p) K ∧ In (bAcc gl gh c b) K := by
  obtain ⟨h1, h2, K, h3, h4, h5, h6⟩ := acc_zone hs hz hg hp (in_z (in_in hc hb))
  obtain ⟨p1, p2, p3, p4, p5, p6, p7, p8⟩ := hb
  obtain ⟨v1, v2⟩ := ra_v hs hg h3 hz.c (by grind) p3 p4
  have kx := h3.kx
  have ky := h3.ky
  refine ⟨h1, h2, K, h3, h4, ?_⟩
  unfold bAcc
  generalize (if 0 ≤ b.yh then b.yh else (1 - c) * b.yh) = A at *
  generalize (if b.yl ≤ 0 then b.yl else (1 - c) * b.yl) = B at *
  constructor <;> dsimp only <;> grind
/-- The step's boxes. -/
def bK (gl gh c : Rat) (b : Bx) : Bx := bAcc gl gh c b
def b2 (gl gh c : Rat) (b : Bx) : Bx := bMv (1 / 64) (9 / 8388608) b (bK gl gh c b)
def bL (gl gh c : Rat) (b : Bx) : Bx := bAcc gl gh c (b2 gl gh c b)
def b3 (gl gh c : Rat) (b : Bx) : Bx := bMv (1 / 64) (9 / 8388608) b (bL gl gh c b)
def bM (gl gh c : Rat) (b : Bx) : Bx := bAcc gl gh c (b3 gl gh c b)
def b4 (gl gh c : Rat) (b : Bx) : Bx := bMv (1 / 32) (9 / 8388608) b (bM gl gh c b)
def bN (gl gh c : Rat) (b : Bx) : Bx := bAcc gl gh c (b4 gl gh c b)
def bS (gl gh c : Rat) (b : Bx) : Bx := bSum (bK gl gh c b) (bL gl gh c b) (bM gl gh c b) (bN gl gh c b)
def bQ (gl gh c : Rat) (b : Bx) : Bx := bMv (1 / 192) (5 / 4194304) b (bS gl gh c b)
def chk (xa xb ya yb gl gh c : Rat) (b b' : Bx) : Bool :=
  bIn b (zB xa xb ya yb) && (bIn (b2 gl gh c b) (zB xa xb ya yb) && (bIn (b3 gl gh c b) (zB xa xb ya yb) && (bIn (b4 gl gh c b) (zB xa xb ya yb) && (bIn (bK gl gh c b) tenB && (bIn (bL gl gh c b) tenB && (bIn (bM gl gh c b) tenB && (bIn (bN gl gh c b) tenB && bIn (bQ gl gh c b) b')))))))
theorem step_box {s : F32} {m xa xb ya yb gl gh c k1 k2 : Rat} {p : Sh} {h : F32} {P : V4} {b b' : Bx} (hs : Shr s m) (hz : Zone m xa xb ya yb gl gh c k1 k2) (c1 : c ≤ 1 / 2) (ht : Tick h) (hf : finS h = true) (hp : HasG 1 p P) (hb : In b P) (hc : chk xa xb ya yb gl gh c b b' = true) :
    stQ s p h = true ∧ ∃ K P2 L P3 M P4 N Q, Stg s m 1 k1 k2 p h P K P2 L P3 M P4 N Q ∧ HasG 1 (stp s p h) Q ∧ In b' Q ∧ In (bK gl gh c b) K ∧ In (bL gl gh c b) L ∧ In (bM gl gh c b) M ∧ In (bN gl gh c b) N := by
  unfold chk at hc
  simp only [Bool.and_eq_true] at hc
  obtain ⟨z1, z2, z3, z4, t1, t2, t3, t4, hq⟩ := hc
  obtain ⟨q1, l1, K, r1, g1, i1⟩ := in_acc hs hz c1 (.inl rfl) hp hb z1
  have lk := lt_ten (in_in t1 i1)
  obtain ⟨P2, hp2, m2⟩ := mv_has (.inl rfl) hp g1 ht.h2 (by grind) (by grind) l1 (lt_le (by grind) lk)
  rw [show (1 : Rat) * (1 / 64) = 1 / 64 by grind] at m2
  have j2 := in_mv (by grind) hb i1 m2
  obtain ⟨q2, l2, L, r2, g2, i2⟩ := in_acc hs hz c1 (.inl rfl) hp2 j2 z2
  have ll := lt_ten (in_in t2 i2)
  obtain ⟨P3, hp3, m3⟩ := mv_has (.inl rfl) hp g2 ht.h2 (by grind) (by grind) l1 (lt_le (by grind) ll)
  rw [show (1 : Rat) * (1 / 64) = 1 / 64 by grind] at m3
  have j3 := in_mv (by grind) hb i2 m3
  obtain ⟨q3, l3, M, r3, g3, i3⟩ := in_acc hs hz c1 (.inl rfl) hp3 j3 z3
  have lm := lt_ten (in_in t3 i3)
  obtain ⟨P4, hp4, m4⟩ := mv_has (.inl rfl) hp g3 ht.h1 (by grind) (by grind) l1 (lt_le (by grind) lm)
  rw [show (1 : Rat) * (1 / 32) = 1 / 32 by grind] at m4
  have j4 := in_mv (by grind) hb i3 m4
  obtain ⟨q4, l4, N, r4, g4, i4⟩ := in_acc hs hz c1 (.inl rfl) hp4 j4 z4
  have ln := lt_ten (in_in t4 i4)
  obtain ⟨Q, hQ, fn⟩ := fin_has ht (.inl rfl) hp g1 g2 g3 g4 l1 lk ll lm ln
  have jq := in_mv (by grind) hb (in_sum i1 i2 i3 i4) fn
  have hfin : (stp s p h).fin = true := by
    have hQ' : HasG 1 (stp s p h) Q := hQ
    unfold Sh.fin vShip cfin
    rw [hasS_fin hQ'.x, hasS_fin hQ'.y, hasS_fin hQ'.u, hasS_fin hQ'.v]; rfl
  refine ⟨?_, K, P2, L, P3, M, P4, N, Q, ⟨r1, r2, r3, r4, m2, m3, m4, fn⟩, hQ, in_in hq jq, i1, i2, i3, i4⟩
  unfold stQ
  have w1 : accQ s (p.mv (h / two32) (sp1 s p)) = true := q2
  have w2 : accQ s (p.mv (h / two32) (sp2 s p h)) = true := q3
  have w3 : accQ s (p.mv h (sp3 s p h)) = true := q4
  rw [hf, q1, w1, w2, w3, hfin]; rfl
/-- How far places and rates are apart on the way. -/
def dMv (t u : Rat) (D k : V4) : V4 := ⟨D.x + t * k.x + u, D.y + t * k.y + u, D.u + t * k.u + u, D.v + t * k.v + u⟩
theorem df_mv {D k P P' K K' Q Q' : V4} {t u : Rat} (ht : 0 ≤ t) (h : Df D P P') (hk : Df k K K') (hm : Mv P K t u Q) (hm' : Mv P' K' t u Q') : Df (dMv t (2 * u) D k) Q Q' := by
  obtain ⟨p1, p2, p3, p4, p5, p6, p7, p8⟩ := h
  obtain ⟨k1, k2, k3, k4, k5, k6, k7, k8⟩ := hk
  obtain ⟨m1, m2, m3, m4, m5, m6, m7, m8⟩ := hm
  obtain ⟨n1, n2, n3, n4, n5, n6, n7, n8⟩ := hm'
  have c1 := Rat.mul_le_mul_of_nonneg_left k1 ht
  have c2 := Rat.mul_le_mul_of_nonneg_left k2 ht
  have c3 := Rat.mul_le_mul_of_nonneg_left k3 ht
  have c4 := Rat.mul_le_mul_of_nonneg_left k4 ht
  have c5 := Rat.mul_le_mul_of_nonneg_left k5 ht
  have c6 := Rat.mul_le_mul_of_nonneg_left k6 ht
  have c7 := Rat.mul_le_mul_of_nonneg_left k7 ht
  have c8 := Rat.mul_le_mul_of_nonneg_left k8 ht
  unfold dMv
  constructor <;> dsimp only <;> grind
theorem df_sum {k l m n K L M N K' L' M' N' : V4} (hk : Df k K K') (hl : Df l L L') (hm : Df m M M') (hn : Df n N N') : Df (vSum k l m n) (vSum K L M N) (vSum K' L' M' N') := by
  obtain ⟨p1, p2, p3, p4, p5, p6, p7, p8⟩ := hk
  obtain ⟨q1, q2, q3, q4, q5, q6, q7, q8⟩ := hl
  obtain ⟨r1, r2, r3, r4, r5, r6, r7, r8⟩ := hm
  obtain ⟨s1, s2, s3, s4, s5, s6, s7, s8⟩ := hn
  unfold vSum
  constructor <;> dsimp only <;> grind
def dK (c : Rat) (D : V4) : V4 := dAcc c D
def d2 (c : Rat) (D : V4) : V4 := dMv (1 / 64) (2 * (9 / 8388608)) D (dK c D)
def dL (c : Rat) (D : V4) : V4 := dAcc c (d2 c D)
def d3 (c : Rat) (D : V4) : V4 := dMv (1 / 64) (2 * (9 / 8388608)) D (dL c D)
def dM (c : Rat) (D : V4) : V4 := dAcc c (d3 c D)
def d4 (c : Rat) (D : V4) : V4 := dMv (1 / 32) (2 * (9 / 8388608)) D (dM c D)
def dN (c : Rat) (D : V4) : V4 := dAcc c (d4 c D)
def dS (c : Rat) (D : V4) : V4 := vSum (dK c D) (dL c D) (dM c D) (dN c D)
/-- Two flights a step on; how far the difference of x has gone. -/
theorem pair_step {s : F32} {m k1 k2 c : Rat} {p p' : Sh} {h : F32} {P K P2 L P3 M P4 N Q P' K' P2' L' P3' M' P4' N' Q' D : V4} (hs : Shr s m) (hc : (1 - m) * (k1 * k1 * k1) + m * (k2 * k2 * k2) ≤ c) (c1 : c ≤ 1 / 2)
    (h1 : Stg s m 1 k1 k2 p h P K P2 L P3 M P4 N Q) (h2 : Stg s m 1 k1 k2 p' h P' K' P2' L' P3' M' P4' N' Q') (hD : Df D P P') :
    Df (dMv (1 / 192) (2 * (5 / 4194304)) D (dS c D)) Q Q' ∧ Q.x - Q'.x - (P.x - P'.x) ≤ 1 / 192 * (dS c D).x + 2 * (5 / 4194304) ∧ -(1 / 192 * (dS c D).x + 2 * (5 / 4194304)) ≤ Q.x - Q'.x - (P.x - P'.x) := by
  obtain ⟨a1, a2, a3, a4, m2, m3, m4, fn⟩ := h1
  obtain ⟨a1', a2', a3', a4', m2', m3', m4', fn'⟩ := h2
  have e1 : Df (dK c D) K K' := ra_lip hs (.inl rfl) (.inl rfl) a1 a1' hc c1 hD
  have e2 : Df (d2 c D) P2 P2' := df_mv (by grind) hD e1 m2 m2'
  have e3 : Df (dL c D) L L' := ra_lip hs (.inl rfl) (.inl rfl) a2 a2' hc c1 e2
  have e4 : Df (d3 c D) P3 P3' := df_mv (by grind) hD e3 m3 m3'
  have e5 : Df (dM c D) M M' := ra_lip hs (.inl rfl) (.inl rfl) a3 a3' hc c1 e4
  have e6 : Df (d4 c D) P4 P4' := df_mv (by grind) hD e5 m4 m4'
  have e7 : Df (dN c D) N N' := ra_lip hs (.inl rfl) (.inl rfl) a4 a4' hc c1 e6
  have e8 : Df (dS c D) (vSum K L M N) (vSum K' L' M' N') := df_sum e1 e3 e5 e7
  refine ⟨df_mv (by grind) hD e8 fn fn', ?_⟩
  have x1 := e8.x1
  have x2 := e8.x2
  have f1 := fn.x1
  have f2 := fn.x2
  have f3 := fn'.x1
  have f4 := fn'.x2
  generalize (vSum K L M N).x = A at *
  generalize (vSum K' L' M' N').x = B at *
  generalize (dS c D).x = C at *
  constructor <;> grind
def dIn (D D' : V4) : Bool := decide (D.x ≤ D'.x) && (decide (D.y ≤ D'.y) && (decide (D.u ≤ D'.u) && decide (D.v ≤ D'.v)))
theorem df_in {D D' P P' : V4} (h : dIn D D' = true) (hd : Df D P P') : Df D' P P' := by
  unfold dIn at h
  simp only [Bool.and_eq_true, decide_eq_true_eq] at h
  obtain ⟨h1, h2, h3, h4⟩ := h
  obtain ⟨p1, p2, p3, p4, p5, p6, p7, p8⟩ := hd
  constructor <;> grind
end Go.Proofs.Ytlpahmefebgdlaa.Fx
/- Contracts: flights. No condition. -/
namespace Go.Proofs.Ytlpahmefebgdlaa.Fx
open Go Go.RowKit

/-- A slice of a function's own, and true: its length and cells. -/
def slW (M : List (List AC)) : AV → Option (Nat × List AC)
  | .tup [.slw id n, .sb true] => match M[id]? with
      | some cs => if cs.all plainC = true then some (n, cs) else none
      | none => none
  | .tup [.slc id n, .sb true] => match M[id]? with
      | some cs => if cs.all plainC = true then some (n, cs) else none
      | none => none
  | _ => none
def slK (P : Program) (fn : Func) (o : Out) (F : List AV) (M : List (List AC)) : Option (Nat × List AC) :=
  match o with
  | .exit _ => none
  | _ => match resultA P fn F M with
    | some v => slW M v
    | none => none
def runW (P : Program) (E : List (Entry P)) (I : List FuncId) (N : List (EntryN P)) (lp : LoopRule) (fn : Func) (args : List AV) : Option (Nat × List AC) :=
  match fn.body with
  | none => none
  | some c => exK P E I N (G := anyW) [] 0 lp [] 4000 0 0 c (args ++ List.replicate (fn.ntmps - args.length) undefA) [] (slK P fn)
theorem slW_spec {M : List (List AC)} {v : AV} {n : Nat} {cells : List AC} (h : slW M v = some (n, cells)) :
    ∃ id, (v = .tup [.slw id n, .sb true] ∨ v = .tup [.slc id n, .sb true]) ∧ M[id]? = some cells ∧ cells.all plainC = true := by
  unfold slW at h
  split at h
  · rename_i id n
    split at h
    · rename_i cs hcs
      split at h
      · rename_i hc
        cases h
        exact ⟨id, .inl rfl, hcs, hc⟩
      · cases h
    · cases h
  · rename_i id n
    split at h
    · rename_i cs hcs
      split at h
      · rename_i hc
        cases h
        exact ⟨id, .inr rfl, hcs, hc⟩
      · cases h
    · cases h
  · cases h
def OwnPost (w : World) (n : Nat) (cells : List AC) (e : Ending) (w' : World) : Prop :=
  ∃ (blk cap : Nat) (us : Array Value) (t : TypeId), e = .returned (.tuple #[.slice (some ⟨blk, 0, none⟩) n cap, .bool true]) ∧ w.heap.size ≤ blk ∧ w'.heap[blk]? = some (.cells us t (0, 0)) ∧ RepP [] cells us.toList ∧ cap ≤ us.size ∧ n ≤ cap
theorem runW_sound {P : Program} {E : List (Entry P)} {I : List FuncId} {N : List (EntryN P)} {lp : LoopRule} {f : FuncId} {fn : Func} (hf : P.funcs[f]? = some fn) {args : List AV} {n : Nat} {cells : List AC}
    (hfar : ∀ j, farOff ≤ j → ∀ F M, lp j F M = none) (hl : LoopsOk P 0 anyW lp 0 (fn.body.getD .skip)) (h : runW P E I N lp fn args = some (n, cells))
    {vs : List Value} {w : World} (ha : RepF [] args vs) : Calls P f vs.toArray w fun e w' => Ext w w' ∧ OwnPost w n cells e w' := by
  unfold runW at h
  split at h
  · cases h
  · rename_i c hb
    rw [hb] at hl
    obtain ⟨o, F', M', hK, hg⟩ := (exK_sound hfar anyW_mono 4000).1 0 0 c _ [] _ _ hl (drawOk_nil 0 c) h
    have hg := hg ⟨w, []⟩ trivial (Nat.le_refl _)
    clear h
    have fin : ∀ {v : AV}, resultA P fn F' M' = some v → slW M' v = some (n, cells) → ∀ {σ' : List (Nat × Nat)} {a' : Act} {w' : World} (hs : St σ' 0 ⟨w, []⟩ F' M' a' w'),
        a'.defers = [] ∧ ∃ v, (results fn a'.tmps).run P w' = .ok v w' ∧ (Ext w w' ∧ OwnPost w n cells (Ending.returned v) w') := by
      intro v hres hv σ' a' w' hs
      obtain ⟨z, hz, hr⟩ := results_sound (P := P) hs hres
      obtain ⟨id, hv2, hcs, c2⟩ := slW_spec hv
      rcases hv2 with rfl | rfl
      · obtain ⟨us, rfl, hl⟩ := hr
        obtain ⟨us⟩ := us
        cases hl with
        | cons q1 q2 =>
          cases q2 with
          | cons q3 q4 =>
            cases q4
            obtain ⟨p, cp, hp, hle, hcp, rfl⟩ := q1
            cases q3
            obtain ⟨ws, t, hw, ⟨kk, hr⟩, hcap⟩ := hs.mem.at_ id p _ hp hcs
            exact ⟨hs.defers, _, hz, hs.ext, p.1, cp, ws, t, rfl, hs.own id p (Nat.zero_le _) hp, hw, ⟨kk, plainL_rep (by simp [c2]; right; rfl) hr⟩, by omega, hle⟩
      · obtain ⟨us, rfl, hl⟩ := hr
        obtain ⟨us⟩ := us
        cases hl with
        | cons q1 q2 =>
          cases q2 with
          | cons q3 q4 =>
            cases q4
            obtain ⟨p, hp, hle, rfl⟩ := q1
            cases q3
            obtain ⟨ws, t, hw, ⟨kk, hr⟩, hcap⟩ := hs.mem.at_ id p _ hp hcs
            exact ⟨hs.defers, _, hz, hs.ext, p.1, p.2, ws, t, rfl, hs.own id p (Nat.zero_le _) hp, hw, ⟨kk, plainL_rep (by simp [c2]; right; rfl) hr⟩, hcap, hle⟩
    refine calls_of_wp hf hb (hg [] _ w ⟨rfl, ?_, MemOk.nil w, Ext.refl _, fun id b hid hbb => (by cases hbb), List.prefix_refl _⟩ _ fun σ' a' w' hs => ?_)
    · have hlen := ha.length
      have h1 : ∀ (n : Nat), RepF [] (List.replicate n undefA) (List.replicate n undef) := by
        intro n
        induction n with
        | zero => exact .nil
        | succ n ih => exact .cons rfl ih
      have h2 : ∀ {l l' : List AV} {us us' : List Value}, RepF [] l us → RepF [] l' us' → RepF [] (l ++ l') (us ++ us') := by
        intro l l' us us' h h'
        induction h with
        | nil => exact h'
        | cons h _ ih => exact .cons h ih
      simpa [hlen] using h2 ha (h1 (fn.ntmps - vs.length))
    · cases o with
      | exit id => cases hK
      | norm =>
        simp only [slK] at hK
        cases hres : resultA P fn F' M' with
        | none => rw [hres] at hK; cases hK
        | some v => rw [hres] at hK; exact fin hres hK hs
      | ret =>
        simp only [slK] at hK
        cases hres : resultA P fn F' M' with
        | none => rw [hres] at hK; cases hK
        | some v => rw [hres] at hK; exact fin hres hK hs

-- flights
def flS (s h : F32) : Nat → Sh → Sh
  | 0, p => p
  | k + 1, p => stp s (flS s h k p) h
def flCells (s h : F32) (p : Sh) : Nat → List AC
  | 0 => [.cx .f32 p.x p.y, .cx .f32 p.u p.v]
  | k + 1 => flCells s h p k ++ [.cx .f32 (flS s h (k + 1) p).x (flS s h (k + 1) p).y, .cx .f32 (flS s h (k + 1) p).u (flS s h (k + 1) p).v]
def flT (s h : F32) (p : Sh) : Nat → Option (Nat × List AC) → Option (Nat × List AC)
  | 0, K => K
  | k + 1, K => flT s h p k (bif stQ s (flS s h k p) h then K else none)
theorem eWithin_run (n a b : Int) : run Try.prog [] Try.f81 [.c (.val (.int .i64 n)), .c (.val (.int .i64 a)), .c (.val (.int .i64 b))] [] = some (.c (.sb (decide (a ≤ n) && decide (n ≤ b)))) := by rw [push_and]; kernel_rfl
def flArgs (s h : F32) (p : Sh) (k : Int) : List AV := [.c (.fl .f32 s), p.agg, .c (.fl .f32 h), .c (.val (.int .i64 k))]
theorem flight_raw0 (s h : F32) (p : Sh) : runW Try.prog [eIsShare, eVShip, eIsFinite, eStep] [81] [] noRule Try.f100 (flArgs s h p 0) =
    bif !(isShare s) then none else bif !(p.fin) then none else bif !(isFinite h) then none else flT s h p 0 (some (1, flCells s h p 0)) := by kernel_rfl
theorem flight_raw1 (s h : F32) (p : Sh) : runW Try.prog [eIsShare, eVShip, eIsFinite, eStep] [81] [] noRule Try.f100 (flArgs s h p 1) =
    bif !(isShare s) then none else bif !(p.fin) then none else bif !(isFinite h) then none else flT s h p 1 (some (2, flCells s h p 1)) := by kernel_rfl
theorem flight_raw2 (s h : F32) (p : Sh) : runW Try.prog [eIsShare, eVShip, eIsFinite, eStep] [81] [] noRule Try.f100 (flArgs s h p 2) =
    bif !(isShare s) then none else bif !(p.fin) then none else bif !(isFinite h) then none else flT s h p 2 (some (3, flCells s h p 2)) := by kernel_rfl
theorem flight_raw3 (s h : F32) (p : Sh) : runW Try.prog [eIsShare, eVShip, eIsFinite, eStep] [81] [] noRule Try.f100 (flArgs s h p 3) =
    bif !(isShare s) then none else bif !(p.fin) then none else bif !(isFinite h) then none else flT s h p 3 (some (4, flCells s h p 3)) := by kernel_rfl
theorem flight_raw4 (s h : F32) (p : Sh) : runW Try.prog [eIsShare, eVShip, eIsFinite, eStep] [81] [] noRule Try.f100 (flArgs s h p 4) =
    bif !(isShare s) then none else bif !(p.fin) then none else bif !(isFinite h) then none else flT s h p 4 (some (5, flCells s h p 4)) := by kernel_rfl
theorem flight_raw5 (s h : F32) (p : Sh) : runW Try.prog [eIsShare, eVShip, eIsFinite, eStep] [81] [] noRule Try.f100 (flArgs s h p 5) =
    bif !(isShare s) then none else bif !(p.fin) then none else bif !(isFinite h) then none else flT s h p 5 (some (6, flCells s h p 5)) := by kernel_rfl
theorem flight_raw6 (s h : F32) (p : Sh) : runW Try.prog [eIsShare, eVShip, eIsFinite, eStep] [81] [] noRule Try.f100 (flArgs s h p 6) =
    bif !(isShare s) then none else bif !(p.fin) then none else bif !(isFinite h) then none else flT s h p 6 (some (7, flCells s h p 6)) := by kernel_rfl
theorem flight_raw7 (s h : F32) (p : Sh) : runW Try.prog [eIsShare, eVShip, eIsFinite, eStep] [81] [] noRule Try.f100 (flArgs s h p 7) =
    bif !(isShare s) then none else bif !(p.fin) then none else bif !(isFinite h) then none else flT s h p 7 (some (8, flCells s h p 7)) := by kernel_rfl
theorem flight_raw8 (s h : F32) (p : Sh) : runW Try.prog [eIsShare, eVShip, eIsFinite, eStep] [81] [] noRule Try.f100 (flArgs s h p 8) =
    bif !(isShare s) then none else bif !(p.fin) then none else bif !(isFinite h) then none else flT s h p 8 (some (9, flCells s h p 8)) := by kernel_rfl
theorem flight_raw9 (s h : F32) (p : Sh) : runW Try.prog [eIsShare, eVShip, eIsFinite, eStep] [81] [] noRule Try.f100 (flArgs s h p 9) =
    bif !(isShare s) then none else bif !(p.fin) then none else bif !(isFinite h) then none else flT s h p 9 (some (10, flCells s h p 9)) := by kernel_rfl
theorem flight_raw10 (s h : F32) (p : Sh) : runW Try.prog [eIsShare, eVShip, eIsFinite, eStep] [81] [] noRule Try.f100 (flArgs s h p 10) =
    bif !(isShare s) then none else bif !(p.fin) then none else bif !(isFinite h) then none else flT s h p 10 (some (11, flCells s h p 10)) := by kernel_rfl
theorem flight_raw11 (s h : F32) (p : Sh) : runW Try.prog [eIsShare, eVShip, eIsFinite, eStep] [81] [] noRule Try.f100 (flArgs s h p 11) =
    bif !(isShare s) then none else bif !(p.fin) then none else bif !(isFinite h) then none else flT s h p 11 (some (12, flCells s h p 11)) := by kernel_rfl
theorem flight_raw12 (s h : F32) (p : Sh) : runW Try.prog [eIsShare, eVShip, eIsFinite, eStep] [81] [] noRule Try.f100 (flArgs s h p 12) =
    bif !(isShare s) then none else bif !(p.fin) then none else bif !(isFinite h) then none else flT s h p 12 (some (13, flCells s h p 12)) := by kernel_rfl
theorem flight_raw (s h : F32) (p : Sh) {k : Nat} (hk : k ≤ 12) : runW Try.prog [eIsShare, eVShip, eIsFinite, eStep] [81] [] noRule Try.f100 (flArgs s h p k) =
    bif !(isShare s) then none else bif !(p.fin) then none else bif !(isFinite h) then none else flT s h p k (some (k + 1, flCells s h p k)) := by
  have h' : k = 0 ∨ k = 1 ∨ k = 2 ∨ k = 3 ∨ k = 4 ∨ k = 5 ∨ k = 6 ∨ k = 7 ∨ k = 8 ∨ k = 9 ∨ k = 10 ∨ k = 11 ∨ k = 12 := by omega
  rcases h' with rfl | rfl | rfl | rfl | rfl | rfl | rfl | rfl | rfl | rfl | rfl | rfl | rfl
  · exact flight_raw0 s h p
  · exact flight_raw1 s h p
  · exact flight_raw2 s h p
  · exact flight_raw3 s h p
  · exact flight_raw4 s h p
  · exact flight_raw5 s h p
  · exact flight_raw6 s h p
  · exact flight_raw7 s h p
  · exact flight_raw8 s h p
  · exact flight_raw9 s h p
  · exact flight_raw10 s h p
  · exact flight_raw11 s h p
  · exact flight_raw12 s h p
def flAll (s h : F32) (p : Sh) : Nat → Bool
  | 0 => true
  | k + 1 => flAll s h p k && stQ s (flS s h k p) h
theorem flT_all (s h : F32) (p : Sh) : ∀ (k : Nat) (K : Option (Nat × List AC)), flAll s h p k = true → flT s h p k K = K
  | 0, K, _ => rfl
  | k + 1, K, hq => by
    simp only [flAll, Bool.and_eq_true] at hq
    simp only [flT]
    rw [flT_all s h p k _ hq.1, hq.2]; rfl
def flQ (s h : F32) (p : Sh) (k : Nat) : Bool := isShare s && (p.fin && (finS h && flAll s h p k))
theorem flight_run (s h : F32) (p : Sh) {k : Nat} (hk : k ≤ 12) (hq : flQ s h p k = true) : runW Try.prog [eIsShare, eVShip, eIsFinite, eStep] [81] [] noRule Try.f100 (flArgs s h p k) = some (k + 1, flCells s h p k) := by
  unfold flQ at hq
  simp only [Bool.and_eq_true] at hq
  obtain ⟨h1, h2, h3, h4⟩ := hq
  rw [flight_raw s h p hk, h1, h2, fin_isFinite, h3, flT_all s h p k _ h4]; rfl
theorem flCells_length (s h : F32) (p : Sh) : ∀ k, (flCells s h p k).length = (k + 1) * 2
  | 0 => rfl
  | k + 1 => by simp only [flCells, List.length_append, flCells_length s h p k]; simp; omega
def flFn : List AV → Option (Bool × Bool × List AC)
  | [.c (.fl .f32 s), .agg [.cx .f32 x y, .cx .f32 u v], .c (.fl .f32 h), .c (.val (.int .i64 (.ofNat k)))] => some (decide (k ≤ 12) && flQ s h ⟨x, y, u, v⟩ k, true, flCells s h ⟨x, y, u, v⟩ k)
  | _ => none
theorem flight_ok : ∀ args b cells, flFn args = some (true, b, cells) → ∀ vs w, RepF [] args vs → args.all plainA = true → Calls Try.prog 100 vs.toArray w fun e w' => Ext w w' ∧
    (match b with
    | true => ∃ (blk cap : Nat) (us : Array Value) (t : TypeId), e = .returned (.tuple #[.slice (some ⟨blk, 0, none⟩) (cells.length / 2) cap, .bool true]) ∧ w.heap.size ≤ blk ∧ w'.heap[blk]? = some (.cells us t (0, 0)) ∧ RepP [] cells us.toList ∧ cap ≤ us.size ∧ cells.length / 2 ≤ cap
    | false => e = .returned (.tuple #[.slice none 0 0, .bool false])) := by
  intro args b cells h vs w ha hpl
  clear hpl
  unfold flFn at h
  split at h
  · rename_i s x y u v t k
    simp only [Option.some.injEq, Prod.mk.injEq, Bool.and_eq_true, decide_eq_true_eq] at h
    obtain ⟨⟨h1, h2⟩, rfl, rfl⟩ := h
    have e : (flCells s t ⟨x, y, u, v⟩ k).length / 2 = k + 1 := by rw [flCells_length]; omega
    rw [e]
    exact runW_sound Try.func100 noRule_far (loopsOk_none 0 _) (flight_run s t ⟨x, y, u, v⟩ h1 h2) ha
  · cases h
def eFlight : EntryN Try.prog := { f := 100, fn := flFn, len := fun cells => cells.length / 2, enter := fun _ _ => enter_of Try.func100 (by kernel_rfl) (c := Try.f100.body.getD .skip) (by kernel_rfl), ok := flight_ok }
end Go.Proofs.Ytlpahmefebgdlaa.Fx
/- Flights in boxes and in pairs. No condition. -/
namespace Go.Proofs.Ytlpahmefebgdlaa.Fx
open Go

/-- What a step's check tells. -/
def chkY (xa xb ya yb gl gh c : Rat) (b b' : Bx) : Bool := chk xa xb ya yb gl gh c b b' && decide (5 / 4194304 + 1 / 1000 ≤ 1 / 192 * (bS gl gh c b).yl)
def chkN (xa xb ya yb gl gh c : Rat) (bx : Nat → Bx) : Nat → Bool
  | 0 => true
  | n + 1 => chkN xa xb ya yb gl gh c bx n && chkY xa xb ya yb gl gh c (bx n) (bx (n + 1))
theorem flight_box {s : F32} {m xa xb ya yb gl gh c k1 k2 : Rat} {p : Sh} {h : F32} {P : V4} {bx : Nat → Bx} (hs : Shr s m) (hz : Zone m xa xb ya yb gl gh c k1 k2) (c1 : c ≤ 1 / 2) (ht : Tick h) (hf : finS h = true) (hp : HasG 1 p P) (hb : In (bx 0) P) :
    ∀ n, chkN xa xb ya yb gl gh c bx n = true → ∃ Q : Nat → V4, Q 0 = P ∧ (∀ k, k ≤ n → HasG 1 (flS s h k p) (Q k) ∧ In (bx k) (Q k)) ∧
      (∀ k, k < n → stQ s (flS s h k p) h = true ∧ (∃ K P2 L P3 M P4 N, Stg s m 1 k1 k2 (flS s h k p) h (Q k) K P2 L P3 M P4 N (Q (k + 1))) ∧ (Q k).y + 1 / 1000 ≤ (Q (k + 1)).y)
  | 0, _ => ⟨fun _ => P, rfl, fun k hk => by
      have : k = 0 := by omega
      subst this; exact ⟨hp, hb⟩, fun k hk => by omega⟩
  | n + 1, hc => by
    unfold chkN chkY at hc
    simp only [Bool.and_eq_true, decide_eq_true_eq] at hc
    obtain ⟨h1, h2, h3⟩ := hc
    obtain ⟨Q, e, g1, g2⟩ := flight_box hs hz c1 ht hf hp hb n h1
    obtain ⟨a1, a2⟩ := g1 n (Nat.le_refl n)
    obtain ⟨hst, K, P2, L, P3, M, P4, N, R, hS, hR, hi, iK, iL, iM, iN⟩ := step_box hs hz c1 ht hf a1 a2 h2
    refine ⟨fun k => if k ≤ n then Q k else R, by simp [e], fun k hk => ?_, fun k hk => ?_⟩
    · by_cases hkn : k ≤ n
      · simp only [if_pos hkn]; exact g1 k hkn
      · have : k = n + 1 := by omega
        subst this
        simp only [if_neg hkn]
        exact ⟨hR, hi⟩
    · by_cases hkn : k < n
      · simp only [if_pos (Nat.le_of_lt hkn), if_pos (show k + 1 ≤ n by omega)]
        exact g2 k hkn
      · have : k = n := by omega
        subst this
        simp only [if_pos (Nat.le_refl k), if_neg (show ¬(k + 1 ≤ k) by omega)]
        refine ⟨hst, ⟨K, P2, L, P3, M, P4, N, hS⟩, ?_⟩
        have f2 := hS.fn.y2
        have iS := (in_sum iK iL iM iN).y1
        have : (bS gl gh c (bx k)).yl ≤ (vSum K L M N).y := iS
        generalize (vSum K L M N).y = A at *
        generalize (bS gl gh c (bx k)).yl = B at *
        grind
def chkD (c : Rat) (D : Nat → V4) (W : Nat → Rat) : Nat → Bool
  | 0 => true
  | n + 1 => chkD c D W n && (dIn (dMv (1 / 192) (2 * (5 / 4194304)) (D n) (dS c (D n))) (D (n + 1)) && decide (W n + (1 / 192 * (dS c (D n)).x + 2 * (5 / 4194304)) ≤ W (n + 1)))
theorem flight_pair {s : F32} {m k1 k2 c : Rat} {p p' : Sh} {h : F32} {Q Q' D : Nat → V4} {W : Nat → Rat} (hs : Shr s m) (hc : (1 - m) * (k1 * k1 * k1) + m * (k2 * k2 * k2) ≤ c) (c1 : c ≤ 1 / 2) (hD : Df (D 0) (Q 0) (Q' 0)) (hW : 0 ≤ W 0) {n : Nat}
    (h1 : ∀ k, k < n → ∃ K P2 L P3 M P4 N, Stg s m 1 k1 k2 (flS s h k p) h (Q k) K P2 L P3 M P4 N (Q (k + 1)))
    (h2 : ∀ k, k < n → ∃ K P2 L P3 M P4 N, Stg s m 1 k1 k2 (flS s h k p') h (Q' k) K P2 L P3 M P4 N (Q' (k + 1))) :
    ∀ k, k ≤ n → chkD c D W k = true → Df (D k) (Q k) (Q' k) ∧ (Q k).x - (Q' k).x - ((Q 0).x - (Q' 0).x) ≤ W k ∧ -(W k) ≤ (Q k).x - (Q' k).x - ((Q 0).x - (Q' 0).x)
  | 0, _, _ => ⟨hD, by grind, by grind⟩
  | k + 1, hk, hq => by
    unfold chkD at hq
    simp only [Bool.and_eq_true, decide_eq_true_eq] at hq
    obtain ⟨q1, q2, q3⟩ := hq
    obtain ⟨g1, g2, g3⟩ := flight_pair hs hc c1 hD hW h1 h2 k (by omega) q1
    obtain ⟨K, P2, L, P3, M, P4, N, hS⟩ := h1 k (by omega)
    obtain ⟨K', P2', L', P3', M', P4', N', hS'⟩ := h2 k (by omega)
    obtain ⟨e1, e2, e3⟩ := pair_step hs hc c1 hS hS' g1
    refine ⟨df_in q2 e1, ?_⟩
    generalize (dS c (D k)).x = A at *
    constructor <;> grind
end Go.Proofs.Ytlpahmefebgdlaa.Fx
/- A function's run in two parts: up to a region, and from it on with a frame that forgets. No condition. -/
namespace Go.Proofs.Ytlpahmefebgdlaa.Fx
open Go Go.RowKit

variable {R : Type}

/-- Does a code begin with this region? -/
def beginsAt (k : Nat) : Code → Bool
  | .seq (.region i _ _) _ => i == k
  | _ => false

/-- A code's run up to a region; there T goes on, with what the mask keeps of the frame. -/
def exT (P : Program) (E : List (Entry P)) (I : List FuncId) (N : List (EntryN P)) {G : World → Prop} (X : List (EntryW P G)) (lp : LoopRule) (D : List Nat) (k : Nat) (m : List Bool) (T : List AV → Option R) (K : Out → List AV → List (List AC) → Option R) : Nat → Nat → Code → List AV → List (List AC) → Option R
  | 0, _, _, _, _ => none
  | n + 1, i, c, F, M => cond (beginsAt k c) (cond ((weaken m F).all plainA) (T (weaken m F)) none)
    (match c with
    | .seq x y => exK P E I N X 0 lp D 4000 i 0 x F M fun o F M =>
      match o with
      | .norm => exT P E I N X lp D k m T K n (i + loopCount x) y F M
      | .exit id => K (.exit id) F M
      | .ret => K .ret F M
    | _ => none)

/-- What is behind the region. -/
def behindAt (k : Nat) : Nat → Nat → Code → Option (Nat × Code)
  | 0, _, _ => none
  | n + 1, i, c => cond (beginsAt k c) (some (i, c)) (match c with
    | .seq x y => behindAt k n (i + loopCount x) y
    | _ => none)

theorem St.forget {σ : List (Nat × Nat)} {w0 : Base} {F : List AV} {M : List (List AC)} {a : Act} {w : World} (h : St σ 0 w0 F M a w) (h0 : w0.s0 = []) (hp : F.all plainA = true) : St [] 0 w0 F [] a w :=
  ⟨h.defers, plainF hp h.frame, MemOk.nil w, h.ext, fun id b _ hb => (by cases hb), (by rw [h0]; exact List.prefix_refl _)⟩

theorem exT_sound {P : Program} {E : List (Entry P)} {I : List FuncId} {N : List (EntryN P)} {G : World → Prop} {X : List (EntryW P G)} {lp : LoopRule} {D : List Nat} (hfar : ∀ j, farOff ≤ j → ∀ F M, lp j F M = none) (hmono : ∀ w w', G w → Ext w w' → G w')
    {k : Nat} {m : List Bool} {T : List AV → Option R} {K : Out → List AV → List (List AC) → Option R} : ∀ (n i : Nat) (c : Code) (F : List AV) (M : List (List AC)) (r : R), LoopsOk P 0 G lp i c → DrawOk P D i c →
    (∀ j t, behindAt k n i c = some (j, t) → ∀ F r, T F = some r → ∃ o F' M', K o F' M' = some r ∧ ∀ w0 : Base, G w0.toWorld → w0.s0.length ≤ 0 → CodeGoes P 0 w0 t F [] o F' M') →
    exT P E I N X lp D k m T K n i c F M = some r → ∃ o F' M', K o F' M' = some r ∧ ∀ w0 : Base, G w0.toWorld → w0.s0.length ≤ 0 → CodeGoes P 0 w0 c F M o F' M'
  | 0, _, _, _, _, _, _, _, _, h => by cases h
  | n + 1, i, c, F, M, r, hl, hd, hT, h => by
    unfold exT at h
    cases hb : beginsAt k c with
    | true =>
      rw [hb] at h
      simp only [cond_true] at h
      cases hp : (weaken m F).all plainA with
      | false => rw [hp] at h; cases h
      | true =>
        rw [hp] at h
        simp only [cond_true] at h
        obtain ⟨o, F', M', hK, hg⟩ := hT i c (by unfold behindAt; rw [hb]; rfl) _ _ h
        refine ⟨o, F', M', hK, fun w0 hG hk σ a w hS Q hQ => ?_⟩
        exact hg w0 hG hk [] a w ((hS.weaken m).forget (List.eq_nil_of_length_eq_zero (Nat.le_zero.1 hk)) hp) Q hQ
    | false =>
      rw [hb] at h
      simp only [cond_false] at h
      cases c with
      | seq x y =>
        simp only at h
        obtain ⟨o, F1, M1, hK1, hx⟩ := (exK_sound hfar hmono 4000).1 i 0 x F M _ r (hl.left rfl) (hd.sub (Nat.le_refl _) fun _ h => List.mem_append_left _ h) h
        cases o with
        | norm =>
          obtain ⟨o, F', M', hK, hy⟩ := exT_sound hfar hmono n (i + loopCount x) y F1 M1 r (hl.right rfl) (hd.sub (Nat.le_add_right _ _) fun _ h => List.mem_append_right _ h) (fun j t hj => hT j t (by unfold behindAt; rw [hb]; exact hj)) hK1
          exact ⟨o, F', M', hK, fun w0 hG hk σ a w hS Q hQ => wp_seq (hx w0 hG hk σ a w hS _ fun σ' a' w' hs => hy w0 hG hk σ' a' w' hs Q hQ)⟩
        | exit id => exact ⟨.exit id, F1, M1, hK1, fun w0 hG hk σ a w hS Q hQ => wp_seq (hx w0 hG hk σ a w hS _ fun σ' a' w' hs => hQ σ' a' w' hs)⟩
        | ret => exact ⟨.ret, F1, M1, hK1, fun w0 hG hk σ a w hS Q hQ => wp_seq (hx w0 hG hk σ a w hS _ fun σ' a' w' hs => hQ σ' a' w' hs)⟩
      | _ => cases h

/-- A function's answer out of its last frame. -/
def answerA (P : Program) (fn : Func) (o : Out) (F : List AV) (M : List (List AC)) : Option AV :=
  match o with
  | .exit _ => none
  | _ => match resultA P fn F M with
    | some v => cond (plainA v) (some v) none
    | none => none
/-- The first part of a function's run. -/
def runHead (P : Program) (E : List (Entry P)) (I : List FuncId) (N : List (EntryN P)) {G : World → Prop} (X : List (EntryW P G)) (lp : LoopRule) (D : List Nat) (k : Nat) (m : List Bool) (fn : Func) (args : List AV) (T : List AV → Option AV) : Option AV :=
  exT P E I N X lp D k m T (answerA P fn) 400 0 (fn.body.getD .skip) (args ++ List.replicate (fn.ntmps - args.length) undefA) []
/-- The second part. -/
def runTail (P : Program) (E : List (Entry P)) (I : List FuncId) (N : List (EntryN P)) {G : World → Prop} (X : List (EntryW P G)) (lp : LoopRule) (D : List Nat) (k : Nat) (fn : Func) (F : List AV) : Option AV :=
  match behindAt k 400 0 (fn.body.getD .skip) with
  | some (j, t) => exK P E I N X 0 lp D 4000 j 0 t F [] (answerA P fn)
  | none => none

theorem behind_ok {P : Program} {G : World → Prop} {lp : LoopRule} {D : List Nat} {k : Nat} : ∀ (n i : Nat) (c : Code) (j : Nat) (t : Code), behindAt k n i c = some (j, t) → LoopsOk P 0 G lp i c → DrawOk P D i c → LoopsOk P 0 G lp j t ∧ DrawOk P D j t
  | 0, _, _, _, _, h, _, _ => by cases h
  | n + 1, i, c, j, t, h, hl, hd => by
    unfold behindAt at h
    cases hb : beginsAt k c with
    | true =>
      rw [hb] at h
      simp only [cond_true, Option.some.injEq, Prod.mk.injEq] at h
      obtain ⟨rfl, rfl⟩ := h
      exact ⟨hl, hd⟩
    | false =>
      rw [hb] at h
      simp only [cond_false] at h
      cases c with
      | seq x y => exact behind_ok n _ y j t h (hl.right rfl) (hd.sub (Nat.le_add_right _ _) fun _ h => List.mem_append_right _ h)
      | _ => cases h

theorem run2_sound {P : Program} {E E2 : List (Entry P)} {I I2 : List FuncId} {N N2 : List (EntryN P)} {G : World → Prop} {X X2 : List (EntryW P G)} {lp : LoopRule} {D : List Nat} {k : Nat} {m : List Bool} {f : FuncId} {fn : Func} (hf : P.funcs[f]? = some fn) (hb : fn.body = some (fn.body.getD .skip)) {args : List AV} {r : AV} (hp : args.all plainA = true)
    (hfar : ∀ j, farOff ≤ j → ∀ F M, lp j F M = none) (hl : LoopsOk P 0 G lp 0 (fn.body.getD .skip)) (hd : DrawOk P D 0 (fn.body.getD .skip)) (hmono : ∀ w w', G w → Ext w w' → G w')
    (h : runHead P E I N X lp D k m fn args (runTail P E2 I2 N2 X2 lp D k fn) = some r) {σ : List (Nat × Nat)} {vs : List Value} {w : World} (hG : G w) (ha : RepF σ args vs) :
    Calls P f vs.toArray w fun e w' => ∃ v, e = .returned v ∧ Rep σ r v ∧ Ext w w' := by
  unfold runHead at h
  obtain ⟨o, F', M', hK, hg⟩ := exT_sound hfar hmono 400 0 _ _ [] r hl hd (fun j t hj F r hT => by
    unfold runTail at hT
    rw [hj] at hT
    obtain ⟨h1, h2⟩ := behind_ok 400 0 _ j t hj hl hd
    exact (exK_sound hfar hmono 4000).1 j 0 t F [] _ r h1 h2 hT) h
  exact calls_of_goesG hf hb hK (hg ⟨w, []⟩ hG (Nat.le_refl _)) hp ha
end Go.Proofs.Ytlpahmefebgdlaa.Fx
/- Contracts: RunShip, TraceShip. No condition. -/
namespace Go.Proofs.Ytlpahmefebgdlaa.Fx
open Go Go.RowKit

def trCells (s h : F32) (p : Sh) : Nat → List AC
  | 0 => [.cx .f32 p.x p.y]
  | k + 1 => trCells s h p k ++ [.cx .f32 (flS s h (k + 1) p).x (flS s h (k + 1) p).y]
theorem runShip_raw0 (s h : F32) (p : Sh) : runKM Try.prog [] [] [eFlight] (G := anyW) [] noRule Try.f53 (flArgs s h p 0) [] =
    bif (flQ s h p 0) && true then some (.tup [(flS s h 0 p).two, .sb true]) else none := by kernel_rfl
theorem trace_raw0 (s h : F32) (p : Sh) : runW Try.prog [] [] [eFlight] noRule Try.f46 (flArgs s h p 0) =
    bif (flQ s h p 0) && true then some (1, trCells s h p 0) else none := by kernel_rfl
theorem runShip_raw1 (s h : F32) (p : Sh) : runKM Try.prog [] [] [eFlight] (G := anyW) [] noRule Try.f53 (flArgs s h p 1) [] =
    bif (flQ s h p 1) && true then some (.tup [(flS s h 1 p).two, .sb true]) else none := by kernel_rfl
theorem trace_raw1 (s h : F32) (p : Sh) : runW Try.prog [] [] [eFlight] noRule Try.f46 (flArgs s h p 1) =
    bif (flQ s h p 1) && true then some (2, trCells s h p 1) else none := by kernel_rfl
theorem runShip_raw2 (s h : F32) (p : Sh) : runKM Try.prog [] [] [eFlight] (G := anyW) [] noRule Try.f53 (flArgs s h p 2) [] =
    bif (flQ s h p 2) && true then some (.tup [(flS s h 2 p).two, .sb true]) else none := by kernel_rfl
theorem trace_raw2 (s h : F32) (p : Sh) : runW Try.prog [] [] [eFlight] noRule Try.f46 (flArgs s h p 2) =
    bif (flQ s h p 2) && true then some (3, trCells s h p 2) else none := by kernel_rfl
theorem runShip_raw3 (s h : F32) (p : Sh) : runKM Try.prog [] [] [eFlight] (G := anyW) [] noRule Try.f53 (flArgs s h p 3) [] =
    bif (flQ s h p 3) && true then some (.tup [(flS s h 3 p).two, .sb true]) else none := by kernel_rfl
theorem trace_raw3 (s h : F32) (p : Sh) : runW Try.prog [] [] [eFlight] noRule Try.f46 (flArgs s h p 3) =
    bif (flQ s h p 3) && true then some (4, trCells s h p 3) else none := by kernel_rfl
theorem runShip_raw4 (s h : F32) (p : Sh) : runKM Try.prog [] [] [eFlight] (G := anyW) [] noRule Try.f53 (flArgs s h p 4) [] =
    bif (flQ s h p 4) && true then some (.tup [(flS s h 4 p).two, .sb true]) else none := by kernel_rfl
theorem trace_raw4 (s h : F32) (p : Sh) : runW Try.prog [] [] [eFlight] noRule Try.f46 (flArgs s h p 4) =
    bif (flQ s h p 4) && true then some (5, trCells s h p 4) else none := by kernel_rfl
theorem runShip_raw5 (s h : F32) (p : Sh) : runKM Try.prog [] [] [eFlight] (G := anyW) [] noRule Try.f53 (flArgs s h p 5) [] =
    bif (flQ s h p 5) && true then some (.tup [(flS s h 5 p).two, .sb true]) else none := by kernel_rfl
theorem trace_raw5 (s h : F32) (p : Sh) : runW Try.prog [] [] [eFlight] noRule Try.f46 (flArgs s h p 5) =
    bif (flQ s h p 5) && true then some (6, trCells s h p 5) else none := by kernel_rfl
theorem runShip_raw6 (s h : F32) (p : Sh) : runKM Try.prog [] [] [eFlight] (G := anyW) [] noRule Try.f53 (flArgs s h p 6) [] =
    bif (flQ s h p 6) && true then some (.tup [(flS s h 6 p).two, .sb true]) else none := by kernel_rfl
theorem trace_raw6 (s h : F32) (p : Sh) : runW Try.prog [] [] [eFlight] noRule Try.f46 (flArgs s h p 6) =
    bif (flQ s h p 6) && true then some (7, trCells s h p 6) else none := by kernel_rfl
theorem runShip_raw7 (s h : F32) (p : Sh) : runKM Try.prog [] [] [eFlight] (G := anyW) [] noRule Try.f53 (flArgs s h p 7) [] =
    bif (flQ s h p 7) && true then some (.tup [(flS s h 7 p).two, .sb true]) else none := by kernel_rfl
theorem trace_raw7 (s h : F32) (p : Sh) : runW Try.prog [] [] [eFlight] noRule Try.f46 (flArgs s h p 7) =
    bif (flQ s h p 7) && true then some (8, trCells s h p 7) else none := by kernel_rfl
theorem runShip_raw8 (s h : F32) (p : Sh) : runKM Try.prog [] [] [eFlight] (G := anyW) [] noRule Try.f53 (flArgs s h p 8) [] =
    bif (flQ s h p 8) && true then some (.tup [(flS s h 8 p).two, .sb true]) else none := by kernel_rfl
theorem trace_raw8 (s h : F32) (p : Sh) : runW Try.prog [] [] [eFlight] noRule Try.f46 (flArgs s h p 8) =
    bif (flQ s h p 8) && true then some (9, trCells s h p 8) else none := by kernel_rfl
theorem runShip_raw9 (s h : F32) (p : Sh) : runKM Try.prog [] [] [eFlight] (G := anyW) [] noRule Try.f53 (flArgs s h p 9) [] =
    bif (flQ s h p 9) && true then some (.tup [(flS s h 9 p).two, .sb true]) else none := by kernel_rfl
theorem trace_raw9 (s h : F32) (p : Sh) : runW Try.prog [] [] [eFlight] noRule Try.f46 (flArgs s h p 9) =
    bif (flQ s h p 9) && true then some (10, trCells s h p 9) else none := by kernel_rfl
theorem runShip_raw10 (s h : F32) (p : Sh) : runKM Try.prog [] [] [eFlight] (G := anyW) [] noRule Try.f53 (flArgs s h p 10) [] =
    bif (flQ s h p 10) && true then some (.tup [(flS s h 10 p).two, .sb true]) else none := by kernel_rfl
theorem trace_raw10 (s h : F32) (p : Sh) : runW Try.prog [] [] [eFlight] noRule Try.f46 (flArgs s h p 10) =
    bif (flQ s h p 10) && true then some (11, trCells s h p 10) else none := by kernel_rfl
theorem runShip_raw11 (s h : F32) (p : Sh) : runKM Try.prog [] [] [eFlight] (G := anyW) [] noRule Try.f53 (flArgs s h p 11) [] =
    bif (flQ s h p 11) && true then some (.tup [(flS s h 11 p).two, .sb true]) else none := by kernel_rfl
theorem trace_raw11 (s h : F32) (p : Sh) : runW Try.prog [] [] [eFlight] noRule Try.f46 (flArgs s h p 11) =
    bif (flQ s h p 11) && true then some (12, trCells s h p 11) else none := by kernel_rfl
theorem runShip_raw12 (s h : F32) (p : Sh) : runKM Try.prog [] [] [eFlight] (G := anyW) [] noRule Try.f53 (flArgs s h p 12) [] =
    bif (flQ s h p 12) && true then some (.tup [(flS s h 12 p).two, .sb true]) else none := by kernel_rfl
theorem trace_raw12 (s h : F32) (p : Sh) : runW Try.prog [] [] [eFlight] noRule Try.f46 (flArgs s h p 12) =
    bif (flQ s h p 12) && true then some (13, trCells s h p 12) else none := by kernel_rfl
theorem runShip_run (s h : F32) (p : Sh) {k : Nat} (hk : k ≤ 12) (hq : flQ s h p k = true) : runKM Try.prog [] [] [eFlight] (G := anyW) [] noRule Try.f53 (flArgs s h p k) [] = some (.tup [(flS s h k p).two, .sb true]) := by
  have h' : k = 0 ∨ k = 1 ∨ k = 2 ∨ k = 3 ∨ k = 4 ∨ k = 5 ∨ k = 6 ∨ k = 7 ∨ k = 8 ∨ k = 9 ∨ k = 10 ∨ k = 11 ∨ k = 12 := by omega
  rcases h' with rfl | rfl | rfl | rfl | rfl | rfl | rfl | rfl | rfl | rfl | rfl | rfl | rfl
  · rw [show flArgs s h p (((0 : Nat)) : Int) = flArgs s h p 0 from rfl, runShip_raw0, hq]; rfl
  · rw [show flArgs s h p (((1 : Nat)) : Int) = flArgs s h p 1 from rfl, runShip_raw1, hq]; rfl
  · rw [show flArgs s h p (((2 : Nat)) : Int) = flArgs s h p 2 from rfl, runShip_raw2, hq]; rfl
  · rw [show flArgs s h p (((3 : Nat)) : Int) = flArgs s h p 3 from rfl, runShip_raw3, hq]; rfl
  · rw [show flArgs s h p (((4 : Nat)) : Int) = flArgs s h p 4 from rfl, runShip_raw4, hq]; rfl
  · rw [show flArgs s h p (((5 : Nat)) : Int) = flArgs s h p 5 from rfl, runShip_raw5, hq]; rfl
  · rw [show flArgs s h p (((6 : Nat)) : Int) = flArgs s h p 6 from rfl, runShip_raw6, hq]; rfl
  · rw [show flArgs s h p (((7 : Nat)) : Int) = flArgs s h p 7 from rfl, runShip_raw7, hq]; rfl
  · rw [show flArgs s h p (((8 : Nat)) : Int) = flArgs s h p 8 from rfl, runShip_raw8, hq]; rfl
  · rw [show flArgs s h p (((9 : Nat)) : Int) = flArgs s h p 9 from rfl, runShip_raw9, hq]; rfl
  · rw [show flArgs s h p (((10 : Nat)) : Int) = flArgs s h p 10 from rfl, runShip_raw10, hq]; rfl
  · rw [show flArgs s h p (((11 : Nat)) : Int) = flArgs s h p 11 from rfl, runShip_raw11, hq]; rfl
  · rw [show flArgs s h p (((12 : Nat)) : Int) = flArgs s h p 12 from rfl, runShip_raw12, hq]; rfl
theorem trace_run (s h : F32) (p : Sh) {k : Nat} (hk : k ≤ 12) (hq : flQ s h p k = true) : runW Try.prog [] [] [eFlight] noRule Try.f46 (flArgs s h p k) = some (k + 1, trCells s h p k) := by
  have h' : k = 0 ∨ k = 1 ∨ k = 2 ∨ k = 3 ∨ k = 4 ∨ k = 5 ∨ k = 6 ∨ k = 7 ∨ k = 8 ∨ k = 9 ∨ k = 10 ∨ k = 11 ∨ k = 12 := by omega
  rcases h' with rfl | rfl | rfl | rfl | rfl | rfl | rfl | rfl | rfl | rfl | rfl | rfl | rfl
  · rw [show flArgs s h p (((0 : Nat)) : Int) = flArgs s h p 0 from rfl, trace_raw0, hq]; rfl
  · rw [show flArgs s h p (((1 : Nat)) : Int) = flArgs s h p 1 from rfl, trace_raw1, hq]; rfl
  · rw [show flArgs s h p (((2 : Nat)) : Int) = flArgs s h p 2 from rfl, trace_raw2, hq]; rfl
  · rw [show flArgs s h p (((3 : Nat)) : Int) = flArgs s h p 3 from rfl, trace_raw3, hq]; rfl
  · rw [show flArgs s h p (((4 : Nat)) : Int) = flArgs s h p 4 from rfl, trace_raw4, hq]; rfl
  · rw [show flArgs s h p (((5 : Nat)) : Int) = flArgs s h p 5 from rfl, trace_raw5, hq]; rfl
  · rw [show flArgs s h p (((6 : Nat)) : Int) = flArgs s h p 6 from rfl, trace_raw6, hq]; rfl
  · rw [show flArgs s h p (((7 : Nat)) : Int) = flArgs s h p 7 from rfl, trace_raw7, hq]; rfl
  · rw [show flArgs s h p (((8 : Nat)) : Int) = flArgs s h p 8 from rfl, trace_raw8, hq]; rfl
  · rw [show flArgs s h p (((9 : Nat)) : Int) = flArgs s h p 9 from rfl, trace_raw9, hq]; rfl
  · rw [show flArgs s h p (((10 : Nat)) : Int) = flArgs s h p 10 from rfl, trace_raw10, hq]; rfl
  · rw [show flArgs s h p (((11 : Nat)) : Int) = flArgs s h p 11 from rfl, trace_raw11, hq]; rfl
  · rw [show flArgs s h p (((12 : Nat)) : Int) = flArgs s h p 12 from rfl, trace_raw12, hq]; rfl
def shRun (g : F32 → F32 → Sh → Nat → Bool × AV) : List AV → List (List AC) → Option (Bool × AV)
  | [.c (.fl .f32 s), .agg [.cx .f32 x y, .cx .f32 u v], .c (.fl .f32 h), .c (.val (.int .i64 (.ofNat k)))], _ => some (g s h ⟨x, y, u, v⟩ k)
  | _, _ => none
def eRunShip : Entry Try.prog := { f := 53, fn := shRun fun s h p k => (decide (k ≤ 12) && flQ s h p k, .tup [(flS s h k p).two, .sb true]), ok := okMG (N := [eFlight]) (E := []) Try.func53 (by kernel_rfl) noRule_far (loopsOk_none 0 _) (by
  intro args M q h
  unfold shRun at h
  split at h
  · rename_i s x y u v t k
    simp only [Option.some.injEq, Prod.mk.injEq, Bool.and_eq_true, decide_eq_true_eq] at h
    obtain ⟨⟨h1, h2⟩, rfl⟩ := h
    exact ⟨rfl, runShip_run s t ⟨x, y, u, v⟩ h1 h2⟩
  · cases h) }
theorem trCells_length (s h : F32) (p : Sh) : ∀ k, (trCells s h p k).length = k + 1
  | 0 => rfl
  | k + 1 => by simp only [trCells, List.length_append, trCells_length s h p k]; rfl
def trFn : List AV → Option (Bool × Bool × List AC)
  | [.c (.fl .f32 s), .agg [.cx .f32 x y, .cx .f32 u v], .c (.fl .f32 h), .c (.val (.int .i64 (.ofNat k)))] => some (decide (k ≤ 12) && flQ s h ⟨x, y, u, v⟩ k, true, trCells s h ⟨x, y, u, v⟩ k)
  | _ => none
theorem trace_ok : ∀ args b cells, trFn args = some (true, b, cells) → ∀ vs w, RepF [] args vs → args.all plainA = true → Calls Try.prog 46 vs.toArray w fun e w' => Ext w w' ∧
    (match b with
    | true => ∃ (blk cap : Nat) (us : Array Value) (t : TypeId), e = .returned (.tuple #[.slice (some ⟨blk, 0, none⟩) cells.length cap, .bool true]) ∧ w.heap.size ≤ blk ∧ w'.heap[blk]? = some (.cells us t (0, 0)) ∧ RepP [] cells us.toList ∧ cap ≤ us.size ∧ cells.length ≤ cap
    | false => e = .returned (.tuple #[.slice none 0 0, .bool false])) := by
  intro args b cells h vs w ha hpl
  clear hpl
  unfold trFn at h
  split at h
  · rename_i s x y u v t k
    simp only [Option.some.injEq, Prod.mk.injEq, Bool.and_eq_true, decide_eq_true_eq] at h
    obtain ⟨⟨h1, h2⟩, rfl, rfl⟩ := h
    rw [trCells_length]
    exact runW_sound Try.func46 noRule_far (loopsOk_none 0 _) (trace_run s t ⟨x, y, u, v⟩ h1 h2) ha
  · cases h
def eTrace : EntryN Try.prog := { f := 46, fn := trFn, enter := fun _ _ => enter_of Try.func46 (by kernel_rfl) (c := Try.f46.body.getD .skip) (by kernel_rfl), ok := trace_ok }
end Go.Proofs.Ytlpahmefebgdlaa.Fx
/- Contract: ClosestPass over 12 steps. No condition. -/
namespace Go.Proofs.Ytlpahmefebgdlaa.Fx
open Go Go.RowKit

def Sh.cells (p : Sh) : List AC := [.cx .f32 p.x p.y, .cx .f32 p.u p.v]
/-- Ships that lie in a block. -/
def decSh : List AC → Option (List Sh)
  | [] => some []
  | .cx .f32 x y :: .cx .f32 u v :: l => (decSh l).map fun L => ⟨x, y, u, v⟩ :: L
  | _ => none
def encSh : List Sh → List AC
  | [] => []
  | p :: L => .cx .f32 p.x p.y :: .cx .f32 p.u p.v :: encSh L
theorem decSh_enc : ∀ (c : List AC) (L : List Sh), decSh c = some L → c = encSh L
  | [], L, h => by cases h; rfl
  | [x], L, h => by cases x <;> simp [decSh] at h
  | x :: y :: l, L, h => by
    unfold decSh at h
    split at h
    · rename_i he; cases he
    · rename_i x0 y0 u0 v0 l0 he
      simp only [List.cons.injEq] at he
      obtain ⟨rfl, rfl, rfl⟩ := he
      cases hd : decSh l with
      | none => rw [hd] at h; cases h
      | some L0 =>
        rw [hd] at h
        cases h
        rw [decSh_enc l L0 hd]; rfl
    · cases h
def cpd (s : F32) (p : Sh) : F32 := long (p.x - (one32 - s)) (p.y - c32 0)
def cpq (s : F32) (p : Sh) : Bool := fits (longF (p.x - (one32 - s)) (p.y - c32 0))
def cpFr (s : F32) (z : Int) (b : F32) (i : Int) : List AV := [.c (.fl .f32 s)] ++ List.replicate 12 (.c .any) ++ [.c (.val (.int .i64 z)), .c (.fl .f32 b)] ++ List.replicate 13 (.c .any) ++ [.c (.slc 1 13), .c (.val (.int .i64 13)), .c (.val (.int .i64 i))] ++ List.replicate 26 (.c .any)
def cpMk : List Bool := [true] ++ List.replicate 12 false ++ [true, true] ++ List.replicate 13 false ++ [true, true, true] ++ List.replicate 26 false
def cpM (b0 : List AC) (L : List Sh) (i : Nat) : List (List AC) := b0 :: encSh L :: (L.take i).map Sh.cells
def cpC (s : F32) (z : Int) (b : F32) (p : Sh) : Bool := decide (z < 0) || lt (cpd s p) b
theorem cp_round0 (s : F32) (z : Int) (b : F32) (b0 : List AC) (p0 p1 p2 p3 p4 p5 p6 p7 p8 p9 p10 p11 p12 : Sh) : exC Try.prog [eLess, eLong] 0 400 (loopN 0 Try.f47) (cpFr s z b 0) (cpM b0 [p0, p1, p2, p3, p4, p5, p6, p7, p8, p9, p10, p11, p12] 0) (fun o F M => some (o, weaken cpMk F, M)) =
    bif cpq s p0 then (bif decide (z < 0) then some (.norm, cpFr s 0 (cpd s p0) 1, cpM b0 [p0, p1, p2, p3, p4, p5, p6, p7, p8, p9, p10, p11, p12] 1) else bif lt (cpd s p0) b then some (.norm, cpFr s 0 (cpd s p0) 1, cpM b0 [p0, p1, p2, p3, p4, p5, p6, p7, p8, p9, p10, p11, p12] 1) else some (.norm, cpFr s z b 1, cpM b0 [p0, p1, p2, p3, p4, p5, p6, p7, p8, p9, p10, p11, p12] 1)) else none := by kernel_rfl
theorem cp_round1 (s : F32) (z : Int) (b : F32) (b0 : List AC) (p0 p1 p2 p3 p4 p5 p6 p7 p8 p9 p10 p11 p12 : Sh) : exC Try.prog [eLess, eLong] 0 400 (loopN 0 Try.f47) (cpFr s z b 1) (cpM b0 [p0, p1, p2, p3, p4, p5, p6, p7, p8, p9, p10, p11, p12] 1) (fun o F M => some (o, weaken cpMk F, M)) =
    bif cpq s p1 then (bif decide (z < 0) then some (.norm, cpFr s 1 (cpd s p1) 2, cpM b0 [p0, p1, p2, p3, p4, p5, p6, p7, p8, p9, p10, p11, p12] 2) else bif lt (cpd s p1) b then some (.norm, cpFr s 1 (cpd s p1) 2, cpM b0 [p0, p1, p2, p3, p4, p5, p6, p7, p8, p9, p10, p11, p12] 2) else some (.norm, cpFr s z b 2, cpM b0 [p0, p1, p2, p3, p4, p5, p6, p7, p8, p9, p10, p11, p12] 2)) else none := by kernel_rfl
theorem cp_round2 (s : F32) (z : Int) (b : F32) (b0 : List AC) (p0 p1 p2 p3 p4 p5 p6 p7 p8 p9 p10 p11 p12 : Sh) : exC Try.prog [eLess, eLong] 0 400 (loopN 0 Try.f47) (cpFr s z b 2) (cpM b0 [p0, p1, p2, p3, p4, p5, p6, p7, p8, p9, p10, p11, p12] 2) (fun o F M => some (o, weaken cpMk F, M)) =
    bif cpq s p2 then (bif decide (z < 0) then some (.norm, cpFr s 2 (cpd s p2) 3, cpM b0 [p0, p1, p2, p3, p4, p5, p6, p7, p8, p9, p10, p11, p12] 3) else bif lt (cpd s p2) b then some (.norm, cpFr s 2 (cpd s p2) 3, cpM b0 [p0, p1, p2, p3, p4, p5, p6, p7, p8, p9, p10, p11, p12] 3) else some (.norm, cpFr s z b 3, cpM b0 [p0, p1, p2, p3, p4, p5, p6, p7, p8, p9, p10, p11, p12] 3)) else none := by kernel_rfl
theorem cp_round3 (s : F32) (z : Int) (b : F32) (b0 : List AC) (p0 p1 p2 p3 p4 p5 p6 p7 p8 p9 p10 p11 p12 : Sh) : exC Try.prog [eLess, eLong] 0 400 (loopN 0 Try.f47) (cpFr s z b 3) (cpM b0 [p0, p1, p2, p3, p4, p5, p6, p7, p8, p9, p10, p11, p12] 3) (fun o F M => some (o, weaken cpMk F, M)) =
    bif cpq s p3 then (bif decide (z < 0) then some (.norm, cpFr s 3 (cpd s p3) 4, cpM b0 [p0, p1, p2, p3, p4, p5, p6, p7, p8, p9, p10, p11, p12] 4) else bif lt (cpd s p3) b then some (.norm, cpFr s 3 (cpd s p3) 4, cpM b0 [p0, p1, p2, p3, p4, p5, p6, p7, p8, p9, p10, p11, p12] 4) else some (.norm, cpFr s z b 4, cpM b0 [p0, p1, p2, p3, p4, p5, p6, p7, p8, p9, p10, p11, p12] 4)) else none := by kernel_rfl
theorem cp_round4 (s : F32) (z : Int) (b : F32) (b0 : List AC) (p0 p1 p2 p3 p4 p5 p6 p7 p8 p9 p10 p11 p12 : Sh) : exC Try.prog [eLess, eLong] 0 400 (loopN 0 Try.f47) (cpFr s z b 4) (cpM b0 [p0, p1, p2, p3, p4, p5, p6, p7, p8, p9, p10, p11, p12] 4) (fun o F M => some (o, weaken cpMk F, M)) =
    bif cpq s p4 then (bif decide (z < 0) then some (.norm, cpFr s 4 (cpd s p4) 5, cpM b0 [p0, p1, p2, p3, p4, p5, p6, p7, p8, p9, p10, p11, p12] 5) else bif lt (cpd s p4) b then some (.norm, cpFr s 4 (cpd s p4) 5, cpM b0 [p0, p1, p2, p3, p4, p5, p6, p7, p8, p9, p10, p11, p12] 5) else some (.norm, cpFr s z b 5, cpM b0 [p0, p1, p2, p3, p4, p5, p6, p7, p8, p9, p10, p11, p12] 5)) else none := by kernel_rfl
theorem cp_round5 (s : F32) (z : Int) (b : F32) (b0 : List AC) (p0 p1 p2 p3 p4 p5 p6 p7 p8 p9 p10 p11 p12 : Sh) : exC Try.prog [eLess, eLong] 0 400 (loopN 0 Try.f47) (cpFr s z b 5) (cpM b0 [p0, p1, p2, p3, p4, p5, p6, p7, p8, p9, p10, p11, p12] 5) (fun o F M => some (o, weaken cpMk F, M)) =
    bif cpq s p5 then (bif decide (z < 0) then some (.norm, cpFr s 5 (cpd s p5) 6, cpM b0 [p0, p1, p2, p3, p4, p5, p6, p7, p8, p9, p10, p11, p12] 6) else bif lt (cpd s p5) b then some (.norm, cpFr s 5 (cpd s p5) 6, cpM b0 [p0, p1, p2, p3, p4, p5, p6, p7, p8, p9, p10, p11, p12] 6) else some (.norm, cpFr s z b 6, cpM b0 [p0, p1, p2, p3, p4, p5, p6, p7, p8, p9, p10, p11, p12] 6)) else none := by kernel_rfl
theorem cp_round6 (s : F32) (z : Int) (b : F32) (b0 : List AC) (p0 p1 p2 p3 p4 p5 p6 p7 p8 p9 p10 p11 p12 : Sh) : exC Try.prog [eLess, eLong] 0 400 (loopN 0 Try.f47) (cpFr s z b 6) (cpM b0 [p0, p1, p2, p3, p4, p5, p6, p7, p8, p9, p10, p11, p12] 6) (fun o F M => some (o, weaken cpMk F, M)) =
    bif cpq s p6 then (bif decide (z < 0) then some (.norm, cpFr s 6 (cpd s p6) 7, cpM b0 [p0, p1, p2, p3, p4, p5, p6, p7, p8, p9, p10, p11, p12] 7) else bif lt (cpd s p6) b then some (.norm, cpFr s 6 (cpd s p6) 7, cpM b0 [p0, p1, p2, p3, p4, p5, p6, p7, p8, p9, p10, p11, p12] 7) else some (.norm, cpFr s z b 7, cpM b0 [p0, p1, p2, p3, p4, p5, p6, p7, p8, p9, p10, p11, p12] 7)) else none := by kernel_rfl
theorem cp_round7 (s : F32) (z : Int) (b : F32) (b0 : List AC) (p0 p1 p2 p3 p4 p5 p6 p7 p8 p9 p10 p11 p12 : Sh) : exC Try.prog [eLess, eLong] 0 400 (loopN 0 Try.f47) (cpFr s z b 7) (cpM b0 [p0, p1, p2, p3, p4, p5, p6, p7, p8, p9, p10, p11, p12] 7) (fun o F M => some (o, weaken cpMk F, M)) =
    bif cpq s p7 then (bif decide (z < 0) then some (.norm, cpFr s 7 (cpd s p7) 8, cpM b0 [p0, p1, p2, p3, p4, p5, p6, p7, p8, p9, p10, p11, p12] 8) else bif lt (cpd s p7) b then some (.norm, cpFr s 7 (cpd s p7) 8, cpM b0 [p0, p1, p2, p3, p4, p5, p6, p7, p8, p9, p10, p11, p12] 8) else some (.norm, cpFr s z b 8, cpM b0 [p0, p1, p2, p3, p4, p5, p6, p7, p8, p9, p10, p11, p12] 8)) else none := by kernel_rfl
theorem cp_round8 (s : F32) (z : Int) (b : F32) (b0 : List AC) (p0 p1 p2 p3 p4 p5 p6 p7 p8 p9 p10 p11 p12 : Sh) : exC Try.prog [eLess, eLong] 0 400 (loopN 0 Try.f47) (cpFr s z b 8) (cpM b0 [p0, p1, p2, p3, p4, p5, p6, p7, p8, p9, p10, p11, p12] 8) (fun o F M => some (o, weaken cpMk F, M)) =
    bif cpq s p8 then (bif decide (z < 0) then some (.norm, cpFr s 8 (cpd s p8) 9, cpM b0 [p0, p1, p2, p3, p4, p5, p6, p7, p8, p9, p10, p11, p12] 9) else bif lt (cpd s p8) b then some (.norm, cpFr s 8 (cpd s p8) 9, cpM b0 [p0, p1, p2, p3, p4, p5, p6, p7, p8, p9, p10, p11, p12] 9) else some (.norm, cpFr s z b 9, cpM b0 [p0, p1, p2, p3, p4, p5, p6, p7, p8, p9, p10, p11, p12] 9)) else none := by kernel_rfl
theorem cp_round9 (s : F32) (z : Int) (b : F32) (b0 : List AC) (p0 p1 p2 p3 p4 p5 p6 p7 p8 p9 p10 p11 p12 : Sh) : exC Try.prog [eLess, eLong] 0 400 (loopN 0 Try.f47) (cpFr s z b 9) (cpM b0 [p0, p1, p2, p3, p4, p5, p6, p7, p8, p9, p10, p11, p12] 9) (fun o F M => some (o, weaken cpMk F, M)) =
    bif cpq s p9 then (bif decide (z < 0) then some (.norm, cpFr s 9 (cpd s p9) 10, cpM b0 [p0, p1, p2, p3, p4, p5, p6, p7, p8, p9, p10, p11, p12] 10) else bif lt (cpd s p9) b then some (.norm, cpFr s 9 (cpd s p9) 10, cpM b0 [p0, p1, p2, p3, p4, p5, p6, p7, p8, p9, p10, p11, p12] 10) else some (.norm, cpFr s z b 10, cpM b0 [p0, p1, p2, p3, p4, p5, p6, p7, p8, p9, p10, p11, p12] 10)) else none := by kernel_rfl
theorem cp_round10 (s : F32) (z : Int) (b : F32) (b0 : List AC) (p0 p1 p2 p3 p4 p5 p6 p7 p8 p9 p10 p11 p12 : Sh) : exC Try.prog [eLess, eLong] 0 400 (loopN 0 Try.f47) (cpFr s z b 10) (cpM b0 [p0, p1, p2, p3, p4, p5, p6, p7, p8, p9, p10, p11, p12] 10) (fun o F M => some (o, weaken cpMk F, M)) =
    bif cpq s p10 then (bif decide (z < 0) then some (.norm, cpFr s 10 (cpd s p10) 11, cpM b0 [p0, p1, p2, p3, p4, p5, p6, p7, p8, p9, p10, p11, p12] 11) else bif lt (cpd s p10) b then some (.norm, cpFr s 10 (cpd s p10) 11, cpM b0 [p0, p1, p2, p3, p4, p5, p6, p7, p8, p9, p10, p11, p12] 11) else some (.norm, cpFr s z b 11, cpM b0 [p0, p1, p2, p3, p4, p5, p6, p7, p8, p9, p10, p11, p12] 11)) else none := by kernel_rfl
theorem cp_round11 (s : F32) (z : Int) (b : F32) (b0 : List AC) (p0 p1 p2 p3 p4 p5 p6 p7 p8 p9 p10 p11 p12 : Sh) : exC Try.prog [eLess, eLong] 0 400 (loopN 0 Try.f47) (cpFr s z b 11) (cpM b0 [p0, p1, p2, p3, p4, p5, p6, p7, p8, p9, p10, p11, p12] 11) (fun o F M => some (o, weaken cpMk F, M)) =
    bif cpq s p11 then (bif decide (z < 0) then some (.norm, cpFr s 11 (cpd s p11) 12, cpM b0 [p0, p1, p2, p3, p4, p5, p6, p7, p8, p9, p10, p11, p12] 12) else bif lt (cpd s p11) b then some (.norm, cpFr s 11 (cpd s p11) 12, cpM b0 [p0, p1, p2, p3, p4, p5, p6, p7, p8, p9, p10, p11, p12] 12) else some (.norm, cpFr s z b 12, cpM b0 [p0, p1, p2, p3, p4, p5, p6, p7, p8, p9, p10, p11, p12] 12)) else none := by kernel_rfl
theorem cp_round12 (s : F32) (z : Int) (b : F32) (b0 : List AC) (p0 p1 p2 p3 p4 p5 p6 p7 p8 p9 p10 p11 p12 : Sh) : exC Try.prog [eLess, eLong] 0 400 (loopN 0 Try.f47) (cpFr s z b 12) (cpM b0 [p0, p1, p2, p3, p4, p5, p6, p7, p8, p9, p10, p11, p12] 12) (fun o F M => some (o, weaken cpMk F, M)) =
    bif cpq s p12 then (bif decide (z < 0) then some (.norm, cpFr s 12 (cpd s p12) 13, cpM b0 [p0, p1, p2, p3, p4, p5, p6, p7, p8, p9, p10, p11, p12] 13) else bif lt (cpd s p12) b then some (.norm, cpFr s 12 (cpd s p12) 13, cpM b0 [p0, p1, p2, p3, p4, p5, p6, p7, p8, p9, p10, p11, p12] 13) else some (.norm, cpFr s z b 13, cpM b0 [p0, p1, p2, p3, p4, p5, p6, p7, p8, p9, p10, p11, p12] 13)) else none := by kernel_rfl
theorem cp_last (s : F32) (z : Int) (b : F32) (b0 : List AC) (p0 p1 p2 p3 p4 p5 p6 p7 p8 p9 p10 p11 p12 : Sh) : exC Try.prog [eLess, eLong] 0 400 (loopN 0 Try.f47) (cpFr s z b 13) (cpM b0 [p0, p1, p2, p3, p4, p5, p6, p7, p8, p9, p10, p11, p12] 13) (fun o F M => some (o, weaken cpMk F, M)) = some (.exit 0, cpFr s z b 13, cpM b0 [p0, p1, p2, p3, p4, p5, p6, p7, p8, p9, p10, p11, p12] 13) := by kernel_rfl
def cpAll (s : F32) : List Sh → Bool
  | [] => true
  | p :: L => cpq s p && cpAll s L
/-- The least distance and its index. -/
def cpZ (s : F32) : Int → Int → F32 → List Sh → Int × F32
  | _, z, b, [] => (z, b)
  | i, z, b, p :: L => cpZ s (i + 1) (bif cpC s z b p then i else z) (bif cpC s z b p then cpd s p else b) L
theorem cpZ_yes (s : F32) (i z : Int) (b : F32) (p : Sh) (L : List Sh) (h : cpC s z b p = true) : cpZ s i z b (p :: L) = cpZ s (i + 1) i (cpd s p) L := by
  simp only [cpZ, h, cond_true]
theorem cpZ_no (s : F32) (i z : Int) (b : F32) (p : Sh) (L : List Sh) (h : cpC s z b p = false) : cpZ s i z b (p :: L) = cpZ s (i + 1) z b L := by
  simp only [cpZ, h, cond_false]
theorem cp_from13 (w0 : Base) (s : F32) (z : Int) (b : F32) (b0 : List AC) (p0 p1 p2 p3 p4 p5 p6 p7 p8 p9 p10 p11 p12 : Sh) : InGoes Try.prog 0 w0 (loopN 0 Try.f47) (cpFr s z b 13) (cpM b0 [p0, p1, p2, p3, p4, p5, p6, p7, p8, p9, p10, p11, p12] 13) (.exit 0) (cpFr s (cpZ s 13 z b []).1 (cpZ s 13 z b []).2 13) (cpM b0 [p0, p1, p2, p3, p4, p5, p6, p7, p8, p9, p10, p11, p12] 13) :=
  goes_last (fun h => by cases h) (goes_of_exC w0 (cp_last s z b b0 p0 p1 p2 p3 p4 p5 p6 p7 p8 p9 p10 p11 p12))
theorem cp_from12 (w0 : Base) (s : F32) (z : Int) (b : F32) (b0 : List AC) (p0 p1 p2 p3 p4 p5 p6 p7 p8 p9 p10 p11 p12 : Sh) (h : cpAll s [p12] = true) : InGoes Try.prog 0 w0 (loopN 0 Try.f47) (cpFr s z b 12) (cpM b0 [p0, p1, p2, p3, p4, p5, p6, p7, p8, p9, p10, p11, p12] 12) (.exit 0) (cpFr s (cpZ s 12 z b [p12]).1 (cpZ s 12 z b [p12]).2 13) (cpM b0 [p0, p1, p2, p3, p4, p5, p6, p7, p8, p9, p10, p11, p12] 13) := by
  have hr := cp_round12 s z b b0 p0 p1 p2 p3 p4 p5 p6 p7 p8 p9 p10 p11 p12
  have h' : (cpq s p12 && cpAll s []) = true := h
  rw [Bool.and_eq_true] at h'
  rw [h'.1] at hr
  cases hz : decide (z < 0) with
  | true =>
    rw [hz] at hr
    rw [cpZ_yes s 12 z b p12 [] (by unfold cpC; rw [hz]; rfl)]
    exact goes_round (goes_of_exC w0 hr) (cp_from13 w0 s 12 (cpd s p12) b0 p0 p1 p2 p3 p4 p5 p6 p7 p8 p9 p10 p11 p12)
  | false =>
    rw [hz] at hr
    cases hd : lt (cpd s p12) b with
    | true =>
      rw [hd] at hr
      rw [cpZ_yes s 12 z b p12 [] (by unfold cpC; rw [hz, hd]; rfl)]
      exact goes_round (goes_of_exC w0 hr) (cp_from13 w0 s 12 (cpd s p12) b0 p0 p1 p2 p3 p4 p5 p6 p7 p8 p9 p10 p11 p12)
    | false =>
      rw [hd] at hr
      rw [cpZ_no s 12 z b p12 [] (by unfold cpC; rw [hz, hd]; rfl)]
      exact goes_round (goes_of_exC w0 hr) (cp_from13 w0 s z b b0 p0 p1 p2 p3 p4 p5 p6 p7 p8 p9 p10 p11 p12)
theorem cp_from11 (w0 : Base) (s : F32) (z : Int) (b : F32) (b0 : List AC) (p0 p1 p2 p3 p4 p5 p6 p7 p8 p9 p10 p11 p12 : Sh) (h : cpAll s [p11, p12] = true) : InGoes Try.prog 0 w0 (loopN 0 Try.f47) (cpFr s z b 11) (cpM b0 [p0, p1, p2, p3, p4, p5, p6, p7, p8, p9, p10, p11, p12] 11) (.exit 0) (cpFr s (cpZ s 11 z b [p11, p12]).1 (cpZ s 11 z b [p11, p12]).2 13) (cpM b0 [p0, p1, p2, p3, p4, p5, p6, p7, p8, p9, p10, p11, p12] 13) := by
  have hr := cp_round11 s z b b0 p0 p1 p2 p3 p4 p5 p6 p7 p8 p9 p10 p11 p12
  have h' : (cpq s p11 && cpAll s [p12]) = true := h
  rw [Bool.and_eq_true] at h'
  rw [h'.1] at hr
  cases hz : decide (z < 0) with
  | true =>
    rw [hz] at hr
    rw [cpZ_yes s 11 z b p11 [p12] (by unfold cpC; rw [hz]; rfl)]
    exact goes_round (goes_of_exC w0 hr) (cp_from12 w0 s 11 (cpd s p11) b0 p0 p1 p2 p3 p4 p5 p6 p7 p8 p9 p10 p11 p12 h'.2)
  | false =>
    rw [hz] at hr
    cases hd : lt (cpd s p11) b with
    | true =>
      rw [hd] at hr
      rw [cpZ_yes s 11 z b p11 [p12] (by unfold cpC; rw [hz, hd]; rfl)]
      exact goes_round (goes_of_exC w0 hr) (cp_from12 w0 s 11 (cpd s p11) b0 p0 p1 p2 p3 p4 p5 p6 p7 p8 p9 p10 p11 p12 h'.2)
    | false =>
      rw [hd] at hr
      rw [cpZ_no s 11 z b p11 [p12] (by unfold cpC; rw [hz, hd]; rfl)]
      exact goes_round (goes_of_exC w0 hr) (cp_from12 w0 s z b b0 p0 p1 p2 p3 p4 p5 p6 p7 p8 p9 p10 p11 p12 h'.2)
theorem cp_from10 (w0 : Base) (s : F32) (z : Int) (b : F32) (b0 : List AC) (p0 p1 p2 p3 p4 p5 p6 p7 p8 p9 p10 p11 p12 : Sh) (h : cpAll s [p10, p11, p12] = true) : InGoes Try.prog 0 w0 (loopN 0 Try.f47) (cpFr s z b 10) (cpM b0 [p0, p1, p2, p3, p4, p5, p6, p7, p8, p9, p10, p11, p12] 10) (.exit 0) (cpFr s (cpZ s 10 z b [p10, p11, p12]).1 (cpZ s 10 z b [p10, p11, p12]).2 13) (cpM b0 [p0, p1, p2, p3, p4, p5, p6, p7, p8, p9, p10, p11, p12] 13) := by
  have hr := cp_round10 s z b b0 p0 p1 p2 p3 p4 p5 p6 p7 p8 p9 p10 p11 p12
  have h' : (cpq s p10 && cpAll s [p11, p12]) = true := h
  rw [Bool.and_eq_true] at h'
  rw [h'.1] at hr
  cases hz : decide (z < 0) with
  | true =>
    rw [hz] at hr
    rw [cpZ_yes s 10 z b p10 [p11, p12] (by unfold cpC; rw [hz]; rfl)]
    exact goes_round (goes_of_exC w0 hr) (cp_from11 w0 s 10 (cpd s p10) b0 p0 p1 p2 p3 p4 p5 p6 p7 p8 p9 p10 p11 p12 h'.2)
  | false =>
    rw [hz] at hr
    cases hd : lt (cpd s p10) b with
    | true =>
      rw [hd] at hr
      rw [cpZ_yes s 10 z b p10 [p11, p12] (by unfold cpC; rw [hz, hd]; rfl)]
      exact goes_round (goes_of_exC w0 hr) (cp_from11 w0 s 10 (cpd s p10) b0 p0 p1 p2 p3 p4 p5 p6 p7 p8 p9 p10 p11 p12 h'.2)
    | false =>
      rw [hd] at hr
      rw [cpZ_no s 10 z b p10 [p11, p12] (by unfold cpC; rw [hz, hd]; rfl)]
      exact goes_round (goes_of_exC w0 hr) (cp_from11 w0 s z b b0 p0 p1 p2 p3 p4 p5 p6 p7 p8 p9 p10 p11 p12 h'.2)
theorem cp_from9 (w0 : Base) (s : F32) (z : Int) (b : F32) (b0 : List AC) (p0 p1 p2 p3 p4 p5 p6 p7 p8 p9 p10 p11 p12 : Sh) (h : cpAll s [p9, p10, p11, p12] = true) : InGoes Try.prog 0 w0 (loopN 0 Try.f47) (cpFr s z b 9) (cpM b0 [p0, p1, p2, p3, p4, p5, p6, p7, p8, p9, p10, p11, p12] 9) (.exit 0) (cpFr s (cpZ s 9 z b [p9, p10, p11, p12]).1 (cpZ s 9 z b [p9, p10, p11, p12]).2 13) (cpM b0 [p0, p1, p2, p3, p4, p5, p6, p7, p8, p9, p10, p11, p12] 13) := by
  have hr := cp_round9 s z b b0 p0 p1 p2 p3 p4 p5 p6 p7 p8 p9 p10 p11 p12
  have h' : (cpq s p9 && cpAll s [p10, p11, p12]) = true := h
  rw [Bool.and_eq_true] at h'
  rw [h'.1] at hr
  cases hz : decide (z < 0) with
  | true =>
    rw [hz] at hr
    rw [cpZ_yes s 9 z b p9 [p10, p11, p12] (by unfold cpC; rw [hz]; rfl)]
    exact goes_round (goes_of_exC w0 hr) (cp_from10 w0 s 9 (cpd s p9) b0 p0 p1 p2 p3 p4 p5 p6 p7 p8 p9 p10 p11 p12 h'.2)
  | false =>
    rw [hz] at hr
    cases hd : lt (cpd s p9) b with
    | true =>
      rw [hd] at hr
      rw [cpZ_yes s 9 z b p9 [p10, p11, p12] (by unfold cpC; rw [hz, hd]; rfl)]
      exact goes_round (goes_of_exC w0 hr) (cp_from10 w0 s 9 (cpd s p9) b0 p0 p1 p2 p3 p4 p5 p6 p7 p8 p9 p10 p11 p12 h'.2)
    | false =>
      rw [hd] at hr
      rw [cpZ_no s 9 z b p9 [p10, p11, p12] (by unfold cpC; rw [hz, hd]; rfl)]
      exact goes_round (goes_of_exC w0 hr) (cp_from10 w0 s z b b0 p0 p1 p2 p3 p4 p5 p6 p7 p8 p9 p10 p11 p12 h'.2)
theorem cp_from8 (w0 : Base) (s : F32) (z : Int) (b : F32) (b0 : List AC) (p0 p1 p2 p3 p4 p5 p6 p7 p8 p9 p10 p11 p12 : Sh) (h : cpAll s [p8, p9, p10, p11, p12] = true) : InGoes Try.prog 0 w0 (loopN 0 Try.f47) (cpFr s z b 8) (cpM b0 [p0, p1, p2, p3, p4, p5, p6, p7, p8, p9, p10, p11, p12] 8) (.exit 0) (cpFr s (cpZ s 8 z b [p8, p9, p10, p11, p12]).1 (cpZ s 8 z b [p8, p9, p10, p11, p12]).2 13) (cpM b0 [p0, p1, p2, p3, p4, p5, p6, p7, p8, p9, p10, p11, p12] 13) := by
  have hr := cp_round8 s z b b0 p0 p1 p2 p3 p4 p5 p6 p7 p8 p9 p10 p11 p12
  have h' : (cpq s p8 && cpAll s [p9, p10, p11, p12]) = true := h
  rw [Bool.and_eq_true] at h'
  rw [h'.1] at hr
  cases hz : decide (z < 0) with
  | true =>
    rw [hz] at hr
    rw [cpZ_yes s 8 z b p8 [p9, p10, p11, p12] (by unfold cpC; rw [hz]; rfl)]
    exact goes_round (goes_of_exC w0 hr) (cp_from9 w0 s 8 (cpd s p8) b0 p0 p1 p2 p3 p4 p5 p6 p7 p8 p9 p10 p11 p12 h'.2)
  | false =>
    rw [hz] at hr
    cases hd : lt (cpd s p8) b with
    | true =>
      rw [hd] at hr
      rw [cpZ_yes s 8 z b p8 [p9, p10, p11, p12] (by unfold cpC; rw [hz, hd]; rfl)]
      exact goes_round (goes_of_exC w0 hr) (cp_from9 w0 s 8 (cpd s p8) b0 p0 p1 p2 p3 p4 p5 p6 p7 p8 p9 p10 p11 p12 h'.2)
    | false =>
      rw [hd] at hr
      rw [cpZ_no s 8 z b p8 [p9, p10, p11, p12] (by unfold cpC; rw [hz, hd]; rfl)]
      exact goes_round (goes_of_exC w0 hr) (cp_from9 w0 s z b b0 p0 p1 p2 p3 p4 p5 p6 p7 p8 p9 p10 p11 p12 h'.2)
theorem cp_from7 (w0 : Base) (s : F32) (z : Int) (b : F32) (b0 : List AC) (p0 p1 p2 p3 p4 p5 p6 p7 p8 p9 p10 p11 p12 : Sh) (h : cpAll s [p7, p8, p9, p10, p11, p12] = true) : InGoes Try.prog 0 w0 (loopN 0 Try.f47) (cpFr s z b 7) (cpM b0 [p0, p1, p2, p3, p4, p5, p6, p7, p8, p9, p10, p11, p12] 7) (.exit 0) (cpFr s (cpZ s 7 z b [p7, p8, p9, p10, p11, p12]).1 (cpZ s 7 z b [p7, p8, p9, p10, p11, p12]).2 13) (cpM b0 [p0, p1, p2, p3, p4, p5, p6, p7, p8, p9, p10, p11, p12] 13) := by
  have hr := cp_round7 s z b b0 p0 p1 p2 p3 p4 p5 p6 p7 p8 p9 p10 p11 p12
  have h' : (cpq s p7 && cpAll s [p8, p9, p10, p11, p12]) = true := h
  rw [Bool.and_eq_true] at h'
  rw [h'.1] at hr
  cases hz : decide (z < 0) with
  | true =>
    rw [hz] at hr
    rw [cpZ_yes s 7 z b p7 [p8, p9, p10, p11, p12] (by unfold cpC; rw [hz]; rfl)]
    exact goes_round (goes_of_exC w0 hr) (cp_from8 w0 s 7 (cpd s p7) b0 p0 p1 p2 p3 p4 p5 p6 p7 p8 p9 p10 p11 p12 h'.2)
  | false =>
    rw [hz] at hr
    cases hd : lt (cpd s p7) b with
    | true =>
      rw [hd] at hr
      rw [cpZ_yes s 7 z b p7 [p8, p9, p10, p11, p12] (by unfold cpC; rw [hz, hd]; rfl)]
      exact goes_round (goes_of_exC w0 hr) (cp_from8 w0 s 7 (cpd s p7) b0 p0 p1 p2 p3 p4 p5 p6 p7 p8 p9 p10 p11 p12 h'.2)
    | false =>
      rw [hd] at hr
      rw [cpZ_no s 7 z b p7 [p8, p9, p10, p11, p12] (by unfold cpC; rw [hz, hd]; rfl)]
      exact goes_round (goes_of_exC w0 hr) (cp_from8 w0 s z b b0 p0 p1 p2 p3 p4 p5 p6 p7 p8 p9 p10 p11 p12 h'.2)
theorem cp_from6 (w0 : Base) (s : F32) (z : Int) (b : F32) (b0 : List AC) (p0 p1 p2 p3 p4 p5 p6 p7 p8 p9 p10 p11 p12 : Sh) (h : cpAll s [p6, p7, p8, p9, p10, p11, p12] = true) : InGoes Try.prog 0 w0 (loopN 0 Try.f47) (cpFr s z b 6) (cpM b0 [p0, p1, p2, p3, p4, p5, p6, p7, p8, p9, p10, p11, p12] 6) (.exit 0) (cpFr s (cpZ s 6 z b [p6, p7, p8, p9, p10, p11, p12]).1 (cpZ s 6 z b [p6, p7, p8, p9, p10, p11, p12]).2 13) (cpM b0 [p0, p1, p2, p3, p4, p5, p6, p7, p8, p9, p10, p11, p12] 13) := by
  have hr := cp_round6 s z b b0 p0 p1 p2 p3 p4 p5 p6 p7 p8 p9 p10 p11 p12
  have h' : (cpq s p6 && cpAll s [p7, p8, p9, p10, p11, p12]) = true := h
  rw [Bool.and_eq_true] at h'
  rw [h'.1] at hr
  cases hz : decide (z < 0) with
  | true =>
    rw [hz] at hr
    rw [cpZ_yes s 6 z b p6 [p7, p8, p9, p10, p11, p12] (by unfold cpC; rw [hz]; rfl)]
    exact goes_round (goes_of_exC w0 hr) (cp_from7 w0 s 6 (cpd s p6) b0 p0 p1 p2 p3 p4 p5 p6 p7 p8 p9 p10 p11 p12 h'.2)
  | false =>
    rw [hz] at hr
    cases hd : lt (cpd s p6) b with
    | true =>
      rw [hd] at hr
      rw [cpZ_yes s 6 z b p6 [p7, p8, p9, p10, p11, p12] (by unfold cpC; rw [hz, hd]; rfl)]
      exact goes_round (goes_of_exC w0 hr) (cp_from7 w0 s 6 (cpd s p6) b0 p0 p1 p2 p3 p4 p5 p6 p7 p8 p9 p10 p11 p12 h'.2)
    | false =>
      rw [hd] at hr
      rw [cpZ_no s 6 z b p6 [p7, p8, p9, p10, p11, p12] (by unfold cpC; rw [hz, hd]; rfl)]
      exact goes_round (goes_of_exC w0 hr) (cp_from7 w0 s z b b0 p0 p1 p2 p3 p4 p5 p6 p7 p8 p9 p10 p11 p12 h'.2)
theorem cp_from5 (w0 : Base) (s : F32) (z : Int) (b : F32) (b0 : List AC) (p0 p1 p2 p3 p4 p5 p6 p7 p8 p9 p10 p11 p12 : Sh) (h : cpAll s [p5, p6, p7, p8, p9, p10, p11, p12] = true) : InGoes Try.prog 0 w0 (loopN 0 Try.f47) (cpFr s z b 5) (cpM b0 [p0, p1, p2, p3, p4, p5, p6, p7, p8, p9, p10, p11, p12] 5) (.exit 0) (cpFr s (cpZ s 5 z b [p5, p6, p7, p8, p9, p10, p11, p12]).1 (cpZ s 5 z b [p5, p6, p7, p8, p9, p10, p11, p12]).2 13) (cpM b0 [p0, p1, p2, p3, p4, p5, p6, p7, p8, p9, p10, p11, p12] 13) := by
  have hr := cp_round5 s z b b0 p0 p1 p2 p3 p4 p5 p6 p7 p8 p9 p10 p11 p12
  have h' : (cpq s p5 && cpAll s [p6, p7, p8, p9, p10, p11, p12]) = true := h
  rw [Bool.and_eq_true] at h'
  rw [h'.1] at hr
  cases hz : decide (z < 0) with
  | true =>
    rw [hz] at hr
    rw [cpZ_yes s 5 z b p5 [p6, p7, p8, p9, p10, p11, p12] (by unfold cpC; rw [hz]; rfl)]
    exact goes_round (goes_of_exC w0 hr) (cp_from6 w0 s 5 (cpd s p5) b0 p0 p1 p2 p3 p4 p5 p6 p7 p8 p9 p10 p11 p12 h'.2)
  | false =>
    rw [hz] at hr
    cases hd : lt (cpd s p5) b with
    | true =>
      rw [hd] at hr
      rw [cpZ_yes s 5 z b p5 [p6, p7, p8, p9, p10, p11, p12] (by unfold cpC; rw [hz, hd]; rfl)]
      exact goes_round (goes_of_exC w0 hr) (cp_from6 w0 s 5 (cpd s p5) b0 p0 p1 p2 p3 p4 p5 p6 p7 p8 p9 p10 p11 p12 h'.2)
    | false =>
      rw [hd] at hr
      rw [cpZ_no s 5 z b p5 [p6, p7, p8, p9, p10, p11, p12] (by unfold cpC; rw [hz, hd]; rfl)]
      exact goes_round (goes_of_exC w0 hr) (cp_from6 w0 s z b b0 p0 p1 p2 p3 p4 p5 p6 p7 p8 p9 p10 p11 p12 h'.2)
theorem cp_from4 (w0 : Base) (s : F32) (z : Int) (b : F32) (b0 : List AC) (p0 p1 p2 p3 p4 p5 p6 p7 p8 p9 p10 p11 p12 : Sh) (h : cpAll s [p4, p5, p6, p7, p8, p9, p10, p11, p12] = true) : InGoes Try.prog 0 w0 (loopN 0 Try.f47) (cpFr s z b 4) (cpM b0 [p0, p1, p2, p3, p4, p5, p6, p7, p8, p9, p10, p11, p12] 4) (.exit 0) (cpFr s (cpZ s 4 z b [p4, p5, p6, p7, p8, p9, p10, p11, p12]).1 (cpZ s 4 z b [p4, p5, p6, p7, p8, p9, p10, p11, p12]).2 13) (cpM b0 [p0, p1, p2, p3, p4, p5, p6, p7, p8, p9, p10, p11, p12] 13) := by
  have hr := cp_round4 s z b b0 p0 p1 p2 p3 p4 p5 p6 p7 p8 p9 p10 p11 p12
  have h' : (cpq s p4 && cpAll s [p5, p6, p7, p8, p9, p10, p11, p12]) = true := h
  rw [Bool.and_eq_true] at h'
  rw [h'.1] at hr
  cases hz : decide (z < 0) with
  | true =>
    rw [hz] at hr
    rw [cpZ_yes s 4 z b p4 [p5, p6, p7, p8, p9, p10, p11, p12] (by unfold cpC; rw [hz]; rfl)]
    exact goes_round (goes_of_exC w0 hr) (cp_from5 w0 s 4 (cpd s p4) b0 p0 p1 p2 p3 p4 p5 p6 p7 p8 p9 p10 p11 p12 h'.2)
  | false =>
    rw [hz] at hr
    cases hd : lt (cpd s p4) b with
    | true =>
      rw [hd] at hr
      rw [cpZ_yes s 4 z b p4 [p5, p6, p7, p8, p9, p10, p11, p12] (by unfold cpC; rw [hz, hd]; rfl)]
      exact goes_round (goes_of_exC w0 hr) (cp_from5 w0 s 4 (cpd s p4) b0 p0 p1 p2 p3 p4 p5 p6 p7 p8 p9 p10 p11 p12 h'.2)
    | false =>
      rw [hd] at hr
      rw [cpZ_no s 4 z b p4 [p5, p6, p7, p8, p9, p10, p11, p12] (by unfold cpC; rw [hz, hd]; rfl)]
      exact goes_round (goes_of_exC w0 hr) (cp_from5 w0 s z b b0 p0 p1 p2 p3 p4 p5 p6 p7 p8 p9 p10 p11 p12 h'.2)
theorem cp_from3 (w0 : Base) (s : F32) (z : Int) (b : F32) (b0 : List AC) (p0 p1 p2 p3 p4 p5 p6 p7 p8 p9 p10 p11 p12 : Sh) (h : cpAll s [p3, p4, p5, p6, p7, p8, p9, p10, p11, p12] = true) : InGoes Try.prog 0 w0 (loopN 0 Try.f47) (cpFr s z b 3) (cpM b0 [p0, p1, p2, p3, p4, p5, p6, p7, p8, p9, p10, p11, p12] 3) (.exit 0) (cpFr s (cpZ s 3 z b [p3, p4, p5, p6, p7, p8, p9, p10, p11, p12]).1 (cpZ s 3 z b [p3, p4, p5, p6, p7, p8, p9, p10, p11, p12]).2 13) (cpM b0 [p0, p1, p2, p3, p4, p5, p6, p7, p8, p9, p10, p11, p12] 13) := by
  have hr := cp_round3 s z b b0 p0 p1 p2 p3 p4 p5 p6 p7 p8 p9 p10 p11 p12
  have h' : (cpq s p3 && cpAll s [p4, p5, p6, p7, p8, p9, p10, p11, p12]) = true := h
  rw [Bool.and_eq_true] at h'
  rw [h'.1] at hr
  cases hz : decide (z < 0) with
  | true =>
    rw [hz] at hr
    rw [cpZ_yes s 3 z b p3 [p4, p5, p6, p7, p8, p9, p10, p11, p12] (by unfold cpC; rw [hz]; rfl)]
    exact goes_round (goes_of_exC w0 hr) (cp_from4 w0 s 3 (cpd s p3) b0 p0 p1 p2 p3 p4 p5 p6 p7 p8 p9 p10 p11 p12 h'.2)
  | false =>
    rw [hz] at hr
    cases hd : lt (cpd s p3) b with
    | true =>
      rw [hd] at hr
      rw [cpZ_yes s 3 z b p3 [p4, p5, p6, p7, p8, p9, p10, p11, p12] (by unfold cpC; rw [hz, hd]; rfl)]
      exact goes_round (goes_of_exC w0 hr) (cp_from4 w0 s 3 (cpd s p3) b0 p0 p1 p2 p3 p4 p5 p6 p7 p8 p9 p10 p11 p12 h'.2)
    | false =>
      rw [hd] at hr
      rw [cpZ_no s 3 z b p3 [p4, p5, p6, p7, p8, p9, p10, p11, p12] (by unfold cpC; rw [hz, hd]; rfl)]
      exact goes_round (goes_of_exC w0 hr) (cp_from4 w0 s z b b0 p0 p1 p2 p3 p4 p5 p6 p7 p8 p9 p10 p11 p12 h'.2)
theorem cp_from2 (w0 : Base) (s : F32) (z : Int) (b : F32) (b0 : List AC) (p0 p1 p2 p3 p4 p5 p6 p7 p8 p9 p10 p11 p12 : Sh) (h : cpAll s [p2, p3, p4, p5, p6, p7, p8, p9, p10, p11, p12] = true) : InGoes Try.prog 0 w0 (loopN 0 Try.f47) (cpFr s z b 2) (cpM b0 [p0, p1, p2, p3, p4, p5, p6, p7, p8, p9, p10, p11, p12] 2) (.exit 0) (cpFr s (cpZ s 2 z b [p2, p3, p4, p5, p6, p7, p8, p9, p10, p11, p12]).1 (cpZ s 2 z b [p2, p3, p4, p5, p6, p7, p8, p9, p10, p11, p12]).2 13) (cpM b0 [p0, p1, p2, p3, p4, p5, p6, p7, p8, p9, p10, p11, p12] 13) := by
  have hr := cp_round2 s z b b0 p0 p1 p2 p3 p4 p5 p6 p7 p8 p9 p10 p11 p12
  have h' : (cpq s p2 && cpAll s [p3, p4, p5, p6, p7, p8, p9, p10, p11, p12]) = true := h
  rw [Bool.and_eq_true] at h'
  rw [h'.1] at hr
  cases hz : decide (z < 0) with
  | true =>
    rw [hz] at hr
    rw [cpZ_yes s 2 z b p2 [p3, p4, p5, p6, p7, p8, p9, p10, p11, p12] (by unfold cpC; rw [hz]; rfl)]
    exact goes_round (goes_of_exC w0 hr) (cp_from3 w0 s 2 (cpd s p2) b0 p0 p1 p2 p3 p4 p5 p6 p7 p8 p9 p10 p11 p12 h'.2)
  | false =>
    rw [hz] at hr
    cases hd : lt (cpd s p2) b with
    | true =>
      rw [hd] at hr
      rw [cpZ_yes s 2 z b p2 [p3, p4, p5, p6, p7, p8, p9, p10, p11, p12] (by unfold cpC; rw [hz, hd]; rfl)]
      exact goes_round (goes_of_exC w0 hr) (cp_from3 w0 s 2 (cpd s p2) b0 p0 p1 p2 p3 p4 p5 p6 p7 p8 p9 p10 p11 p12 h'.2)
    | false =>
      rw [hd] at hr
      rw [cpZ_no s 2 z b p2 [p3, p4, p5, p6, p7, p8, p9, p10, p11, p12] (by unfold cpC; rw [hz, hd]; rfl)]
      exact goes_round (goes_of_exC w0 hr) (cp_from3 w0 s z b b0 p0 p1 p2 p3 p4 p5 p6 p7 p8 p9 p10 p11 p12 h'.2)
theorem cp_from1 (w0 : Base) (s : F32) (z : Int) (b : F32) (b0 : List AC) (p0 p1 p2 p3 p4 p5 p6 p7 p8 p9 p10 p11 p12 : Sh) (h : cpAll s [p1, p2, p3, p4, p5, p6, p7, p8, p9, p10, p11, p12] = true) : InGoes Try.prog 0 w0 (loopN 0 Try.f47) (cpFr s z b 1) (cpM b0 [p0, p1, p2, p3, p4, p5, p6, p7, p8, p9, p10, p11, p12] 1) (.exit 0) (cpFr s (cpZ s 1 z b [p1, p2, p3, p4, p5, p6, p7, p8, p9, p10, p11, p12]).1 (cpZ s 1 z b [p1, p2, p3, p4, p5, p6, p7, p8, p9, p10, p11, p12]).2 13) (cpM b0 [p0, p1, p2, p3, p4, p5, p6, p7, p8, p9, p10, p11, p12] 13) := by
  have hr := cp_round1 s z b b0 p0 p1 p2 p3 p4 p5 p6 p7 p8 p9 p10 p11 p12
  have h' : (cpq s p1 && cpAll s [p2, p3, p4, p5, p6, p7, p8, p9, p10, p11, p12]) = true := h
  rw [Bool.and_eq_true] at h'
  rw [h'.1] at hr
  cases hz : decide (z < 0) with
  | true =>
    rw [hz] at hr
    rw [cpZ_yes s 1 z b p1 [p2, p3, p4, p5, p6, p7, p8, p9, p10, p11, p12] (by unfold cpC; rw [hz]; rfl)]
    exact goes_round (goes_of_exC w0 hr) (cp_from2 w0 s 1 (cpd s p1) b0 p0 p1 p2 p3 p4 p5 p6 p7 p8 p9 p10 p11 p12 h'.2)
  | false =>
    rw [hz] at hr
    cases hd : lt (cpd s p1) b with
    | true =>
      rw [hd] at hr
      rw [cpZ_yes s 1 z b p1 [p2, p3, p4, p5, p6, p7, p8, p9, p10, p11, p12] (by unfold cpC; rw [hz, hd]; rfl)]
      exact goes_round (goes_of_exC w0 hr) (cp_from2 w0 s 1 (cpd s p1) b0 p0 p1 p2 p3 p4 p5 p6 p7 p8 p9 p10 p11 p12 h'.2)
    | false =>
      rw [hd] at hr
      rw [cpZ_no s 1 z b p1 [p2, p3, p4, p5, p6, p7, p8, p9, p10, p11, p12] (by unfold cpC; rw [hz, hd]; rfl)]
      exact goes_round (goes_of_exC w0 hr) (cp_from2 w0 s z b b0 p0 p1 p2 p3 p4 p5 p6 p7 p8 p9 p10 p11 p12 h'.2)
theorem cp_from0 (w0 : Base) (s : F32) (z : Int) (b : F32) (b0 : List AC) (p0 p1 p2 p3 p4 p5 p6 p7 p8 p9 p10 p11 p12 : Sh) (h : cpAll s [p0, p1, p2, p3, p4, p5, p6, p7, p8, p9, p10, p11, p12] = true) : InGoes Try.prog 0 w0 (loopN 0 Try.f47) (cpFr s z b 0) (cpM b0 [p0, p1, p2, p3, p4, p5, p6, p7, p8, p9, p10, p11, p12] 0) (.exit 0) (cpFr s (cpZ s 0 z b [p0, p1, p2, p3, p4, p5, p6, p7, p8, p9, p10, p11, p12]).1 (cpZ s 0 z b [p0, p1, p2, p3, p4, p5, p6, p7, p8, p9, p10, p11, p12]).2 13) (cpM b0 [p0, p1, p2, p3, p4, p5, p6, p7, p8, p9, p10, p11, p12] 13) := by
  have hr := cp_round0 s z b b0 p0 p1 p2 p3 p4 p5 p6 p7 p8 p9 p10 p11 p12
  have h' : (cpq s p0 && cpAll s [p1, p2, p3, p4, p5, p6, p7, p8, p9, p10, p11, p12]) = true := h
  rw [Bool.and_eq_true] at h'
  rw [h'.1] at hr
  cases hz : decide (z < 0) with
  | true =>
    rw [hz] at hr
    rw [cpZ_yes s 0 z b p0 [p1, p2, p3, p4, p5, p6, p7, p8, p9, p10, p11, p12] (by unfold cpC; rw [hz]; rfl)]
    exact goes_round (goes_of_exC w0 hr) (cp_from1 w0 s 0 (cpd s p0) b0 p0 p1 p2 p3 p4 p5 p6 p7 p8 p9 p10 p11 p12 h'.2)
  | false =>
    rw [hz] at hr
    cases hd : lt (cpd s p0) b with
    | true =>
      rw [hd] at hr
      rw [cpZ_yes s 0 z b p0 [p1, p2, p3, p4, p5, p6, p7, p8, p9, p10, p11, p12] (by unfold cpC; rw [hz, hd]; rfl)]
      exact goes_round (goes_of_exC w0 hr) (cp_from1 w0 s 0 (cpd s p0) b0 p0 p1 p2 p3 p4 p5 p6 p7 p8 p9 p10 p11 p12 h'.2)
    | false =>
      rw [hd] at hr
      rw [cpZ_no s 0 z b p0 [p1, p2, p3, p4, p5, p6, p7, p8, p9, p10, p11, p12] (by unfold cpC; rw [hz, hd]; rfl)]
      exact goes_round (goes_of_exC w0 hr) (cp_from1 w0 s z b b0 p0 p1 p2 p3 p4 p5 p6 p7 p8 p9 p10 p11 p12 h'.2)
def cpLp : LoopRule
  | 0, .c (.fl .f32 s) :: _ :: _ :: _ :: _ :: _ :: _ :: _ :: _ :: _ :: _ :: _ :: _ :: .c (.val (.int .i64 z)) :: .c (.fl .f32 b) :: _ :: _ :: _ :: _ :: _ :: _ :: _ :: _ :: _ :: _ :: _ :: _ :: _ :: .c (.slc 1 m) :: .c (.val (.int .i64 n)) :: .c (.val (.int .i64 i)) :: F, [b0, c] => match decSh c with
    | some L => some (decide (F.length = 26) && (decide (L.length = 13) && (decide (m = 13 ∧ n = 13 ∧ i = 0) && cpAll s L)), .exit 0, cpFr s (cpZ s 0 z b L).1 (cpZ s 0 z b L).2 13, cpM b0 L 13)
    | none => none
  | _, _, _ => none
theorem weaken_any : ∀ (k : Nat) (F : List AV), F.length = k → weaken (List.replicate k false) F = List.replicate k (.c .any)
  | 0, F, h => by
    cases List.eq_nil_of_length_eq_zero h; rfl
  | k + 1, F, h => by
    cases F with
    | nil => cases h
    | cons x F =>
      show AV.c .any :: weaken (List.replicate k false) F = _
      rw [weaken_any k F (Nat.succ.inj h)]; rfl
theorem cp_weaken (s : F32) (z : Int) (b : F32) (i : Int) (a0 a1 a2 a3 a4 a5 a6 a7 a8 a9 a10 a11 b0 b1 b2 b3 b4 b5 b6 b7 b8 b9 b10 b11 b12 : AV) (F : List AV) (h : F.length = 26) :
    weaken cpMk (.c (.fl .f32 s) :: a0 :: a1 :: a2 :: a3 :: a4 :: a5 :: a6 :: a7 :: a8 :: a9 :: a10 :: a11 :: .c (.val (.int .i64 z)) :: .c (.fl .f32 b) :: b0 :: b1 :: b2 :: b3 :: b4 :: b5 :: b6 :: b7 :: b8 :: b9 :: b10 :: b11 :: b12 :: .c (.slc 1 13) :: .c (.val (.int .i64 13)) :: .c (.val (.int .i64 i)) :: F) = cpFr s z b i := by
  have e : weaken cpMk (.c (.fl .f32 s) :: a0 :: a1 :: a2 :: a3 :: a4 :: a5 :: a6 :: a7 :: a8 :: a9 :: a10 :: a11 :: .c (.val (.int .i64 z)) :: .c (.fl .f32 b) :: b0 :: b1 :: b2 :: b3 :: b4 :: b5 :: b6 :: b7 :: b8 :: b9 :: b10 :: b11 :: b12 :: .c (.slc 1 13) :: .c (.val (.int .i64 13)) :: .c (.val (.int .i64 i)) :: F) =
    ([.c (.fl .f32 s)] ++ List.replicate 12 (.c .any) ++ [.c (.val (.int .i64 z)), .c (.fl .f32 b)] ++ List.replicate 13 (.c .any) ++ [.c (.slc 1 13), .c (.val (.int .i64 13)), .c (.val (.int .i64 i))] : List AV) ++ weaken (List.replicate 26 false) F := by kernel_rfl
  rw [e, weaken_any 26 F h]; rfl
theorem len13 {L : List Sh} (h : L.length = 13) : ∃ p0 p1 p2 p3 p4 p5 p6 p7 p8 p9 p10 p11 p12, L = [p0, p1, p2, p3, p4, p5, p6, p7, p8, p9, p10, p11, p12] := by
  match L, h with
  | [p0, p1, p2, p3, p4, p5, p6, p7, p8, p9, p10, p11, p12], _ => exact ⟨p0, p1, p2, p3, p4, p5, p6, p7, p8, p9, p10, p11, p12, rfl⟩
theorem cp_loops {G : World → Prop} : LoopsOk Try.prog 0 G cpLp 0 (Try.f47.body.getD .skip) := by
  intro j x hx F M o F' M' hl w0 _ _
  have hX : loopsAll (Try.f47.body.getD .skip) = [loopN 0 Try.f47] := by kernel_rfl
  rw [hX] at hx
  rw [Nat.zero_add] at hl
  unfold cpLp at hl
  split at hl
  · rename_i s a0 a1 a2 a3 a4 a5 a6 a7 a8 a9 a10 a11 z b b0 b1 b2 b3 b4 b5 b6 b7 b8 b9 b10 b11 b12 m n i F b0 c
    split at hl
    · rename_i L hL
      simp only [Option.some.injEq, Prod.mk.injEq, Bool.and_eq_true, decide_eq_true_eq] at hl
      obtain ⟨⟨hF, h13, ⟨rfl, rfl, rfl⟩, hq⟩, rfl, rfl, rfl⟩ := hl
      have hc := decSh_enc _ _ hL
      subst hc
      obtain ⟨p0, p1, p2, p3, p4, p5, p6, p7, p8, p9, p10, p11, p12, rfl⟩ := len13 h13
      cases hx
      refine InGoes.weaken cpMk ?_
      rw [cp_weaken _ _ _ _ _ _ _ _ _ _ _ _ _ _ _ _ _ _ _ _ _ _ _ _ _ _ _ _ _ F hF]
      exact cp_from0 w0 s z b b0 p0 p1 p2 p3 p4 p5 p6 p7 p8 p9 p10 p11 p12 hq
    · cases hl
  · cases hl
theorem cp_far : ∀ j, farOff ≤ j → ∀ F M, cpLp j F M = none := by
  intro j hj F M
  unfold cpLp
  split
  · exact absurd hj (by decide)
  · rfl
def flList (s h : F32) (p : Sh) : Nat → List Sh
  | 0 => [p]
  | k + 1 => flList s h p k ++ [flS s h (k + 1) p]
def cpL (s h : F32) (p : Sh) : List Sh := flList s h p 12
def cpOut (s h : F32) (p : Sh) : Int × F32 := cpZ s 0 (-1) (c32 0) (cpL s h p)
theorem closest_raw (s h : F32) (p : Sh) : runKM Try.prog [eLess, eLong, eIsFinite] [] [eFlight] (G := anyW) [] cpLp Try.f47 (flArgs s h p 12) [] =
    bif (flQ s h p 12) && true then bif cpAll s (cpL s h p) then bif !(isFinite (cpOut s h p).2) then some (.tup [.val (.int .i64 0), .fl .f32 (c32 0), .sb false]) else some (.tup [.val (.int .i64 (cpOut s h p).1), .fl .f32 (cpOut s h p).2, .sb true]) else none else none := by kernel_rfl
end Go.Proofs.Ytlpahmefebgdlaa.Fx
