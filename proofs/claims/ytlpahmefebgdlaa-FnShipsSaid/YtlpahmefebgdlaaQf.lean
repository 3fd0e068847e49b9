/- Texts put together: Jb, Ka. No condition. -/
import Derived.Test.YtlpahmefebgdlaaQe
/- Two floats at once; the sine; bisections; swings and leans lead to phases. No condition. -/
namespace Go.Proofs.Ytlpahmefebgdlaa.Fx
open Go Nr Ieee

theorem wo_half (m : Nat) (e : Int) : wo m (e - 1) = wo m e / 2 := by
  unfold wo
  have h : (2 : Rat) ^ e = (2 : Rat) ^ (e - 1) * 2 := by rw [← Rat.zpow_add_one two_ne]; congr 1; omega
  rw [h]; grind
theorem val_half (s : Bool) (m : Nat) (e : Int) : val s m (e - 1) = val s m e / 2 := by
  unfold val; rw [wo_half]; cases s <;> simp only [cond_true, cond_false] <;> grind
theorem half_exact {x : F64} {a : Rat} {n : Nat} {j : Int} (hx : Has x a) (h : a = 2 * wo n j) (hn : n < 2 ^ 53) (h1 : -1074 ≤ j) (h2 : j ≤ 971) : Has (x / two) (wo n j) := by
  obtain ⟨s, m, e, hx, rfl⟩ := hx
  rw [over_num hx]
  have hv : val s m (e - 1) = wo n j := by rw [val_half, h]; grind
  have hw := wo_nonneg m (e - 1)
  have hw' := wo_nonneg n j
  have hm : wo m (e - 1) = wo n j := by
    revert hv
    unfold val
    cases s <;> simp only [cond_true, cond_false] <;> intro hv <;> grind
  rw [← hv]
  exact has_exact s hm hn h1 h2
/-- Two floats, their worths, bounds of the worths and of their difference. -/
def Two (x y : F64) (B d : Rat) : Prop := ∃ a b, Has x a ∧ Has y b ∧ -B ≤ a ∧ a ≤ B ∧ -B ≤ b ∧ b ≤ B ∧ a - b ≤ d ∧ b - a ≤ d
theorem Two.le {x y : F64} {B d B' d' : Rat} (h : Two x y B d) (h1 : B ≤ B') (h2 : d ≤ d') : Two x y B' d' := by
  obtain ⟨a, b, ha, hb, q1, q2, q3, q4, q5, q6⟩ := h
  exact ⟨a, b, ha, hb, by grind, by grind, by grind, by grind, by grind, by grind⟩
theorem Two.symm {x y : F64} {B d : Rat} (h : Two x y B d) : Two y x B d := by
  obtain ⟨a, b, ha, hb, q1, q2, q3, q4, q5, q6⟩ := h
  exact ⟨b, a, hb, ha, q3, q4, q1, q2, q6, q5⟩
theorem Two.of {x : F64} {a B : Rat} (h : Has x a) (h1 : -B ≤ a) (h2 : a ≤ B) : Two x x B 0 := ⟨a, a, h, h, h1, h2, h1, h2, by grind, by grind⟩
theorem Two.add {x y x' y' : F64} {B d B' d' : Rat} (h : Two x y B d) (h' : Two x' y' B' d') (E : Int) (u : Rat) (hu : u = (2 : Rat) ^ (E - 53)) (hE : B + B' ≤ (2 : Rat) ^ E) (h3 : -1022 ≤ E) (h4 : E ≤ 1023) : Two (x + x') (y + y') (B + B' + u) (d + d' + 2 * u) := by
  obtain ⟨a, b, ha, hb, q1, q2, q3, q4, q5, q6⟩ := h
  obtain ⟨a', b', ha', hb', p1, p2, p3, p4, p5, p6⟩ := h'
  obtain ⟨v, hv, v1, v2⟩ := add_has ha ha' (E := E) (by grind) (by grind) h3 h4
  obtain ⟨w, hw, w1, w2⟩ := add_has hb hb' (E := E) (by grind) (by grind) h3 h4
  rw [← hu] at v1 v2 w1 w2
  exact ⟨v, w, hv, hw, by grind, by grind, by grind, by grind, by grind, by grind⟩
theorem Two.sub {x y x' y' : F64} {B d B' d' : Rat} (h : Two x y B d) (h' : Two x' y' B' d') (E : Int) (u : Rat) (hu : u = (2 : Rat) ^ (E - 53)) (hE : B + B' ≤ (2 : Rat) ^ E) (h3 : -1022 ≤ E) (h4 : E ≤ 1023) : Two (x - x') (y - y') (B + B' + u) (d + d' + 2 * u) := by
  obtain ⟨a, b, ha, hb, q1, q2, q3, q4, q5, q6⟩ := h
  obtain ⟨a', b', ha', hb', p1, p2, p3, p4, p5, p6⟩ := h'
  obtain ⟨v, hv, v1, v2⟩ := sub_has ha ha' (E := E) (by grind) (by grind) h3 h4
  obtain ⟨w, hw, w1, w2⟩ := sub_has hb hb' (E := E) (by grind) (by grind) h3 h4
  rw [← hu] at v1 v2 w1 w2
  exact ⟨v, w, hv, hw, by grind, by grind, by grind, by grind, by grind, by grind⟩
/-- A product's bound. -/
theorem mul_bd {a b A B : Rat} (h1 : -A ≤ a) (h2 : a ≤ A) (h3 : -B ≤ b) (h4 : b ≤ B) : -(A * B) ≤ a * b ∧ a * b ≤ A * B := by
  have hA : 0 ≤ A := by grind
  have hB : 0 ≤ B := by grind
  have k1 := Rat.mul_nonneg (by grind : 0 ≤ A - a) (by grind : 0 ≤ B - b)
  have k2 := Rat.mul_nonneg (by grind : 0 ≤ A + a) (by grind : 0 ≤ B + b)
  have k3 := Rat.mul_nonneg (by grind : 0 ≤ A - a) (by grind : 0 ≤ B + b)
  have k4 := Rat.mul_nonneg (by grind : 0 ≤ A + a) (by grind : 0 ≤ B - b)
  constructor <;> grind
theorem Two.mul {x y x' y' : F64} {B d B' d' : Rat} (h : Two x y B d) (h' : Two x' y' B' d') (E : Int) (u : Rat) (hu : u = (2 : Rat) ^ (E - 53)) (hE : B * B' ≤ (2 : Rat) ^ E) (h3 : -1022 ≤ E) (h4 : E ≤ 1023) : Two (x * x') (y * y') (B * B' + u) (B * d' + B' * d + 2 * u) := by
  obtain ⟨a, b, ha, hb, q1, q2, q3, q4, q5, q6⟩ := h
  obtain ⟨a', b', ha', hb', p1, p2, p3, p4, p5, p6⟩ := h'
  obtain ⟨m1, m2⟩ := mul_bd q1 q2 p1 p2
  obtain ⟨m3, m4⟩ := mul_bd q3 q4 p3 p4
  obtain ⟨v, hv, v1, v2⟩ := mul_has ha ha' (E := E) (by grind) (by grind) h3 h4
  obtain ⟨w, hw, w1, w2⟩ := mul_has hb hb' (E := E) (by grind) (by grind) h3 h4
  rw [← hu] at v1 v2 w1 w2
  obtain ⟨n1, n2⟩ := mul_bd q1 q2 (by grind : -d' ≤ a' - b') p5
  obtain ⟨n3, n4⟩ := mul_bd p3 p4 (by grind : -d ≤ a - b) q5
  have e : a * a' - b * b' = a * (a' - b') + b' * (a - b) := by grind
  exact ⟨v, w, hv, hw, by grind, by grind, by grind, by grind, by grind, by grind⟩
end Go.Proofs.Ytlpahmefebgdlaa.Fx
namespace Go.Proofs.Ytlpahmefebgdlaa.Fx
open Go Nr Ieee

theorem full_has : Has full (7074237752028440 / 1125899906842624) := ⟨false, 7074237752028440, -50, ⟨4618760256179416344, rfl, by decide⟩, by decide +kernel⟩
theorem one_has : Has one 1 := ⟨false, 2 ^ 52, -52, ⟨4607182418800017408, rfl, by decide⟩, by decide +kernel⟩
theorem half_has : Has half (1 / 2) := ⟨false, 2 ^ 52, -53, ⟨4602678819172646912, rfl, by decide⟩, by decide +kernel⟩
theorem quarter_has : Has quarter (1 / 4) := ⟨false, 2 ^ 52, -54, ⟨4598175219545276416, rfl, by decide⟩, by decide +kernel⟩
theorem two_has : Has two 2 := ⟨false, 2 ^ 52, -51, ⟨4611686018427387904, rfl, by decide⟩, by decide +kernel⟩
theorem zero_has : Has zero 0 := ⟨false, 0, -1074, num_zero, by decide +kernel⟩
theorem Two.divc {x y k : F64} {B d c Q R : Rat} (h : Two x y B d) (hk : Has k c) (hc : 0 < c) (hQ : B ≤ Q * c) (hR : d ≤ R * c) (E : Int) (u : Rat) (hu : u = (2 : Rat) ^ (E - 51)) (hE : Q ≤ (2 : Rat) ^ E) (h3 : -1022 ≤ E) (h4 : E ≤ 1022) : Two (x / k) (y / k) (Q + u) (R + 2 * u) := by
  obtain ⟨a, b, ha, hb, q1, q2, q3, q4, q5, q6⟩ := h
  have hc0 : c ≠ 0 := by grind
  have e : ∀ a : Rat, a = a / c * c := fun a => (Rat.div_mul_cancel hc0).symm
  have g : ∀ {p q : Rat}, p ≤ q * c → p / c ≤ q := fun {p q} h => Rat.le_of_mul_le_mul_right (by rw [Rat.div_mul_cancel hc0]; exact h) hc
  have g1 := g (Rat.le_trans q2 hQ)
  have g2 : -Q ≤ a / c := by
    have := g (p := -a) (q := Q) (by grind)
    grind
  have g3 := g (Rat.le_trans q4 hQ)
  have g4 : -Q ≤ b / c := by
    have := g (p := -b) (q := Q) (by grind)
    grind
  have g5 := g (Rat.le_trans q5 hR)
  have g6 := g (Rat.le_trans q6 hR)
  have e1 : (a - b) / c = a / c - b / c := by grind
  have e2 : (b - a) / c = b / c - a / c := by grind
  rw [e1] at g5
  rw [e2] at g6
  obtain ⟨v, hv, v1, v2⟩ := div_has (E := E) ha hk hc0 (e a) (by grind) (by grind) h3 h4
  obtain ⟨w, hw, w1, w2⟩ := div_has (E := E) hb hk hc0 (e b) (by grind) (by grind) h3 h4
  rw [← hu] at v1 v2 w1 w2
  exact ⟨v, w, hv, hw, by grind, by grind, by grind, by grind, by grind, by grind⟩
theorem Has.neg {x : F64} {a : Rat} (h : Has x a) : Has (-x) (-a) := by
  obtain ⟨s, m, e, h, rfl⟩ := h
  exact ⟨_, m, e, h.neg, (val_not s m e).symm⟩
theorem Two.neg {x y : F64} {B d : Rat} (h : Two x y B d) : Two (-x) (-y) B d := by
  obtain ⟨a, b, ha, hb, q1, q2, q3, q4, q5, q6⟩ := h
  exact ⟨-a, -b, ha.neg, hb.neg, by grind, by grind, by grind, by grind, by grind, by grind⟩
theorem sub_exact {x y : F64} {a b : Rat} {n : Nat} {j : Int} (hx : Has x a) (hy : Has y b) (h : a - b = wo n j) (hn : n < 2 ^ 53) (h1 : -1074 ≤ j) (h2 : j ≤ 971) : Has (x - y) (a - b) := by
  obtain ⟨s, m, i, hx, rfl⟩ := hx
  obtain ⟨t, m', i', hy, rfl⟩ := hy
  rw [hx.sub hy]
  unfold addW
  have e0 : val s m i - val t m' i' = val s m i + val (!t) m' i' := by rw [val_not]; grind
  have e1 : val s m i = wi (signed s m (i - min i i').toNat) (min i i') := by rw [wi_signed]; congr 1; omega
  have e2 : val (!t) m' i' = wi (signed (!t) m' (i' - min i i').toNat) (min i i') := by rw [wi_signed]; congr 1; omega
  rw [e0, e1, e2, ← wi_add] at h ⊢
  generalize signed s m (i - min i i').toNat + signed (!t) m' (i' - min i i').toNat = z at h ⊢
  have hv := wi_val z (min i i') (s := if z = 0 then (s && !t) else decide (z < 0)) (fun hz => by rw [if_neg hz])
  rw [← hv] at h ⊢
  refine has_exact _ (n := n) (j := j) ?_ hn h1 h2
  have hw := wo_nonneg z.natAbs (min i i')
  have hw' := wo_nonneg n j
  revert h
  unfold val
  generalize wo z.natAbs (min i i') = u at hw ⊢
  generalize wo n j = v at hw' ⊢
  cases (if z = 0 then (s && !t) else decide (z < 0))
  · exact id
  · intro h
    have h' : -u = v := h
    grind
theorem has_le {x : F64} {a : Rat} (h : Has x a) : ∃ s m e, Num x s m e ∧ a = val s m e ∧ (0 ≤ a → a = wo m e) := by
  obtain ⟨s, m, e, h, rfl⟩ := h
  refine ⟨s, m, e, h, rfl, fun h0 => ?_⟩
  have := wo_nonneg m e
  revert h0
  unfold val
  cases s <;> simp only [cond_true, cond_false] <;> intro h0 <;> grind
theorem behind_has {y : F64} {a : Rat} (hy : Has y a) (h0 : 0 ≤ a) (h1 : a ≤ 1) : ∃ b, Has (behind y) b ∧ (b = a ∨ (a = 1 ∧ b = 0)) := by
  obtain ⟨s, m, e, h, hv, ha⟩ := has_le hy
  have ha := ha h0
  obtain ⟨b1, b2, b3⟩ := h.bound
  by_cases he : 0 ≤ e
  · have hb : behind y = zero := by
      unfold behind
      rw [trunc_big h he]
      kernel_rfl
    rw [hb]
    refine ⟨0, zero_has, ?_⟩
    by_cases hm : m = 0
    · left; subst hm; rw [ha]; unfold wo; grind
    · right
      refine ⟨?_, rfl⟩
      have g1 := wo_mono (by omega : 1 ≤ m) e
      rw [wo_one] at g1
      have g2 := two_mono he
      have g3 : (2 : Rat) ^ (0 : Int) = 1 := by decide +kernel
      rw [g3] at g2
      grind
  · have hw := whole_num h
    have e1 : e.toNat = 0 := by omega
    rw [e1, Nat.shiftLeft_zero, cut_down] at hw
    obtain ⟨q, hqd⟩ : ∃ q, q = m / 2 ^ (-e).toNat := ⟨_, rfl⟩
    obtain ⟨r, hrd⟩ : ∃ r, r = m % 2 ^ (-e).toNat := ⟨_, rfl⟩
    have hdm : q * 2 ^ (-e).toNat + r = m := by rw [hqd, hrd, Nat.mul_comm]; exact Nat.div_add_mod _ _
    have hr : r < 2 ^ (-e).toNat := by rw [hrd]; exact Nat.mod_lt _ (Nat.two_pow_pos _)
    rw [← hqd] at hw
    have hdq : wo m e = wo q 0 + wo r e := by
      rw [← hdm, wo_add, wo_pow]; congr 2; omega
    have hr0 := wo_nonneg r e
    have hq1 : q = 0 ∨ (q = 1 ∧ a = 1 ∧ wo r e = 0) := by
      by_cases g : q = 0
      · exact .inl g
      · right
        have g1 := wo_mono (by omega : 1 ≤ q) 0
        have g2 : wo 1 0 = 1 := by decide +kernel
        have g3 : q = 1 := by
          refine Nat.le_antisymm (Nat.not_lt.1 fun g4 => ?_) (by omega)
          have g5 := wo_mono (by omega : 2 ≤ q) 0
          have g6 : wo 2 0 = 2 := by decide +kernel
          grind
        subst g3
        exact ⟨rfl, by grind, by grind⟩
    have hz : Has (whole .zero y + zero) (wo q 0) := by
      obtain ⟨j, hj⟩ := num_near s (m := q) (e := 0) (by omega) (by omega) (by omega)
      rw [hw]
      by_cases h0' : q = 0
      · subst h0'
        rw [Nat.zero_mul] at hj
        rw [hj.add_zero0]
        have : wo 0 0 = 0 := by decide +kernel
        rw [this]; exact zero_has
      · rw [hj.add_zero (Nat.mul_ne_zero h0' (by have := Nat.two_pow_pos j; omega)), near_scale]
        refine ⟨s, _, _, hj, ?_⟩
        rw [val_pow]
        cases s
        · rfl
        · exfalso
          have g1 := wo_mono (by omega : 1 ≤ q) 0
          have g2 : wo 1 0 = 1 := by decide +kernel
          have g3 : a = -(wo m e) := hv
          grind
    have hs : Has (y - (whole .zero y + zero)) (a - wo q 0) := sub_exact hy hz (n := r) (j := e) (by grind) (by omega) (by omega) (by omega)
    have hn : lt (y - (whole .zero y + zero)) zero = false := by
      rw [lt_has hs zero_has]
      exact decide_eq_false (by grind)
    unfold behind
    rw [hn]
    refine ⟨_, hs, ?_⟩
    rcases hq1 with rfl | ⟨rfl, g1, g2⟩
    · left
      have : wo 0 0 = 0 := by decide +kernel
      rw [this]; grind
    · right
      have : wo 1 0 = 1 := by decide +kernel
      rw [this]; exact ⟨g1, by grind⟩
theorem ge_has {x y : F64} {a b : Rat} (hx : Has x a) (hy : Has y b) : ge x y = decide (b ≤ a) := by
  obtain ⟨z, w, e, ho, rfl, rfl⟩ := ord_has hx hy
  unfold ge
  rw [ho, cmp_gt, cmp_eq, ← Bool.decide_or]
  refine decide_eq_decide.2 ?_
  have h1 := wi_lt (a := w) (b := z) e
  have h2 := wi_lt (a := z) (b := w) e
  constructor
  · intro h
    rcases h with h | rfl
    · exact Rat.le_of_lt (h1.2 h)
    · exact Rat.le_refl
  · intro h
    by_cases g : w < z
    · exact .inl g
    · right
      by_cases g2 : z < w
      · have := h2.2 g2
        grind
      · omega
/-- A triangle wave. -/
def tri (a : Rat) : Rat := if a ≤ 1 / 4 then a else if a ≤ 3 / 4 then 1 / 2 - a else a - 1
def eps : Rat := 1 / 1125899906842624
theorem sine_tri {c : F64} {a : Rat} (h : Has c a) (h0 : 0 ≤ a) (h1 : a ≤ 1) : ∃ s r p T, sine c = (bif s then -(sineOut r) else sineOut r) ∧ Has r p ∧ p ≤ T + eps ∧ T ≤ p + eps ∧ 0 ≤ T ∧ T ≤ 1 / 4 ∧ tri a = (bif s then -T else T) := by
  obtain ⟨b, hb, hc⟩ := behind_has h h0 h1
  have hu : (2 : Rat) ^ ((0 : Int) - 53) ≤ eps / 4 := by decide +kernel
  have hp : (0 : Rat) < (2 : Rat) ^ ((0 : Int) - 53) := two_pos _
  have h20 : (2 : Rat) ^ (0 : Int) = 1 := by decide +kernel
  have hb0 : 0 ≤ b ∧ b ≤ 1 := by rcases hc with rfl | ⟨_, rfl⟩ <;> grind
  have ht : b < 1 ∨ (b = a ∧ a = 1) := by
    rcases hc with rfl | ⟨_, rfl⟩
    · by_cases g : b = 1
      · exact .inr ⟨rfl, g⟩
      · left; grind
    · left; grind
  have htri : tri a = tri b := by
    rcases hc with rfl | ⟨rfl, rfl⟩
    · rfl
    · decide +kernel
  rw [htri]
  generalize hy : behind c = y at hb
  have e1 : ge y half = decide (1 / 2 ≤ b) := ge_has hb half_has
  have e2 : gt y quarter = decide (1 / 4 < b) := gt_has hb quarter_has
  unfold sine sineF
  rw [hy, e1, e2]
  obtain ⟨v, hv, v1, v2⟩ := sub_has hb half_has (E := 0) (by grind) (by grind) (by decide) (by decide)
  obtain ⟨w, hw, w1, w2⟩ := sub_has half_has hb (E := 0) (by grind) (by grind) (by decide) (by decide)
  have e3 : gt (y - half) quarter = decide (1 / 4 < v) := gt_has hv quarter_has
  rw [e3]
  have hev : 0 < eps := by decide +kernel
  have k1 : eps ≤ 1 / 1000 := by decide +kernel
  generalize (2 : Rat) ^ ((0 : Int) - 53) = u at hu hp v1 v2 w1 w2
  by_cases g1 : 1 / 2 ≤ b
  · rw [decide_eq_true g1]
    have hT : 0 ≤ -(tri b) ∧ -(tri b) ≤ 1 / 4 := by unfold tri; constructor <;> grind
    by_cases g2 : 1 / 4 < v
    · obtain ⟨x, hx, x1, x2⟩ := sub_has half_has hv (E := 0) (by grind) (by grind) (by decide) (by decide)
      rw [decide_eq_true g2]
      have hu' : (2 : Rat) ^ ((0 : Int) - 53) ≤ eps / 4 := by decide +kernel
      refine ⟨true, _, x, -(tri b), rfl, hx, ?_, ?_, hT.1, hT.2, ?_⟩
      · unfold tri; grind
      · unfold tri; grind
      · simp only [cond_true]; grind
    · rw [decide_eq_false g2]
      refine ⟨true, _, v, -(tri b), rfl, hv, ?_, ?_, hT.1, hT.2, ?_⟩
      · unfold tri; grind
      · unfold tri; grind
      · simp only [cond_true]; grind
  · rw [decide_eq_false g1]
    have hT : 0 ≤ tri b ∧ tri b ≤ 1 / 4 := by unfold tri; constructor <;> grind
    by_cases g2 : 1 / 4 < b
    · rw [decide_eq_true g2]
      refine ⟨false, _, w, tri b, rfl, hw, ?_, ?_, hT.1, hT.2, rfl⟩
      · unfold tri; grind
      · unfold tri; grind
    · rw [decide_eq_false g2]
      refine ⟨false, _, b, tri b, rfl, hb, ?_, ?_, hT.1, hT.2, rfl⟩
      · unfold tri; grind
      · unfold tri; grind
end Go.Proofs.Ytlpahmefebgdlaa.Fx
namespace Go.Proofs.Ytlpahmefebgdlaa.Fx
open Go Nr Ieee

theorem ki6_has : Has (ki (2 * 1 * (2 * 1 + 1))) 6 := ⟨false, 6 * 2 ^ 50, -50, ⟨_, rfl, by kernel_rfl⟩, by decide +kernel⟩
theorem ki20_has : Has (ki (2 * 2 * (2 * 2 + 1))) 20 := ⟨false, 20 * 2 ^ 48, -48, ⟨_, rfl, by kernel_rfl⟩, by decide +kernel⟩
theorem ki42_has : Has (ki (2 * 3 * (2 * 3 + 1))) 42 := ⟨false, 42 * 2 ^ 47, -47, ⟨_, rfl, by kernel_rfl⟩, by decide +kernel⟩
theorem ki72_has : Has (ki (2 * 4 * (2 * 4 + 1))) 72 := ⟨false, 72 * 2 ^ 46, -46, ⟨_, rfl, by kernel_rfl⟩, by decide +kernel⟩
theorem ki110_has : Has (ki (2 * 5 * (2 * 5 + 1))) 110 := ⟨false, 110 * 2 ^ 46, -46, ⟨_, rfl, by kernel_rfl⟩, by decide +kernel⟩
theorem ki156_has : Has (ki (2 * 6 * (2 * 6 + 1))) 156 := ⟨false, 156 * 2 ^ 45, -45, ⟨_, rfl, by kernel_rfl⟩, by decide +kernel⟩
theorem ki210_has : Has (ki (2 * 7 * (2 * 7 + 1))) 210 := ⟨false, 210 * 2 ^ 45, -45, ⟨_, rfl, by kernel_rfl⟩, by decide +kernel⟩
theorem ki272_has : Has (ki (2 * 8 * (2 * 8 + 1))) 272 := ⟨false, 272 * 2 ^ 44, -44, ⟨_, rfl, by kernel_rfl⟩, by decide +kernel⟩
theorem two_one : Two one one 1 0 := Two.of one_has (by decide +kernel) (by decide +kernel)
theorem two_full : Two full full (63 / 10) 0 := Two.of full_has (by decide +kernel) (by decide +kernel)
theorem sineOut_two {r r' : F64} (hr : Two r r' (13 / 50 : Rat) (1 / 8388608 : Rat)) : Two (sineOut r) (sineOut r') (12381 / 5000 : Rat) (17231 / 8589934592 : Rat) := by
  have h1 := (Two.mul hr two_full (1) (1 / 4503599627370496 : Rat) (by decide +kernel) (by decide +kernel) (by decide) (by decide)).le (B' := (16381 / 10000 : Rat)) (d' := (25805 / 34359738368 : Rat)) (by decide +kernel) (by decide +kernel)
  have h2 := (Two.mul h1 h1 (2) (1 / 2251799813685248 : Rat) (by decide +kernel) (by decide +kernel) (by decide) (by decide)).le (B' := (13417 / 5000 : Rat)) (d' := (1321 / 536870912 : Rat)) (by decide +kernel) (by decide +kernel)
  have h3 := (Two.mul h2 two_one (2) (1 / 2251799813685248 : Rat) (by decide +kernel) (by decide +kernel) (by decide) (by decide)).le (B' := (5367 / 2000 : Rat)) (d' := (21137 / 8589934592 : Rat)) (by decide +kernel) (by decide +kernel)
  have h4 := (Two.divc h3 ki272_has (by decide +kernel) (Q := (99 / 10000 : Rat)) (R := (9947 / 1099511627776 : Rat)) (by decide +kernel) (by decide +kernel) (-6) (1 / 144115188075855872 : Rat) (by decide +kernel) (by decide +kernel) (by decide) (by decide)).le (B' := (1 / 100 : Rat)) (d' := (19895 / 2199023255552 : Rat)) (by decide +kernel) (by decide +kernel)
  have h5 := (Two.sub two_one h4 (1) (1 / 4503599627370496 : Rat) (by decide +kernel) (by decide +kernel) (by decide) (by decide)).le (B' := (10101 / 10000 : Rat)) (d' := (2487 / 274877906944 : Rat)) (by decide +kernel) (by decide +kernel)
  have h6 := (Two.mul h2 h5 (2) (1 / 2251799813685248 : Rat) (by decide +kernel) (by decide +kernel) (by decide) (by decide)).le (B' := (13553 / 5000 : Rat)) (d' := (21559 / 8589934592 : Rat)) (by decide +kernel) (by decide +kernel)
  have h7 := (Two.divc h6 ki210_has (by decide +kernel) (Q := (13 / 1000 : Rat)) (R := (13141 / 1099511627776 : Rat)) (by decide +kernel) (by decide +kernel) (-6) (1 / 144115188075855872 : Rat) (by decide +kernel) (by decide +kernel) (by decide) (by decide)).le (B' := (131 / 10000 : Rat)) (d' := (26283 / 2199023255552 : Rat)) (by decide +kernel) (by decide +kernel)
  have h8 := (Two.sub two_one h7 (1) (1 / 4503599627370496 : Rat) (by decide +kernel) (by decide +kernel) (by decide) (by decide)).le (B' := (2533 / 2500 : Rat)) (d' := (6571 / 549755813888 : Rat)) (by decide +kernel) (by decide +kernel)
  have h9 := (Two.mul h2 h8 (2) (1 / 2251799813685248 : Rat) (by decide +kernel) (by decide +kernel) (by decide) (by decide)).le (B' := (27189 / 10000 : Rat)) (d' := (21691 / 8589934592 : Rat)) (by decide +kernel) (by decide +kernel)
  have h10 := (Two.divc h9 ki156_has (by decide +kernel) (Q := (7 / 400 : Rat)) (R := (8899 / 549755813888 : Rat)) (by decide +kernel) (by decide +kernel) (-5) (1 / 72057594037927936 : Rat) (by decide +kernel) (by decide +kernel) (by decide) (by decide)).le (B' := (11 / 625 : Rat)) (d' := (17799 / 1099511627776 : Rat)) (by decide +kernel) (by decide +kernel)
  have h11 := (Two.sub two_one h10 (1) (1 / 4503599627370496 : Rat) (by decide +kernel) (by decide +kernel) (by decide) (by decide)).le (B' := (10177 / 10000 : Rat)) (d' := (2225 / 137438953472 : Rat)) (by decide +kernel) (by decide +kernel)
  have h12 := (Two.mul h2 h11 (2) (1 / 2251799813685248 : Rat) (by decide +kernel) (by decide +kernel) (by decide) (by decide)).le (B' := (27309 / 10000 : Rat)) (d' := (5471 / 2147483648 : Rat)) (by decide +kernel) (by decide +kernel)
  have h13 := (Two.divc h12 ki110_has (by decide +kernel) (Q := (249 / 10000 : Rat)) (R := (12733 / 549755813888 : Rat)) (by decide +kernel) (by decide +kernel) (-5) (1 / 72057594037927936 : Rat) (by decide +kernel) (by decide +kernel) (by decide) (by decide)).le (B' := (1 / 40 : Rat)) (d' := (25467 / 1099511627776 : Rat)) (by decide +kernel) (by decide +kernel)
  have h14 := (Two.sub two_one h13 (1) (1 / 4503599627370496 : Rat) (by decide +kernel) (by decide +kernel) (by decide) (by decide)).le (B' := (10251 / 10000 : Rat)) (d' := (6367 / 274877906944 : Rat)) (by decide +kernel) (by decide +kernel)
  have h15 := (Two.mul h2 h14 (2) (1 / 2251799813685248 : Rat) (by decide +kernel) (by decide +kernel) (by decide) (by decide)).le (B' := (6877 / 2500 : Rat)) (d' := (22201 / 8589934592 : Rat)) (by decide +kernel) (by decide +kernel)
  have h16 := (Two.divc h15 ki72_has (by decide +kernel) (Q := (383 / 10000 : Rat)) (R := (19735 / 549755813888 : Rat)) (by decide +kernel) (by decide +kernel) (-4) (1 / 36028797018963968 : Rat) (by decide +kernel) (by decide +kernel) (by decide) (by decide)).le (B' := (24 / 625 : Rat)) (d' := (2467 / 68719476736 : Rat)) (by decide +kernel) (by decide +kernel)
  have h17 := (Two.sub two_one h16 (1) (1 / 4503599627370496 : Rat) (by decide +kernel) (by decide +kernel) (by decide) (by decide)).le (B' := (2077 / 2000 : Rat)) (d' := (19737 / 549755813888 : Rat)) (by decide +kernel) (by decide +kernel)
  have h18 := (Two.mul h2 h17 (2) (1 / 2251799813685248 : Rat) (by decide +kernel) (by decide +kernel) (by decide) (by decide)).le (B' := (6967 / 2500 : Rat)) (d' := (11389 / 4294967296 : Rat)) (by decide +kernel) (by decide +kernel)
  have h19 := (Two.divc h18 ki42_has (by decide +kernel) (Q := (83 / 1250 : Rat)) (R := (17355 / 274877906944 : Rat)) (by decide +kernel) (by decide +kernel) (-3) (1 / 18014398509481984 : Rat) (by decide +kernel) (by decide +kernel) (by decide) (by decide)).le (B' := (133 / 2000 : Rat)) (d' := (4339 / 68719476736 : Rat)) (by decide +kernel) (by decide +kernel)
  have h20 := (Two.sub two_one h19 (1) (1 / 4503599627370496 : Rat) (by decide +kernel) (by decide +kernel) (by decide) (by decide)).le (B' := (5333 / 5000 : Rat)) (d' := (17357 / 274877906944 : Rat)) (by decide +kernel) (by decide +kernel)
  have h21 := (Two.mul h2 h20 (2) (1 / 2251799813685248 : Rat) (by decide +kernel) (by decide +kernel) (by decide) (by decide)).le (B' := (14311 / 5000 : Rat)) (d' := (375 / 134217728 : Rat)) (by decide +kernel) (by decide +kernel)
  have h22 := (Two.divc h21 ki20_has (by decide +kernel) (Q := (179 / 1250 : Rat)) (R := (75 / 536870912 : Rat)) (by decide +kernel) (by decide +kernel) (-2) (1 / 9007199254740992 : Rat) (by decide +kernel) (by decide +kernel) (by decide) (by decide)).le (B' := (1433 / 10000 : Rat)) (d' := (19201 / 137438953472 : Rat)) (by decide +kernel) (by decide +kernel)
  have h23 := (Two.sub two_one h22 (1) (1 / 4503599627370496 : Rat) (by decide +kernel) (by decide +kernel) (by decide) (by decide)).le (B' := (5717 / 5000 : Rat)) (d' := (9601 / 68719476736 : Rat)) (by decide +kernel) (by decide +kernel)
  have h24 := (Two.mul h2 h23 (2) (1 / 2251799813685248 : Rat) (by decide +kernel) (by decide +kernel) (by decide) (by decide)).le (B' := (15341 / 5000 : Rat)) (d' := (6847 / 2147483648 : Rat)) (by decide +kernel) (by decide +kernel)
  have h25 := (Two.divc h24 ki6_has (by decide +kernel) (Q := (2557 / 5000 : Rat)) (R := (18259 / 34359738368 : Rat)) (by decide +kernel) (by decide +kernel) (0) (1 / 2251799813685248 : Rat) (by decide +kernel) (by decide +kernel) (by decide) (by decide)).le (B' := (1023 / 2000 : Rat)) (d' := (4565 / 8589934592 : Rat)) (by decide +kernel) (by decide +kernel)
  have h26 := (Two.sub two_one h25 (1) (1 / 4503599627370496 : Rat) (by decide +kernel) (by decide +kernel) (by decide) (by decide)).le (B' := (3779 / 2500 : Rat)) (d' := (18261 / 34359738368 : Rat)) (by decide +kernel) (by decide +kernel)
  have h27 := (Two.mul h1 h26 (2) (1 / 2251799813685248 : Rat) (by decide +kernel) (by decide +kernel) (by decide) (by decide)).le (B' := (12381 / 5000 : Rat)) (d' := (17231 / 8589934592 : Rat)) (by decide +kernel) (by decide +kernel)
  exact h27
end Go.Proofs.Ytlpahmefebgdlaa.Fx
namespace Go.Proofs.Ytlpahmefebgdlaa.Fx
open Go Nr Ieee

theorem tri_lip (a b : Rat) (h : a ≤ b) : tri b - tri a ≤ b - a ∧ tri a - tri b ≤ b - a := by
  unfold tri; constructor <;> grind
theorem tri_lip2 {a b d : Rat} (h1 : a - b ≤ d) (h2 : b - a ≤ d) : tri a - tri b ≤ d ∧ tri b - tri a ≤ d := by
  rcases Rat.le_total (a := a) (b := b) with h | h
  · have := tri_lip a b h
    constructor <;> grind
  · have := tri_lip b a h
    constructor <;> grind
theorem sineOut_zero : sineOut zero = zero := by kernel_rfl
theorem has_inj {x : F64} {a b : Rat} (h : Has x a) (h' : Has x b) : a = b := by
  obtain ⟨s, m, e, ⟨r, rfl, hr⟩, rfl⟩ := h
  obtain ⟨t, n, j, ⟨q, hq, hq'⟩, rfl⟩ := h'
  have : r = q := Option.some.inj hq
  subst this
  rw [hr] at hq'
  cases hq'; rfl
theorem sineOut_small {r : F64} {p : Rat} (h : Has r p) (h1 : -(1 / 8388608 : Rat) ≤ p) (h2 : p ≤ (1 / 8388608 : Rat)) : ∃ v, Has (sineOut r) v ∧ -(17231 / 8589934592 : Rat) ≤ v ∧ v ≤ (17231 / 8589934592 : Rat) := by
  have ht : Two r zero (13 / 50 : Rat) (1 / 8388608 : Rat) := by
    have k : (1 / 8388608 : Rat) ≤ (13 / 50 : Rat) := by decide +kernel
    have k2 : (0 : Rat) ≤ (13 / 50 : Rat) := by decide +kernel
    exact ⟨p, 0, h, zero_has, by grind, by grind, by grind, by grind, by grind, by grind⟩
  obtain ⟨a, b, ha, hb, q1, q2, q3, q4, q5, q6⟩ := sineOut_two ht
  rw [sineOut_zero] at hb
  have := has_inj hb zero_has
  subst this
  exact ⟨a, ha, by grind, by grind⟩
/-- Two sines. -/
theorem sine_two {c c' : F64} {a b : Rat} (h : Has c a) (h' : Has c' b) (a0 : 0 ≤ a) (a1 : a ≤ 1) (b0 : 0 ≤ b) (b1 : b ≤ 1) (d1 : a - b ≤ (1 / 16777216 : Rat)) (d2 : b - a ≤ (1 / 16777216 : Rat)) : Two (sine c) (sine c') (12381 / 5000 : Rat) (((17231 / 8589934592 : Rat)) * 2) := by
  obtain ⟨s, r, p, T, e1, hr, p1, p2, t1, t2, ht⟩ := sine_tri h a0 a1
  obtain ⟨s', r', p', T', e1', hr', p1', p2', t1', t2', ht'⟩ := sine_tri h' b0 b1
  rw [e1, e1']
  obtain ⟨l1, l2⟩ := tri_lip2 d1 d2
  rw [ht, ht'] at l1 l2
  have ke : eps ≤ (1 / 67108864 : Rat) := by decide +kernel
  have k13 : (1 / 4 : Rat) + (1 / 67108864 : Rat) ≤ (13 / 50 : Rat) := by decide +kernel
  have k14 : (1 / 67108864 : Rat) ≤ (13 / 50 : Rat) := by decide +kernel
  have kd : (1 / 16777216 : Rat) + (1 / 67108864 : Rat) + (1 / 67108864 : Rat) ≤ (1 / 8388608 : Rat) := by decide +kernel
  have kd0 : (0 : Rat) ≤ (17231 / 8589934592 : Rat) := by decide +kernel
  have kd1 : (17231 / 8589934592 : Rat) ≤ (12381 / 5000 : Rat) := by decide +kernel
  have same : s = s' → Two r r' (13 / 50 : Rat) (1 / 8388608 : Rat) := by
    rintro rfl
    refine ⟨p, p', hr, hr', by grind, by grind, by grind, by grind, ?_, ?_⟩
    · revert l1 l2; cases s <;> simp only [cond_true, cond_false] <;> intro l1 l2 <;> grind
    · revert l1 l2; cases s <;> simp only [cond_true, cond_false] <;> intro l1 l2 <;> grind
  cases s <;> cases s'
  · exact (sineOut_two (same rfl)).le (by decide +kernel) (by decide +kernel)
  · simp only [cond_true, cond_false] at l1 l2
    obtain ⟨v, hv, v1, v2⟩ := sineOut_small hr (by grind) (by grind)
    obtain ⟨w, hw, w1, w2⟩ := sineOut_small hr' (by grind) (by grind)
    exact ⟨v, -w, hv, hw.neg, by grind, by grind, by grind, by grind, by grind, by grind⟩
  · simp only [cond_true, cond_false] at l1 l2
    obtain ⟨v, hv, v1, v2⟩ := sineOut_small hr (by grind) (by grind)
    obtain ⟨w, hw, w1, w2⟩ := sineOut_small hr' (by grind) (by grind)
    exact ⟨-v, w, hv.neg, hw, by grind, by grind, by grind, by grind, by grind, by grind⟩
  · exact ((sineOut_two (same rfl)).neg).le (by decide +kernel) (by decide +kernel)
theorem phase_two {e c c' : F64} {g a b : Rat} (hg : Has e g) (g0 : 0 ≤ g) (g1 : g ≤ 1) (h : Has c a) (h' : Has c' b) (a0 : 0 ≤ a) (a1 : a ≤ 1) (b0 : 0 ≤ b) (b1 : b ≤ 1) (d1 : a - b ≤ (1 / 16777216 : Rat)) (d2 : b - a ≤ (1 / 16777216 : Rat)) : Two (swingPhase e c) (swingPhase e c') (1743 / 1250 : Rat) (23991 / 34359738368 : Rat) := by
  have hs := sine_two h h' a0 a1 b0 b1 d1 d2
  have hc : Two c c' 1 (1 / 16777216 : Rat) := ⟨a, b, h, h', by grind, by grind, by grind, by grind, d1, d2⟩
  have he : Two e e 1 0 := Two.of hg (by grind) g1
  have h1 := (Two.mul he hs (2) (1 / 2251799813685248 : Rat) (by decide +kernel) (by decide +kernel) (by decide) (by decide)).le (B' := (24763 / 10000 : Rat)) (d' := (1077 / 268435456 : Rat)) (by decide +kernel) (by decide +kernel)
  have h2 := (Two.divc h1 full_has (by decide +kernel) (Q := (1971 / 5000 : Rat)) (R := (21941 / 34359738368 : Rat)) (by decide +kernel) (by decide +kernel) (-1) (1 / 4503599627370496 : Rat) (by decide +kernel) (by decide +kernel) (by decide) (by decide)).le (B' := (3943 / 10000 : Rat)) (d' := (10971 / 17179869184 : Rat)) (by decide +kernel) (by decide +kernel)
  have h3 := (Two.sub hc h2 (1) (1 / 4503599627370496 : Rat) (by decide +kernel) (by decide +kernel) (by decide) (by decide)).le (B' := (1743 / 1250 : Rat)) (d' := (23991 / 34359738368 : Rat)) (by decide +kernel) (by decide +kernel)
  exact h3
end Go.Proofs.Ytlpahmefebgdlaa.Fx
namespace Go.Proofs.Ytlpahmefebgdlaa.Fx
open Go Nr Ieee

theorem bis_exact (g : F64 → Bool) : ∀ (n k : Nat) (s : F64 × F64) (a : Nat), k + n ≤ 50 → Has s.1 (wo a (-(k : Int))) → Has s.2 (wo (a + 1) (-(k : Int))) → a + 1 ≤ 2 ^ k → g s.1 = false → g s.2 = true →
    ∃ a', a' + 1 ≤ 2 ^ (k + n) ∧ Has (bis g n s).1 (wo a' (-((k + n : Nat) : Int))) ∧ Has (bis g n s).2 (wo (a' + 1) (-((k + n : Nat) : Int))) ∧ g (bis g n s).1 = false ∧ g (bis g n s).2 = true
  | 0, k, s, a, hk, h1, h2, h3, h4, h5 => ⟨a, h3, h1, h2, h4, h5⟩
  | n + 1, k, s, a, hk, h1, h2, h3, h4, h5 => by
    have hk50 : 2 ^ k ≤ 2 ^ 50 := Nat.pow_le_pow_right (by decide) (by omega)
    have hb : 2 * a + 1 < 2 ^ 53 := by
      have : (2 : Nat) ^ 50 = 1125899906842624 := by decide
      have : (2 : Nat) ^ 53 = 9007199254740992 := by decide
      omega
    have e1 : wo a (-(k : Int)) + wo (a + 1) (-(k : Int)) = wo (2 * a + 1) (-(k : Int)) := by
      rw [← wo_add]; congr 1; omega
    have hs := add_exact h1 h2 (n := 2 * a + 1) (j := -(k : Int)) e1 hb (by omega) (by omega)
    rw [e1] at hs
    have e2 : wo (2 * a + 1) (-(k : Int)) = 2 * wo (2 * a + 1) (-((k + 1 : Nat) : Int)) := by
      have := wo_half (2 * a + 1) (-(k : Int))
      rw [show -((k + 1 : Nat) : Int) = -(k : Int) - 1 by omega, this]; grind
    have hm := half_exact hs e2 hb (by omega) (by omega)
    have p1 : ∀ m, wo m (-(k : Int)) = wo (2 * m) (-((k + 1 : Nat) : Int)) := by
      intro m
      have := wo_pow m 1 (-((k + 1 : Nat) : Int))
      rw [Nat.pow_one, Nat.mul_comm] at this
      rw [this]; congr 1; omega
    have h3' : a + 1 + (a + 1) ≤ 2 ^ (k + 1) := by rw [Nat.pow_succ]; omega
    have ek : k + (n + 1) = k + 1 + n := by omega
    rw [ek]
    simp only [bis]
    rw [p1] at h1 h2
    cases hg : g ((s.1 + s.2) / two) with
    | true => exact bis_exact g n (k + 1) (s.1, (s.1 + s.2) / two) (2 * a) (by omega) h1 hm (by omega) h4 hg
    | false => exact bis_exact g n (k + 1) ((s.1 + s.2) / two, s.2) (2 * a + 1) (by omega) hm (by rw [show 2 * a + 1 + 1 = 2 * (a + 1) by omega]; exact h2) (by omega) hg h5
/-- 32-bit numbers are compared by their worths. -/
theorem ordS_has {x y : F32} {a b : Rat} (hx : HasS x a) (hy : HasS y b) : ∃ (z w : Int) (e : Int), ord x y = some (compare z w) ∧ a = wi z e ∧ b = wi w e := by
  obtain ⟨s, m, i, ⟨r, rfl, hr⟩, rfl⟩ := hx
  obtain ⟨t, n, j, ⟨q, rfl, hq⟩, rfl⟩ := hy
  refine ⟨signed s m (i - min i j).toNat, signed t n (j - min i j).toNat, min i j, ?_, ?_, ?_⟩
  · rw [ord_sx, hr, hq]; rfl
  · rw [wi_signed]; congr 1; omega
  · rw [wi_signed]; congr 1; omega
theorem ltS_has {x y : F32} {a b : Rat} (hx : HasS x a) (hy : HasS y b) : lt x y = decide (a < b) := by
  obtain ⟨z, w, e, ho, rfl, rfl⟩ := ordS_has hx hy
  unfold lt
  rw [ho, cmp_lt]
  exact decide_eq_decide.2 (wi_lt e).symm
theorem gtS_has {x y : F32} {a b : Rat} (hx : HasS x a) (hy : HasS y b) : gt x y = decide (b < a) := by
  obtain ⟨z, w, e, ho, rfl, rfl⟩ := ordS_has hx hy
  unfold gt
  rw [ho, cmp_gt]
  exact decide_eq_decide.2 (wi_lt e).symm
theorem geS_has {x y : F32} {a b : Rat} (hx : HasS x a) (hy : HasS y b) : ge x y = decide (b ≤ a) := by
  obtain ⟨z, w, e, ho, rfl, rfl⟩ := ordS_has hx hy
  unfold ge
  rw [ho, cmp_gt, cmp_eq, ← Bool.decide_or]
  refine decide_eq_decide.2 ?_
  have h1 := wi_lt (a := w) (b := z) e
  have h2 := wi_lt (a := z) (b := w) e
  constructor
  · intro h
    rcases h with h | rfl
    · exact Rat.le_of_lt (h1.2 h)
    · exact Rat.le_refl
  · intro h
    by_cases g : w < z
    · exact .inl g
    · right
      by_cases g2 : z < w
      · have := h2.2 g2
        grind
      · omega
theorem leS_has {x y : F32} {a b : Rat} (hx : HasS x a) (hy : HasS y b) : le x y = decide (a ≤ b) := by
  obtain ⟨z, w, e, ho, rfl, rfl⟩ := ordS_has hx hy
  unfold le
  rw [ho, cmp_lt, cmp_eq, ← Bool.decide_or]
  refine decide_eq_decide.2 ?_
  have h1 := wi_lt (a := w) (b := z) e
  have h2 := wi_lt (a := z) (b := w) e
  constructor
  · intro h
    rcases h with h | rfl
    · exact Rat.le_of_lt (h2.2 h)
    · exact Rat.le_refl
  · intro h
    by_cases g : z < w
    · exact .inl g
    · right
      by_cases g2 : w < z
      · have := h1.2 g2
        grind
      · omega
theorem hasS_fin {x : F32} {a : Rat} (h : HasS x a) : finS x = true := by
  obtain ⟨s, m, e, h, _⟩ := h
  exact h.fin
theorem wo_le2 {m : Nat} {e E : Int} (h : Le2 m e E) : wo m e ≤ (2 : Rat) ^ E := by
  rcases h with rfl | ⟨h1, h2⟩
  · have : wo 0 e = 0 := by unfold wo; grind
    rw [this]; exact Rat.le_of_lt (two_pos E)
  · have g := wo_mono h2 e
    have := wo_pow 1 (E - e).toNat e
    rw [Nat.one_mul] at this
    rw [this, wo_one] at g
    rw [show e + ((E - e).toNat : Int) = E by omega] at g
    exact g
/-- A number narrowed: how far, and it stays within a bound and on its side of zero. -/
theorem narrow_has2 {x : F64} {v : Rat} {E : Int} (h : Has x v) (h1 : v ≤ (2 : Rat) ^ E) (h2 : -((2 : Rat) ^ E) ≤ v) (h3 : -126 ≤ E) (h4 : E ≤ 127) (u : Rat) (hu : u = (2 : Rat) ^ (E - 24)) :
    fits x = true ∧ ∃ w, HasS (narrow x) w ∧ w ≤ v + u ∧ v ≤ w + u ∧ w ≤ (2 : Rat) ^ E ∧ -((2 : Rat) ^ E) ≤ w ∧ (0 ≤ v → 0 ≤ w) := by
  obtain ⟨s, m, e, hx, rfl⟩ := h
  have hl := val_le2 h1 h2
  refine ⟨(Up.narrow ⟨s, m, e, hx, le2_mono hl (by omega)⟩).1, ?_⟩
  obtain ⟨m', e', g1, g2, g3, g4⟩ := num_roundS s hl h3 h4
  rw [← hu] at g3 g4
  obtain ⟨q, rfl, hq⟩ := hx
  have hd : FloatKind.f64.decode q = .number s m e := hq
  have : narrow (bx q) = sx (single.nearest s m e) := by simp only [narrow, hd]; rfl
  rw [this]
  refine ⟨_, ⟨s, m', e', g1, rfl⟩, ?_⟩
  have k1 := wo_le2 g2
  have k2 := wo_nonneg m' e'
  have k3 := wo_nonneg m e
  have k4 := two_pos E
  by_cases hm : m = 0
  · subst hm
    have hz : wo 0 e = 0 := by unfold wo; grind
    have hm' : wo m' e' = 0 := by
      obtain ⟨r, hr1, hr2⟩ := g1
      rw [show single.nearest s 0 e = single.word s 0 by unfold Format.nearest; rw [if_pos rfl]] at hr1
      have hr3 : r = single.word s 0 := (Option.some.inj hr1).symm
      have : single.read r = .number s 0 (-149) := by rw [hr3]; cases s <;> decide
      rw [this] at hr2
      cases hr2
      unfold wo; grind
    unfold val
    rw [hm', hz] at *
    cases s <;> simp only [cond_true, cond_false] <;> refine ⟨?_, ?_, ?_, ?_, ?_⟩ <;> grind
  · unfold val
    have hp := wo_pos (Nat.pos_of_ne_zero hm) e
    cases s <;> simp only [cond_true, cond_false] <;> refine ⟨?_, ?_, ?_, ?_, ?_⟩ <;> grind
end Go.Proofs.Ytlpahmefebgdlaa.Fx
namespace Go.Proofs.Ytlpahmefebgdlaa.Fx
open Go Nr Ieee

def mic : Rat := 1 / 1000000
theorem swing_has {e x : F64} {g v : Rat} (hg : Has e g) (g0 : 0 ≤ g) (g1 : g ≤ 1) (hp0 : swingPhase e zero = zero) (hp1 : swingPhase e one = one) (hv : Has (wrap x) v) (v0 : 0 ≤ v) (v1 : v < 1) :
    ∃ a w, Has (swing e x) a ∧ 0 ≤ a ∧ a ≤ 1 ∧ Has (swingPhase e (swing e x)) w ∧ w ≤ v ∧ v ≤ w + mic := by
  have t0 : swTest e (wrap x) zero = false := by
    unfold swTest; rw [hp0, gt_has zero_has hv]; exact decide_eq_false (by grind)
  have t1 : swTest e (wrap x) one = true := by
    unfold swTest; rw [hp1, gt_has one_has hv]; exact decide_eq_true v1
  have z0 : Has zero (wo 0 (-((0 : Nat) : Int))) := by
    have : wo 0 (-((0 : Nat) : Int)) = 0 := by decide +kernel
    rw [this]; exact zero_has
  have z1 : Has one (wo (0 + 1) (-((0 : Nat) : Int))) := by
    have : wo (0 + 1) (-((0 : Nat) : Int)) = 1 := by decide +kernel
    rw [this]; exact one_has
  obtain ⟨a', q1, q2, q3, q4, q5⟩ := bis_exact (swTest e (wrap x)) 50 0 (zero, one) 0 (by decide) z0 z1 (by decide) t0 t1
  have hs : (bis (swTest e (wrap x)) 50 (zero, one)).1 = swing e x := rfl
  rw [hs] at q2 q4
  generalize (bis (swTest e (wrap x)) 50 (zero, one)).2 = h at q3 q5
  have hm := wo_mono q1 (-((0 + 50 : Nat) : Int))
  have k1 : wo (2 ^ (0 + 50)) (-((0 + 50 : Nat) : Int)) = 1 := by decide +kernel
  rw [k1] at hm
  have hn := wo_nonneg a' (-((0 + 50 : Nat) : Int))
  have ha := wo_add a' 1 (-((0 + 50 : Nat) : Int))
  have k2 : wo 1 (-((0 + 50 : Nat) : Int)) ≤ 1 / 16777216 := by decide +kernel
  have hn1 := wo_nonneg 1 (-((0 + 50 : Nat) : Int))
  have kz : (0 : Rat) ≤ 1 / 16777216 := by decide +kernel
  generalize wo a' (-((0 + 50 : Nat) : Int)) = A at *
  generalize wo (a' + 1) (-((0 + 50 : Nat) : Int)) = B at *
  obtain ⟨p, r, hp, hr, r1, r2, r3, r4, r5, r6⟩ := phase_two hg g0 g1 q2 q3 hn (by grind) (by grind) hm (by grind) (by grind)
  refine ⟨A, p, q2, hn, by grind, hp, ?_, ?_⟩
  · unfold swTest at q4
    rw [gt_has hp hv] at q4
    have := of_decide_eq_false q4
    grind
  · unfold swTest at q5
    rw [gt_has hr hv] at q5
    have := of_decide_eq_true q5
    have km : ∀ x y z : Rat, y - x ≤ z → z ≤ mic → v < y → v ≤ x + mic := by intros; grind
    exact km _ _ _ r6 (by decide +kernel) this
/-- A swing told in 32 bits, and its phase. -/
theorem swing_back {e x : F64} {g v : Rat} (hg : Has e g) (g0 : 0 ≤ g) (g1 : g ≤ 1) (hp0 : swingPhase e zero = zero) (hp1 : swingPhase e one = one) (hv : Has (wrap x) v) (v0 : 0 ≤ v) (v1 : v < 1) :
    ∃ u t, HasS (narrow (swing e x)) u ∧ 0 ≤ u ∧ u ≤ 1 ∧ HasS (narrow (swingPhase e (widen (narrow (swing e x))))) t ∧ t ≤ v + 3 * mic ∧ v ≤ t + 3 * mic := by
  obtain ⟨a, w, h1, a0, a1, h2, w1, w2⟩ := swing_has hg g0 g1 hp0 hp1 hv v0 v1
  have k0 : (2 : Rat) ^ (0 : Int) = 1 := by decide +kernel
  have k1 : (2 : Rat) ^ (1 : Int) = 2 := by decide +kernel
  obtain ⟨-, u, hu, u1, u2, u3, -, u5⟩ := narrow_has2 h1 (E := 0) (by grind) (by grind) (by decide) (by decide) (1 / 16777216) (by decide +kernel)
  rw [k0] at u3
  have u0 := u5 a0
  obtain ⟨p, r, hp, hr, r1, r2, r3, r4, r5, r6⟩ := phase_two hg g0 g1 (widen_has hu) h1 u0 u3 a0 a1 (by grind) (by grind)
  have := has_inj hr h2
  subst this
  have km : ∀ z : Rat, p - r ≤ z → r - p ≤ z → z ≤ mic → p ≤ r + mic ∧ r ≤ p + mic := by intros; constructor <;> grind
  obtain ⟨m1, m2⟩ := km _ r5 r6 (by decide +kernel)
  have k2 : mic ≤ 1 / 10 := by decide +kernel
  have k3 : (1 / 8388608 : Rat) ≤ mic := by decide +kernel
  obtain ⟨-, t, ht, t1, t2, -, -, -⟩ := narrow_has2 hp (E := 1) (by grind) (by grind) (by decide) (by decide) (1 / 8388608) (by decide +kernel)
  exact ⟨u, t, hu, u0, u3, ht, by grind, by grind⟩
/-- On a circle, the phase is the swing. -/
theorem circle_phase {e c : F64} {a : Rat} (he : Has e 0) (h : Has c a) (a0 : 0 ≤ a) (a1 : a ≤ 1) : ∃ w, Has (swingPhase e c) w ∧ w ≤ a + mic ∧ a ≤ w + mic := by
  have kz : (0 : Rat) ≤ 1 / 16777216 := by decide +kernel
  obtain ⟨p, q, hp, -, p1, p2, -⟩ := sine_two h h a0 a1 a0 a1 (by grind) (by grind)
  have k0 : (2 : Rat) ^ (0 : Int) = 1 := by decide +kernel
  have k1 : (2 : Rat) ^ (1 : Int) = 2 := by decide +kernel
  obtain ⟨m, hm, m1, m2⟩ := mul_has he hp (E := 0) (by grind) (by grind) (by decide) (by decide)
  have k3 : (2 : Rat) ^ ((0 : Int) - 53) ≤ mic / 10 := by decide +kernel
  have k4 : (2 : Rat) ^ ((0 : Int) - 51) ≤ mic / 10 := by decide +kernel
  have k5 : (2 : Rat) ^ ((1 : Int) - 53) ≤ mic / 10 := by decide +kernel
  have k6 : mic ≤ 1 / 10 := by decide +kernel
  have k7 : 0 < mic := by decide +kernel
  have hm3 : m ≤ mic / 10 ∧ -(mic / 10) ≤ m := by constructor <;> grind
  have hc0 : (7074237752028440 / 1125899906842624 : Rat) ≠ 0 := by decide +kernel
  have hc1 : (1 : Rat) ≤ 7074237752028440 / 1125899906842624 := by decide +kernel
  have hd : ∃ c, m = c * (7074237752028440 / 1125899906842624) ∧ c ≤ mic / 10 ∧ -(mic / 10) ≤ c := by
    refine ⟨m / (7074237752028440 / 1125899906842624), (Rat.div_mul_cancel hc0).symm, ?_, ?_⟩
    · refine Rat.le_of_mul_le_mul_right (c := 7074237752028440 / 1125899906842624) ?_ (by grind)
      rw [Rat.div_mul_cancel hc0]
      have := Rat.mul_le_mul_of_nonneg_left hc1 (by grind : 0 ≤ mic / 10)
      grind
    · refine Rat.le_of_mul_le_mul_right (c := 7074237752028440 / 1125899906842624) ?_ (by grind)
      rw [Rat.div_mul_cancel hc0]
      have := Rat.mul_le_mul_of_nonneg_left hc1 (by grind : 0 ≤ mic / 10)
      grind
  obtain ⟨d, hd1, hd2, hd3⟩ := hd
  obtain ⟨q, hq, q1, q2⟩ := div_has hm full_has hc0 hd1 (E := 0) (by grind) (by grind) (by decide) (by decide)
  obtain ⟨w, hw, w1, w2⟩ := sub_has h hq (E := 1) (by grind) (by grind) (by decide) (by decide)
  exact ⟨w, hw, by grind, by grind⟩
theorem circle_has {e x : F64} {v : Rat} (he : Has e 0) (hp0 : swingPhase e zero = zero) (hp1 : swingPhase e one = one) (hv : Has (wrap x) v) (v0 : 0 ≤ v) (v1 : v < 1) :
    ∃ u, HasS (narrow (swing e x)) u ∧ u ≤ v + 3 * mic ∧ v ≤ u + 3 * mic := by
  have k : (0 : Rat) ≤ 1 := by decide +kernel
  obtain ⟨a, w, h1, a0, a1, h2, w1, w2⟩ := swing_has he Rat.le_refl k hp0 hp1 hv v0 v1
  obtain ⟨w', h3, b1, b2⟩ := circle_phase he h1 a0 a1
  have := has_inj h2 h3
  subst this
  have k0 : (2 : Rat) ^ (0 : Int) = 1 := by decide +kernel
  obtain ⟨-, u, hu, u1, u2, -, -, -⟩ := narrow_has2 h1 (E := 0) (by grind) (by grind) (by decide) (by decide) (1 / 16777216) (by decide +kernel)
  have k3 : (1 / 16777216 : Rat) ≤ mic := by decide +kernel
  exact ⟨u, hu, by grind, by grind⟩
end Go.Proofs.Ytlpahmefebgdlaa.Fx
namespace Go.Proofs.Ytlpahmefebgdlaa.Fx
open Go Nr Ieee

theorem kn1_has : Has (ki 1) 1 := ⟨false, 1 * 2 ^ 52, -52, ⟨_, rfl, by kernel_rfl⟩, by decide +kernel⟩
theorem kn2_has : Has (ki 2) 2 := ⟨false, 2 * 2 ^ 51, -51, ⟨_, rfl, by kernel_rfl⟩, by decide +kernel⟩
theorem kn3_has : Has (ki 3) 3 := ⟨false, 3 * 2 ^ 51, -51, ⟨_, rfl, by kernel_rfl⟩, by decide +kernel⟩
theorem kn4_has : Has (ki 4) 4 := ⟨false, 4 * 2 ^ 50, -50, ⟨_, rfl, by kernel_rfl⟩, by decide +kernel⟩
theorem kn5_has : Has (ki 5) 5 := ⟨false, 5 * 2 ^ 50, -50, ⟨_, rfl, by kernel_rfl⟩, by decide +kernel⟩
theorem kn6_has : Has (ki 6) 6 := ⟨false, 6 * 2 ^ 50, -50, ⟨_, rfl, by kernel_rfl⟩, by decide +kernel⟩
theorem kn7_has : Has (ki 7) 7 := ⟨false, 7 * 2 ^ 50, -50, ⟨_, rfl, by kernel_rfl⟩, by decide +kernel⟩
theorem kn8_has : Has (ki 8) 8 := ⟨false, 8 * 2 ^ 49, -49, ⟨_, rfl, by kernel_rfl⟩, by decide +kernel⟩
theorem kn9_has : Has (ki 9) 9 := ⟨false, 9 * 2 ^ 49, -49, ⟨_, rfl, by kernel_rfl⟩, by decide +kernel⟩
theorem kn10_has : Has (ki 10) 10 := ⟨false, 10 * 2 ^ 49, -49, ⟨_, rfl, by kernel_rfl⟩, by decide +kernel⟩
theorem kn11_has : Has (ki 11) 11 := ⟨false, 11 * 2 ^ 49, -49, ⟨_, rfl, by kernel_rfl⟩, by decide +kernel⟩
theorem kn12_has : Has (ki 12) 12 := ⟨false, 12 * 2 ^ 49, -49, ⟨_, rfl, by kernel_rfl⟩, by decide +kernel⟩
theorem k256_has : Has k256 256 := ⟨false, 2 ^ 52, -44, ⟨4643211215818981376, rfl, by decide⟩, by decide +kernel⟩
theorem h200_has : Has h200 200 := ⟨false, 200 * 2 ^ 45, -45, ⟨4641240890982006784, rfl, by decide⟩, by decide +kernel⟩
theorem m200_has : Has m200 (-200) := ⟨true, 200 * 2 ^ 45, -45, ⟨13864612927836782592, rfl, by decide⟩, by decide +kernel⟩
theorem exp_small {x : F64} {a : Rat} (h : Has x a) (h1 : -200 ≤ a) (h2 : a ≤ 200) : exponential x = sq8 (expPoly (x / k256)) := by
  unfold exponential
  rw [gt_has h h200_has, lt_has h m200_has, decide_eq_false (by grind), decide_eq_false (by grind)]; rfl
/-- What a bisection of leans compares. -/
def gv (e c : F64) : F64 := e * halfDiff c - c
theorem poly_twoa {x x' : F64} (hx : Two x x' (501 / 100 : Rat) (1 / 2097152 : Rat)) : Two (expPoly (x / k256)) (expPoly (x' / k256)) (5101 / 5000 : Rat) (8359 / 4398046511104 : Rat) := by
  have h1 := (Two.divc hx k256_has (by decide +kernel) (Q := (49 / 2500 : Rat)) (R := (1 / 536870912 : Rat)) (by decide +kernel) (by decide +kernel) (-5) (1 / 72057594037927936 : Rat) (by decide +kernel) (by decide +kernel) (by decide) (by decide)).le (B' := (197 / 10000 : Rat)) (d' := (16385 / 8796093022208 : Rat)) (by decide +kernel) (by decide +kernel)
  have h2 := (Two.mul h1 two_one (-5) (1 / 288230376151711744 : Rat) (by decide +kernel) (by decide +kernel) (by decide) (by decide)).le (B' := (99 / 5000 : Rat)) (d' := (8193 / 4398046511104 : Rat)) (by decide +kernel) (by decide +kernel)
  have h3 := (Two.divc h2 kn12_has (by decide +kernel) (Q := (17 / 10000 : Rat)) (R := (2731 / 17592186044416 : Rat)) (by decide +kernel) (by decide +kernel) (-9) (1 / 1152921504606846976 : Rat) (by decide +kernel) (by decide +kernel) (by decide) (by decide)).le (B' := (9 / 5000 : Rat)) (d' := (21849 / 140737488355328 : Rat)) (by decide +kernel) (by decide +kernel)
  have h4 := (Two.add two_one h3 (1) (1 / 4503599627370496 : Rat) (by decide +kernel) (by decide +kernel) (by decide) (by decide)).le (B' := (10019 / 10000 : Rat)) (d' := (10925 / 70368744177664 : Rat)) (by decide +kernel) (by decide +kernel)
  have h5 := (Two.mul h1 h4 (-5) (1 / 288230376151711744 : Rat) (by decide +kernel) (by decide +kernel) (by decide) (by decide)).le (B' := (99 / 5000 : Rat)) (d' := (4111 / 2199023255552 : Rat)) (by decide +kernel) (by decide +kernel)
  have h6 := (Two.divc h5 kn11_has (by decide +kernel) (Q := (9 / 5000 : Rat)) (R := (23919 / 140737488355328 : Rat)) (by decide +kernel) (by decide +kernel) (-9) (1 / 1152921504606846976 : Rat) (by decide +kernel) (by decide +kernel) (by decide) (by decide)).le (B' := (19 / 10000 : Rat)) (d' := (1495 / 8796093022208 : Rat)) (by decide +kernel) (by decide +kernel)
  have h7 := (Two.add two_one h6 (1) (1 / 4503599627370496 : Rat) (by decide +kernel) (by decide +kernel) (by decide) (by decide)).le (B' := (501 / 500 : Rat)) (d' := (23921 / 140737488355328 : Rat)) (by decide +kernel) (by decide +kernel)
  have h8 := (Two.mul h1 h7 (-5) (1 / 288230376151711744 : Rat) (by decide +kernel) (by decide +kernel) (by decide) (by decide)).le (B' := (99 / 5000 : Rat)) (d' := (257 / 137438953472 : Rat)) (by decide +kernel) (by decide +kernel)
  have h9 := (Two.divc h8 kn10_has (by decide +kernel) (Q := (1 / 500 : Rat)) (R := (26317 / 140737488355328 : Rat)) (by decide +kernel) (by decide +kernel) (-8) (1 / 576460752303423488 : Rat) (by decide +kernel) (by decide +kernel) (by decide) (by decide)).le (B' := (21 / 10000 : Rat)) (d' := (13159 / 70368744177664 : Rat)) (by decide +kernel) (by decide +kernel)
  have h10 := (Two.add two_one h9 (1) (1 / 4503599627370496 : Rat) (by decide +kernel) (by decide +kernel) (by decide) (by decide)).le (B' := (5011 / 5000 : Rat)) (d' := (26319 / 140737488355328 : Rat)) (by decide +kernel) (by decide +kernel)
  have h11 := (Two.mul h1 h10 (-5) (1 / 288230376151711744 : Rat) (by decide +kernel) (by decide +kernel) (by decide) (by decide)).le (B' := (99 / 5000 : Rat)) (d' := (8227 / 4398046511104 : Rat)) (by decide +kernel) (by decide +kernel)
  have h12 := (Two.divc h11 kn9_has (by decide +kernel) (Q := (11 / 5000 : Rat)) (R := (7313 / 35184372088832 : Rat)) (by decide +kernel) (by decide +kernel) (-8) (1 / 576460752303423488 : Rat) (by decide +kernel) (by decide +kernel) (by decide) (by decide)).le (B' := (23 / 10000 : Rat)) (d' := (29253 / 140737488355328 : Rat)) (by decide +kernel) (by decide +kernel)
  have h13 := (Two.add two_one h12 (1) (1 / 4503599627370496 : Rat) (by decide +kernel) (by decide +kernel) (by decide) (by decide)).le (B' := (1253 / 1250 : Rat)) (d' := (14627 / 70368744177664 : Rat)) (by decide +kernel) (by decide +kernel)
  have h14 := (Two.mul h1 h13 (-5) (1 / 288230376151711744 : Rat) (by decide +kernel) (by decide +kernel) (by decide) (by decide)).le (B' := (99 / 5000 : Rat)) (d' := (16461 / 8796093022208 : Rat)) (by decide +kernel) (by decide +kernel)
  have h15 := (Two.divc h14 kn8_has (by decide +kernel) (Q := (1 / 400 : Rat)) (R := (16461 / 70368744177664 : Rat)) (by decide +kernel) (by decide +kernel) (-8) (1 / 576460752303423488 : Rat) (by decide +kernel) (by decide +kernel) (by decide) (by decide)).le (B' := (13 / 5000 : Rat)) (d' := (8231 / 35184372088832 : Rat)) (by decide +kernel) (by decide +kernel)
  have h16 := (Two.add two_one h15 (1) (1 / 4503599627370496 : Rat) (by decide +kernel) (by decide +kernel) (by decide) (by decide)).le (B' := (10027 / 10000 : Rat)) (d' := (16463 / 70368744177664 : Rat)) (by decide +kernel) (by decide +kernel)
  have h17 := (Two.mul h1 h16 (-5) (1 / 288230376151711744 : Rat) (by decide +kernel) (by decide +kernel) (by decide) (by decide)).le (B' := (99 / 5000 : Rat)) (d' := (8235 / 4398046511104 : Rat)) (by decide +kernel) (by decide +kernel)
  have h18 := (Two.divc h17 kn7_has (by decide +kernel) (Q := (29 / 10000 : Rat)) (R := (18823 / 70368744177664 : Rat)) (by decide +kernel) (by decide +kernel) (-8) (1 / 576460752303423488 : Rat) (by decide +kernel) (by decide +kernel) (by decide) (by decide)).le (B' := (3 / 1000 : Rat)) (d' := (2353 / 8796093022208 : Rat)) (by decide +kernel) (by decide +kernel)
  have h19 := (Two.add two_one h18 (1) (1 / 4503599627370496 : Rat) (by decide +kernel) (by decide +kernel) (by decide) (by decide)).le (B' := (10031 / 10000 : Rat)) (d' := (18825 / 70368744177664 : Rat)) (by decide +kernel) (by decide +kernel)
  have h20 := (Two.mul h1 h19 (-5) (1 / 288230376151711744 : Rat) (by decide +kernel) (by decide +kernel) (by decide) (by decide)).le (B' := (99 / 5000 : Rat)) (d' := (16483 / 8796093022208 : Rat)) (by decide +kernel) (by decide +kernel)
  have h21 := (Two.divc h20 kn6_has (by decide +kernel) (Q := (33 / 10000 : Rat)) (R := (10989 / 35184372088832 : Rat)) (by decide +kernel) (by decide +kernel) (-8) (1 / 576460752303423488 : Rat) (by decide +kernel) (by decide +kernel) (by decide) (by decide)).le (B' := (17 / 5000 : Rat)) (d' := (21979 / 70368744177664 : Rat)) (by decide +kernel) (by decide +kernel)
  have h22 := (Two.add two_one h21 (1) (1 / 4503599627370496 : Rat) (by decide +kernel) (by decide +kernel) (by decide) (by decide)).le (B' := (2007 / 2000 : Rat)) (d' := (5495 / 17592186044416 : Rat)) (by decide +kernel) (by decide +kernel)
  have h23 := (Two.mul h1 h22 (-5) (1 / 288230376151711744 : Rat) (by decide +kernel) (by decide +kernel) (by decide) (by decide)).le (B' := (99 / 5000 : Rat)) (d' := (16497 / 8796093022208 : Rat)) (by decide +kernel) (by decide +kernel)
  have h24 := (Two.divc h23 kn5_has (by decide +kernel) (Q := (1 / 250 : Rat)) (R := (6599 / 17592186044416 : Rat)) (by decide +kernel) (by decide +kernel) (-7) (1 / 288230376151711744 : Rat) (by decide +kernel) (by decide +kernel) (by decide) (by decide)).le (B' := (41 / 10000 : Rat)) (d' := (26397 / 70368744177664 : Rat)) (by decide +kernel) (by decide +kernel)
  have h25 := (Two.add two_one h24 (1) (1 / 4503599627370496 : Rat) (by decide +kernel) (by decide +kernel) (by decide) (by decide)).le (B' := (5021 / 5000 : Rat)) (d' := (13199 / 35184372088832 : Rat)) (by decide +kernel) (by decide +kernel)
  have h26 := (Two.mul h1 h25 (-5) (1 / 288230376151711744 : Rat) (by decide +kernel) (by decide +kernel) (by decide) (by decide)).le (B' := (99 / 5000 : Rat)) (d' := (16519 / 8796093022208 : Rat)) (by decide +kernel) (by decide +kernel)
  have h27 := (Two.divc h26 kn4_has (by decide +kernel) (Q := (1 / 200 : Rat)) (R := (16519 / 35184372088832 : Rat)) (by decide +kernel) (by decide +kernel) (-7) (1 / 288230376151711744 : Rat) (by decide +kernel) (by decide +kernel) (by decide) (by decide)).le (B' := (51 / 10000 : Rat)) (d' := (2065 / 4398046511104 : Rat)) (by decide +kernel) (by decide +kernel)
  have h28 := (Two.add two_one h27 (1) (1 / 4503599627370496 : Rat) (by decide +kernel) (by decide +kernel) (by decide) (by decide)).le (B' := (2513 / 2500 : Rat)) (d' := (16521 / 35184372088832 : Rat)) (by decide +kernel) (by decide +kernel)
  have h29 := (Two.mul h1 h28 (-5) (1 / 288230376151711744 : Rat) (by decide +kernel) (by decide +kernel) (by decide) (by decide)).le (B' := (199 / 10000 : Rat)) (d' := (2069 / 1099511627776 : Rat)) (by decide +kernel) (by decide +kernel)
  have h30 := (Two.divc h29 kn3_has (by decide +kernel) (Q := (67 / 10000 : Rat)) (R := (11035 / 17592186044416 : Rat)) (by decide +kernel) (by decide +kernel) (-7) (1 / 288230376151711744 : Rat) (by decide +kernel) (by decide +kernel) (by decide) (by decide)).le (B' := (17 / 2500 : Rat)) (d' := (22071 / 35184372088832 : Rat)) (by decide +kernel) (by decide +kernel)
  have h31 := (Two.add two_one h30 (1) (1 / 4503599627370496 : Rat) (by decide +kernel) (by decide +kernel) (by decide) (by decide)).le (B' := (10069 / 10000 : Rat)) (d' := (2759 / 4398046511104 : Rat)) (by decide +kernel) (by decide +kernel)
  have h32 := (Two.mul h1 h31 (-5) (1 / 288230376151711744 : Rat) (by decide +kernel) (by decide +kernel) (by decide) (by decide)).le (B' := (199 / 10000 : Rat)) (d' := (16607 / 8796093022208 : Rat)) (by decide +kernel) (by decide +kernel)
  have h33 := (Two.divc h32 kn2_has (by decide +kernel) (Q := (1 / 100 : Rat)) (R := (16607 / 17592186044416 : Rat)) (by decide +kernel) (by decide +kernel) (-6) (1 / 144115188075855872 : Rat) (by decide +kernel) (by decide +kernel) (by decide) (by decide)).le (B' := (101 / 10000 : Rat)) (d' := (519 / 549755813888 : Rat)) (by decide +kernel) (by decide +kernel)
  have h34 := (Two.add two_one h33 (1) (1 / 4503599627370496 : Rat) (by decide +kernel) (by decide +kernel) (by decide) (by decide)).le (B' := (5051 / 5000 : Rat)) (d' := (16609 / 17592186044416 : Rat)) (by decide +kernel) (by decide +kernel)
  have h35 := (Two.mul h1 h34 (-5) (1 / 288230376151711744 : Rat) (by decide +kernel) (by decide +kernel) (by decide) (by decide)).le (B' := (1 / 50 : Rat)) (d' := (4179 / 2199023255552 : Rat)) (by decide +kernel) (by decide +kernel)
  have h36 := (Two.divc h35 kn1_has (by decide +kernel) (Q := (1 / 50 : Rat)) (R := (4179 / 2199023255552 : Rat)) (by decide +kernel) (by decide +kernel) (-5) (1 / 72057594037927936 : Rat) (by decide +kernel) (by decide +kernel) (by decide) (by decide)).le (B' := (201 / 10000 : Rat)) (d' := (16717 / 8796093022208 : Rat)) (by decide +kernel) (by decide +kernel)
  have h37 := (Two.add two_one h36 (1) (1 / 4503599627370496 : Rat) (by decide +kernel) (by decide +kernel) (by decide) (by decide)).le (B' := (5101 / 5000 : Rat)) (d' := (8359 / 4398046511104 : Rat)) (by decide +kernel) (by decide +kernel)
  exact h37
theorem exp_twoa {x x' : F64} (hx : Two x x' (501 / 100 : Rat) (1 / 2097152 : Rat)) : Two (exponential x) (exponential x') (848527 / 5000 : Rat) (21725 / 268435456 : Rat) := by
  have h0 := poly_twoa hx
  have h1 := (Two.mul h0 h0 (1) (1 / 4503599627370496 : Rat) (by decide +kernel) (by decide +kernel) (by decide) (by decide)).le (B' := (10409 / 10000 : Rat)) (d' := (533 / 137438953472 : Rat)) (by decide +kernel) (by decide +kernel)
  have h2 := (Two.mul h1 h1 (1) (1 / 4503599627370496 : Rat) (by decide +kernel) (by decide +kernel) (by decide) (by decide)).le (B' := (2167 / 2000 : Rat)) (d' := (8877 / 1099511627776 : Rat)) (by decide +kernel) (by decide +kernel)
  have h3 := (Two.mul h2 h2 (1) (1 / 4503599627370496 : Rat) (by decide +kernel) (by decide +kernel) (by decide) (by decide)).le (B' := (587 / 500 : Rat)) (d' := (19237 / 1099511627776 : Rat)) (by decide +kernel) (by decide +kernel)
  have h4 := (Two.mul h3 h3 (1) (1 / 4503599627370496 : Rat) (by decide +kernel) (by decide +kernel) (by decide) (by decide)).le (B' := (13783 / 10000 : Rat)) (d' := (22585 / 549755813888 : Rat)) (by decide +kernel) (by decide +kernel)
  have h5 := (Two.mul h4 h4 (1) (1 / 4503599627370496 : Rat) (by decide +kernel) (by decide +kernel) (by decide) (by decide)).le (B' := (9499 / 5000 : Rat)) (d' := (31129 / 274877906944 : Rat)) (by decide +kernel) (by decide +kernel)
  have h6 := (Two.mul h5 h5 (2) (1 / 2251799813685248 : Rat) (by decide +kernel) (by decide +kernel) (by decide) (by decide)).le (B' := (36093 / 10000 : Rat)) (d' := (14785 / 34359738368 : Rat)) (by decide +kernel) (by decide +kernel)
  have h7 := (Two.mul h6 h6 (4) (1 / 562949953421312 : Rat) (by decide +kernel) (by decide +kernel) (by decide) (by decide)).le (B' := (130271 / 10000 : Rat)) (d' := (13341 / 4294967296 : Rat)) (by decide +kernel) (by decide +kernel)
  have h8 := (Two.mul h7 h7 (8) (1 / 35184372088832 : Rat) (by decide +kernel) (by decide +kernel) (by decide) (by decide)).le (B' := (848527 / 5000 : Rat)) (d' := (21725 / 268435456 : Rat)) (by decide +kernel) (by decide +kernel)
  obtain ⟨a, b, ha, hb, q1, q2, q3, q4, q5, q6⟩ := hx
  rw [exp_small ha (by grind) (by grind), exp_small hb (by grind) (by grind)]
  exact h8
theorem gv_twoa {e x x' : F64} (he : Two e e (21 / 4 : Rat) 0) (hx : Two x x' (501 / 100 : Rat) (1 / 2097152 : Rat)) : Two (gv e x) (gv e x') (4479823 / 5000 : Rat) (14275 / 33554432 : Rat) := by
  have e1 := exp_twoa hx
  have e2 := exp_twoa hx.neg
  have h1 := (Two.sub e1 e2 (9) (1 / 17592186044416 : Rat) (by decide +kernel) (by decide +kernel) (by decide) (by decide)).le (B' := (3394109 / 10000 : Rat)) (d' := (10863 / 67108864 : Rat)) (by decide +kernel) (by decide +kernel)
  have h2 := (Two.divc h1 two_has (by decide +kernel) (Q := (339411 / 2000 : Rat)) (R := (10863 / 134217728 : Rat)) (by decide +kernel) (by decide +kernel) (8) (1 / 8796093022208 : Rat) (by decide +kernel) (by decide +kernel) (by decide) (by decide)).le (B' := (106066 / 625 : Rat)) (d' := (21727 / 268435456 : Rat)) (by decide +kernel) (by decide +kernel)
  have h3 := (Two.mul he h2 (10) (1 / 8796093022208 : Rat) (by decide +kernel) (by decide +kernel) (by decide) (by decide)).le (B' := (1781909 / 2000 : Rat)) (d' := (28517 / 67108864 : Rat)) (by decide +kernel) (by decide +kernel)
  have h4 := (Two.sub h3 hx (10) (1 / 8796093022208 : Rat) (by decide +kernel) (by decide +kernel) (by decide) (by decide)).le (B' := (4479823 / 5000 : Rat)) (d' := (14275 / 33554432 : Rat)) (by decide +kernel) (by decide +kernel)
  exact h4
theorem poly_twob {x x' : F64} (hx : Two x x' (501 / 100 : Rat) (1 / 35184372088832 : Rat)) : Two (expPoly (x / k256)) (expPoly (x' / k256)) (5101 / 5000 : Rat) (11613 / 18446744073709551616 : Rat) := by
  have h1 := (Two.divc hx k256_has (by decide +kernel) (Q := (49 / 2500 : Rat)) (R := (1 / 9007199254740992 : Rat)) (by decide +kernel) (by decide +kernel) (-5) (1 / 72057594037927936 : Rat) (by decide +kernel) (by decide +kernel) (by decide) (by decide)).le (B' := (197 / 10000 : Rat)) (d' := (5 / 36028797018963968 : Rat)) (by decide +kernel) (by decide +kernel)
  have h2 := (Two.mul h1 two_one (-5) (1 / 288230376151711744 : Rat) (by decide +kernel) (by decide +kernel) (by decide) (by decide)).le (B' := (99 / 5000 : Rat)) (d' := (21 / 144115188075855872 : Rat)) (by decide +kernel) (by decide +kernel)
  have h3 := (Two.divc h2 kn12_has (by decide +kernel) (Q := (17 / 10000 : Rat)) (R := (7 / 576460752303423488 : Rat)) (by decide +kernel) (by decide +kernel) (-9) (1 / 1152921504606846976 : Rat) (by decide +kernel) (by decide +kernel) (by decide) (by decide)).le (B' := (9 / 5000 : Rat)) (d' := (1 / 72057594037927936 : Rat)) (by decide +kernel) (by decide +kernel)
  have h4 := (Two.add two_one h3 (1) (1 / 4503599627370496 : Rat) (by decide +kernel) (by decide +kernel) (by decide) (by decide)).le (B' := (10019 / 10000 : Rat)) (d' := (33 / 72057594037927936 : Rat)) (by decide +kernel) (by decide +kernel)
  have h5 := (Two.mul h1 h4 (-5) (1 / 288230376151711744 : Rat) (by decide +kernel) (by decide +kernel) (by decide) (by decide)).le (B' := (99 / 5000 : Rat)) (d' := (22875 / 147573952589676412928 : Rat)) (by decide +kernel) (by decide +kernel)
  have h6 := (Two.divc h5 kn11_has (by decide +kernel) (Q := (9 / 5000 : Rat)) (R := (16637 / 1180591620717411303424 : Rat)) (by decide +kernel) (by decide +kernel) (-9) (1 / 1152921504606846976 : Rat) (by decide +kernel) (by decide +kernel) (by decide) (by decide)).le (B' := (19 / 10000 : Rat)) (d' := (18685 / 1180591620717411303424 : Rat)) (by decide +kernel) (by decide +kernel)
  have h7 := (Two.add two_one h6 (1) (1 / 4503599627370496 : Rat) (by decide +kernel) (by decide +kernel) (by decide) (by decide)).le (B' := (501 / 500 : Rat)) (d' := (2121 / 4611686018427387904 : Rat)) (by decide +kernel) (by decide +kernel)
  have h8 := (Two.mul h1 h7 (-5) (1 / 288230376151711744 : Rat) (by decide +kernel) (by decide +kernel) (by decide) (by decide)).le (B' := (99 / 5000 : Rat)) (d' := (22883 / 147573952589676412928 : Rat)) (by decide +kernel) (by decide +kernel)
  have h9 := (Two.divc h8 kn10_has (by decide +kernel) (Q := (1 / 500 : Rat)) (R := (18307 / 1180591620717411303424 : Rat)) (by decide +kernel) (by decide +kernel) (-8) (1 / 576460752303423488 : Rat) (by decide +kernel) (by decide +kernel) (by decide) (by decide)).le (B' := (21 / 10000 : Rat)) (d' := (22403 / 1180591620717411303424 : Rat)) (by decide +kernel) (by decide +kernel)
  have h10 := (Two.add two_one h9 (1) (1 / 4503599627370496 : Rat) (by decide +kernel) (by decide +kernel) (by decide) (by decide)).le (B' := (5011 / 5000 : Rat)) (d' := (17085 / 36893488147419103232 : Rat)) (by decide +kernel) (by decide +kernel)
  have h11 := (Two.mul h1 h10 (-5) (1 / 288230376151711744 : Rat) (by decide +kernel) (by decide +kernel) (by decide) (by decide)).le (B' := (99 / 5000 : Rat)) (d' := (1431 / 9223372036854775808 : Rat)) (by decide +kernel) (by decide +kernel)
  have h12 := (Two.divc h11 kn9_has (by decide +kernel) (Q := (11 / 5000 : Rat)) (R := (159 / 9223372036854775808 : Rat)) (by decide +kernel) (by decide +kernel) (-8) (1 / 576460752303423488 : Rat) (by decide +kernel) (by decide +kernel) (by decide) (by decide)).le (B' := (23 / 10000 : Rat)) (d' := (191 / 9223372036854775808 : Rat)) (by decide +kernel) (by decide +kernel)
  have h13 := (Two.add two_one h12 (1) (1 / 4503599627370496 : Rat) (by decide +kernel) (by decide +kernel) (by decide) (by decide)).le (B' := (1253 / 1250 : Rat)) (d' := (4287 / 9223372036854775808 : Rat)) (by decide +kernel) (by decide +kernel)
  have h14 := (Two.mul h1 h13 (-5) (1 / 288230376151711744 : Rat) (by decide +kernel) (by decide +kernel) (by decide) (by decide)).le (B' := (99 / 5000 : Rat)) (d' := (22905 / 147573952589676412928 : Rat)) (by decide +kernel) (by decide +kernel)
  have h15 := (Two.divc h14 kn8_has (by decide +kernel) (Q := (1 / 400 : Rat)) (R := (22905 / 1180591620717411303424 : Rat)) (by decide +kernel) (by decide +kernel) (-8) (1 / 576460752303423488 : Rat) (by decide +kernel) (by decide +kernel) (by decide) (by decide)).le (B' := (13 / 5000 : Rat)) (d' := (27001 / 1180591620717411303424 : Rat)) (by decide +kernel) (by decide +kernel)
  have h16 := (Two.add two_one h15 (1) (1 / 4503599627370496 : Rat) (by decide +kernel) (by decide +kernel) (by decide) (by decide)).le (B' := (10027 / 10000 : Rat)) (d' := (4307 / 9223372036854775808 : Rat)) (by decide +kernel) (by decide +kernel)
  have h17 := (Two.mul h1 h16 (-5) (1 / 288230376151711744 : Rat) (by decide +kernel) (by decide +kernel) (by decide) (by decide)).le (B' := (99 / 5000 : Rat)) (d' := (22917 / 147573952589676412928 : Rat)) (by decide +kernel) (by decide +kernel)
  have h18 := (Two.divc h17 kn7_has (by decide +kernel) (Q := (29 / 10000 : Rat)) (R := (26191 / 1180591620717411303424 : Rat)) (by decide +kernel) (by decide +kernel) (-8) (1 / 576460752303423488 : Rat) (by decide +kernel) (by decide +kernel) (by decide) (by decide)).le (B' := (3 / 1000 : Rat)) (d' := (30287 / 1180591620717411303424 : Rat)) (by decide +kernel) (by decide +kernel)
  have h19 := (Two.add two_one h18 (1) (1 / 4503599627370496 : Rat) (by decide +kernel) (by decide +kernel) (by decide) (by decide)).le (B' := (10031 / 10000 : Rat)) (d' := (17331 / 36893488147419103232 : Rat)) (by decide +kernel) (by decide +kernel)
  have h20 := (Two.mul h1 h19 (-5) (1 / 288230376151711744 : Rat) (by decide +kernel) (by decide +kernel) (by decide) (by decide)).le (B' := (99 / 5000 : Rat)) (d' := (11467 / 73786976294838206464 : Rat)) (by decide +kernel) (by decide +kernel)
  have h21 := (Two.divc h20 kn6_has (by decide +kernel) (Q := (33 / 10000 : Rat)) (R := (30579 / 1180591620717411303424 : Rat)) (by decide +kernel) (by decide +kernel) (-8) (1 / 576460752303423488 : Rat) (by decide +kernel) (by decide +kernel) (by decide) (by decide)).le (B' := (17 / 5000 : Rat)) (d' := (8669 / 295147905179352825856 : Rat)) (by decide +kernel) (by decide +kernel)
  have h22 := (Two.add two_one h21 (1) (1 / 4503599627370496 : Rat) (by decide +kernel) (by decide +kernel) (by decide) (by decide)).le (B' := (2007 / 2000 : Rat)) (d' := (4367 / 9223372036854775808 : Rat)) (by decide +kernel) (by decide +kernel)
  have h23 := (Two.mul h1 h22 (-5) (1 / 288230376151711744 : Rat) (by decide +kernel) (by decide +kernel) (by decide) (by decide)).le (B' := (99 / 5000 : Rat)) (d' := (22953 / 147573952589676412928 : Rat)) (by decide +kernel) (by decide +kernel)
  have h24 := (Two.divc h23 kn5_has (by decide +kernel) (Q := (1 / 250 : Rat)) (R := (18363 / 590295810358705651712 : Rat)) (by decide +kernel) (by decide +kernel) (-7) (1 / 288230376151711744 : Rat) (by decide +kernel) (by decide +kernel) (by decide) (by decide)).le (B' := (41 / 10000 : Rat)) (d' := (22459 / 590295810358705651712 : Rat)) (by decide +kernel) (by decide +kernel)
  have h25 := (Two.add two_one h24 (1) (1 / 4503599627370496 : Rat) (by decide +kernel) (by decide +kernel) (by decide) (by decide)).le (B' := (5021 / 5000 : Rat)) (d' := (4447 / 9223372036854775808 : Rat)) (by decide +kernel) (by decide +kernel)
  have h26 := (Two.mul h1 h25 (-5) (1 / 288230376151711744 : Rat) (by decide +kernel) (by decide +kernel) (by decide) (by decide)).le (B' := (99 / 5000 : Rat)) (d' := (1437 / 9223372036854775808 : Rat)) (by decide +kernel) (by decide +kernel)
  have h27 := (Two.divc h26 kn4_has (by decide +kernel) (Q := (1 / 200 : Rat)) (R := (1437 / 36893488147419103232 : Rat)) (by decide +kernel) (by decide +kernel) (-7) (1 / 288230376151711744 : Rat) (by decide +kernel) (by decide +kernel) (by decide) (by decide)).le (B' := (51 / 10000 : Rat)) (d' := (1693 / 36893488147419103232 : Rat)) (by decide +kernel) (by decide +kernel)
  have h28 := (Two.add two_one h27 (1) (1 / 4503599627370496 : Rat) (by decide +kernel) (by decide +kernel) (by decide) (by decide)).le (B' := (2513 / 2500 : Rat)) (d' := (18077 / 36893488147419103232 : Rat)) (by decide +kernel) (by decide +kernel)
  have h29 := (Two.mul h1 h28 (-5) (1 / 288230376151711744 : Rat) (by decide +kernel) (by decide +kernel) (by decide) (by decide)).le (B' := (199 / 10000 : Rat)) (d' := (23035 / 147573952589676412928 : Rat)) (by decide +kernel) (by decide +kernel)
  have h30 := (Two.divc h29 kn3_has (by decide +kernel) (Q := (67 / 10000 : Rat)) (R := (15357 / 295147905179352825856 : Rat)) (by decide +kernel) (by decide +kernel) (-7) (1 / 288230376151711744 : Rat) (by decide +kernel) (by decide +kernel) (by decide) (by decide)).le (B' := (17 / 2500 : Rat)) (d' := (17405 / 295147905179352825856 : Rat)) (by decide +kernel) (by decide +kernel)
  have h31 := (Two.add two_one h30 (1) (1 / 4503599627370496 : Rat) (by decide +kernel) (by decide +kernel) (by decide) (by decide)).le (B' := (10069 / 10000 : Rat)) (d' := (145 / 288230376151711744 : Rat)) (by decide +kernel) (by decide +kernel)
  have h32 := (Two.mul h1 h31 (-5) (1 / 288230376151711744 : Rat) (by decide +kernel) (by decide +kernel) (by decide) (by decide)).le (B' := (199 / 10000 : Rat)) (d' := (5777 / 36893488147419103232 : Rat)) (by decide +kernel) (by decide +kernel)
  have h33 := (Two.divc h32 kn2_has (by decide +kernel) (Q := (1 / 100 : Rat)) (R := (5777 / 73786976294838206464 : Rat)) (by decide +kernel) (by decide +kernel) (-6) (1 / 144115188075855872 : Rat) (by decide +kernel) (by decide +kernel) (by decide) (by decide)).le (B' := (101 / 10000 : Rat)) (d' := (6801 / 73786976294838206464 : Rat)) (by decide +kernel) (by decide +kernel)
  have h34 := (Two.add two_one h33 (1) (1 / 4503599627370496 : Rat) (by decide +kernel) (by decide +kernel) (by decide) (by decide)).le (B' := (5051 / 5000 : Rat)) (d' := (19785 / 36893488147419103232 : Rat)) (by decide +kernel) (by decide +kernel)
  have h35 := (Two.mul h1 h34 (-5) (1 / 288230376151711744 : Rat) (by decide +kernel) (by decide +kernel) (by decide) (by decide)).le (B' := (1 / 50 : Rat)) (d' := (2909 / 18446744073709551616 : Rat)) (by decide +kernel) (by decide +kernel)
  have h36 := (Two.divc h35 kn1_has (by decide +kernel) (Q := (1 / 50 : Rat)) (R := (2909 / 18446744073709551616 : Rat)) (by decide +kernel) (by decide +kernel) (-5) (1 / 72057594037927936 : Rat) (by decide +kernel) (by decide +kernel) (by decide) (by decide)).le (B' := (201 / 10000 : Rat)) (d' := (3421 / 18446744073709551616 : Rat)) (by decide +kernel) (by decide +kernel)
  have h37 := (Two.add two_one h36 (1) (1 / 4503599627370496 : Rat) (by decide +kernel) (by decide +kernel) (by decide) (by decide)).le (B' := (5101 / 5000 : Rat)) (d' := (11613 / 18446744073709551616 : Rat)) (by decide +kernel) (by decide +kernel)
  exact h37
theorem exp_twob {x x' : F64} (hx : Two x x' (501 / 100 : Rat) (1 / 35184372088832 : Rat)) : Two (exponential x) (exponential x') (848527 / 5000 : Rat) (24821 / 562949953421312 : Rat) := by
  have h0 := poly_twob hx
  have h1 := (Two.mul h0 h0 (1) (1 / 4503599627370496 : Rat) (by decide +kernel) (by decide +kernel) (by decide) (by decide)).le (B' := (10409 / 10000 : Rat)) (d' := (1993 / 1152921504606846976 : Rat)) (by decide +kernel) (by decide +kernel)
  have h2 := (Two.mul h1 h1 (1) (1 / 4503599627370496 : Rat) (by decide +kernel) (by decide +kernel) (by decide) (by decide)).le (B' := (2167 / 2000 : Rat)) (d' := (18645 / 4611686018427387904 : Rat)) (by decide +kernel) (by decide +kernel)
  have h3 := (Two.mul h2 h2 (1) (1 / 4503599627370496 : Rat) (by decide +kernel) (by decide +kernel) (by decide) (by decide)).le (B' := (587 / 500 : Rat)) (d' := (10613 / 1152921504606846976 : Rat)) (by decide +kernel) (by decide +kernel)
  have h4 := (Two.mul h3 h3 (1) (1 / 4503599627370496 : Rat) (by decide +kernel) (by decide +kernel) (by decide) (by decide)).le (B' := (13783 / 10000 : Rat)) (d' := (3179 / 144115188075855872 : Rat)) (by decide +kernel) (by decide +kernel)
  have h5 := (Two.mul h4 h4 (1) (1 / 4503599627370496 : Rat) (by decide +kernel) (by decide +kernel) (by decide) (by decide)).le (B' := (9499 / 5000 : Rat)) (d' := (17655 / 288230376151711744 : Rat)) (by decide +kernel) (by decide +kernel)
  have h6 := (Two.mul h5 h5 (2) (1 / 2251799813685248 : Rat) (by decide +kernel) (by decide +kernel) (by decide) (by decide)).le (B' := (36093 / 10000 : Rat)) (d' := (16835 / 72057594037927936 : Rat)) (by decide +kernel) (by decide +kernel)
  have h7 := (Two.mul h6 h6 (4) (1 / 562949953421312 : Rat) (by decide +kernel) (by decide +kernel) (by decide) (by decide)).le (B' := (130271 / 10000 : Rat)) (d' := (15223 / 9007199254740992 : Rat)) (by decide +kernel) (by decide +kernel)
  have h8 := (Two.mul h7 h7 (8) (1 / 35184372088832 : Rat) (by decide +kernel) (by decide +kernel) (by decide) (by decide)).le (B' := (848527 / 5000 : Rat)) (d' := (24821 / 562949953421312 : Rat)) (by decide +kernel) (by decide +kernel)
  obtain ⟨a, b, ha, hb, q1, q2, q3, q4, q5, q6⟩ := hx
  rw [exp_small ha (by grind) (by grind), exp_small hb (by grind) (by grind)]
  exact h8
theorem gv_twob {e x x' : F64} (he : Two e e (21 / 4 : Rat) 0) (hx : Two x x' (501 / 100 : Rat) (1 / 35184372088832 : Rat)) : Two (gv e x) (gv e x') (4479823 / 5000 : Rat) (4107 / 17592186044416 : Rat) := by
  have e1 := exp_twob hx
  have e2 := exp_twob hx.neg
  have h1 := (Two.sub e1 e2 (9) (1 / 17592186044416 : Rat) (by decide +kernel) (by decide +kernel) (by decide) (by decide)).le (B' := (3394109 / 10000 : Rat)) (d' := (24853 / 281474976710656 : Rat)) (by decide +kernel) (by decide +kernel)
  have h2 := (Two.divc h1 two_has (by decide +kernel) (Q := (339411 / 2000 : Rat)) (R := (24853 / 562949953421312 : Rat)) (by decide +kernel) (by decide +kernel) (8) (1 / 8796093022208 : Rat) (by decide +kernel) (by decide +kernel) (by decide) (by decide)).le (B' := (106066 / 625 : Rat)) (d' := (24981 / 562949953421312 : Rat)) (by decide +kernel) (by decide +kernel)
  have h3 := (Two.mul he h2 (10) (1 / 8796093022208 : Rat) (by decide +kernel) (by decide +kernel) (by decide) (by decide)).le (B' := (1781909 / 2000 : Rat)) (d' := (8205 / 35184372088832 : Rat)) (by decide +kernel) (by decide +kernel)
  have h4 := (Two.sub h3 hx (10) (1 / 8796093022208 : Rat) (by decide +kernel) (by decide +kernel) (by decide) (by decide)).le (B' := (4479823 / 5000 : Rat)) (d' := (4107 / 17592186044416 : Rat)) (by decide +kernel) (by decide +kernel)
  exact h4
end Go.Proofs.Ytlpahmefebgdlaa.Fx
namespace Go.Proofs.Ytlpahmefebgdlaa.Fx
open Go Nr Ieee

/-- A bound of a middle's error. -/
def tht : Rat := 1 / 140737488355328
theorem mid_has {x y : F64} {a b : Rat} (hx : Has x a) (hy : Has y b) (a1 : -7 ≤ a) (a2 : a ≤ 7) (b1 : -7 ≤ b) (b2 : b ≤ 7) : ∃ m, Has ((x + y) / two) m ∧ m ≤ (a + b) / 2 + tht ∧ (a + b) / 2 ≤ m + tht := by
  have k4 : (2 : Rat) ^ (4 : Int) = 16 := by decide +kernel
  have k3 : (2 : Rat) ^ (3 : Int) = 8 := by decide +kernel
  have u4 : (2 : Rat) ^ ((4 : Int) - 53) ≤ tht / 4 := by decide +kernel
  have u3 : (2 : Rat) ^ ((3 : Int) - 51) ≤ tht / 2 := by decide +kernel
  have kt : tht ≤ 1 / 10 := by decide +kernel
  obtain ⟨s, hs, s1, s2⟩ := add_has hx hy (E := 4) (by grind) (by grind) (by decide) (by decide)
  obtain ⟨m, hm, m1, m2⟩ := div_has hs two_has (by decide) (c := s / 2) (by grind) (E := 3) (by grind) (by grind) (by decide) (by decide)
  exact ⟨m, hm, by grind, by grind⟩
def wid : Nat → Rat → Rat
  | 0, w => w
  | n + 1, w => wid n (w / 2 + tht)
theorem bis_near (g : F64 → Bool) : ∀ (n : Nat) (s : F64 × F64) (a b w M : Rat), Has s.1 a → Has s.2 b → a - b ≤ w → b - a ≤ w → -M ≤ a → a ≤ M → -M ≤ b → b ≤ M → M + n * tht ≤ 7 → g s.1 = false → g s.2 = true →
    ∃ a' b', Has (bis g n s).1 a' ∧ Has (bis g n s).2 b' ∧ a' - b' ≤ wid n w ∧ b' - a' ≤ wid n w ∧ -(M + n * tht) ≤ a' ∧ a' ≤ M + n * tht ∧ -(M + n * tht) ≤ b' ∧ b' ≤ M + n * tht ∧ g (bis g n s).1 = false ∧ g (bis g n s).2 = true
  | 0, s, a, b, w, M, h1, h2, w1, w2, a1, a2, b1, b2, hM, g1, g2 => by
    have e : M + ((0 : Nat) : Rat) * tht = M := by
      have : ((0 : Nat) : Rat) = 0 := rfl
      rw [this]; grind
    rw [e]
    exact ⟨a, b, h1, h2, w1, w2, a1, a2, b1, b2, g1, g2⟩
  | n + 1, s, a, b, w, M, h1, h2, w1, w2, a1, a2, b1, b2, hM, g1, g2 => by
    have e : M + ((n + 1 : Nat) : Rat) * tht = M + tht + (n : Rat) * tht := by
      rw [Rat.natCast_add]
      have : ((1 : Nat) : Rat) = 1 := rfl
      rw [this]; grind
    rw [e] at hM ⊢
    have k0 : 0 < tht := by decide +kernel
    have hn : (0 : Rat) ≤ (n : Rat) * tht := Rat.mul_nonneg (Rat.natCast_le_natCast.2 (Nat.zero_le n)) (Rat.le_of_lt k0)
    obtain ⟨m, hm, m1, m2⟩ := mid_has h1 h2 (by grind) (by grind) (by grind) (by grind)
    simp only [bis, wid]
    cases hg : g ((s.1 + s.2) / two) with
    | true => exact bis_near g n (s.1, (s.1 + s.2) / two) a m (w / 2 + tht) (M + tht) h1 hm (by grind) (by grind) (by grind) (by grind) (by grind) (by grind) hM g1 hg
    | false => exact bis_near g n ((s.1 + s.2) / two, s.2) m b (w / 2 + tht) (M + tht) hm h2 (by grind) (by grind) (by grind) (by grind) (by grind) (by grind) hM hg g2
def five : F64 := c64 4617315517961601024
def mfive : F64 := c64 13840687554816376832
theorem five_has : Has five 5 := ⟨false, 5 * 2 ^ 50, -50, ⟨4617315517961601024, rfl, by decide⟩, by decide +kernel⟩
theorem mfive_has : Has mfive (-5) := ⟨true, 5 * 2 ^ 50, -50, ⟨13840687554816376832, rfl, by decide⟩, by decide +kernel⟩
theorem mid0 : (mten + ten) / two = zero := by kernel_rfl
theorem mid1 : (zero + ten) / two = five := by kernel_rfl
theorem mid2 : (mten + zero) / two = mfive := by kernel_rfl
theorem bis_below (g : F64 → Bool) (n : Nat) (h1 : g zero = true) (h2 : g mfive = false) : bis g (n + 2) (mten, ten) = bis g n (mfive, zero) := by
  simp only [bis, mid0, h1, cond_true, mid2, h2, cond_false]
theorem bis_above (g : F64 → Bool) (n : Nat) (h1 : g zero = false) (h2 : g five = true) : bis g (n + 2) (mten, ten) = bis g n (zero, five) := by
  simp only [bis, mid0, h1, cond_true, mid1, h2, cond_false]
/-- An e that the law draws, nearly. -/
structure OpenOk (e : F64) : Prop where
  two : Two e e (21 / 4) 0
  zero : gv e zero = zero
  up : ∃ w, Has (gv e five) w ∧ 60 ≤ w
  dn : ∃ w, Has (gv e mfive) w ∧ w ≤ -60
def nano : Rat := 1 / 1000000000
theorem lean_has {e x : F64} {f : Rat} (he : OpenOk e) (hf : Has (full * x) f) (f1 : -55 ≤ f) (f2 : f ≤ 55) :
    ∃ a w, Has (lean e x) a ∧ -(5 + 1 / 1000) ≤ a ∧ a ≤ 5 + 1 / 1000 ∧ Has (gv e (lean e x)) w ∧ w ≤ f ∧ f ≤ w + nano := by
  have hg : ∀ c, leanTest e (full * x) c = gt (gv e c) (full * x) := fun _ => rfl
  obtain ⟨wu, hwu, u1⟩ := he.up
  obtain ⟨wd, hwd, d1⟩ := he.dn
  have t0 : leanTest e (full * x) zero = decide (f < 0) := by rw [hg, he.zero, gt_has zero_has hf]
  have t5 : leanTest e (full * x) five = true := by rw [hg, gt_has hwu hf]; exact decide_eq_true (by grind)
  have tm : leanTest e (full * x) mfive = false := by rw [hg, gt_has hwd hf]; exact decide_eq_false (by grind)
  have hs : ∃ s : F64 × F64, (bis (leanTest e (full * x)) 60 (mten, ten)) = bis (leanTest e (full * x)) 58 s ∧ ∃ a b, Has s.1 a ∧ Has s.2 b ∧ a - b ≤ 5 ∧ b - a ≤ 5 ∧ -5 ≤ a ∧ a ≤ 5 ∧ -5 ≤ b ∧ b ≤ 5 ∧ leanTest e (full * x) s.1 = false ∧ leanTest e (full * x) s.2 = true := by
    by_cases h : f < 0
    · rw [decide_eq_true h] at t0
      refine ⟨(mfive, zero), bis_below _ 58 t0 tm, -5, 0, mfive_has, zero_has, by decide +kernel, by decide +kernel, by decide +kernel, by decide +kernel, by decide +kernel, by decide +kernel, tm, t0⟩
    · rw [decide_eq_false h] at t0
      refine ⟨(zero, five), bis_above _ 58 t0 t5, 0, 5, zero_has, five_has, by decide +kernel, by decide +kernel, by decide +kernel, by decide +kernel, by decide +kernel, by decide +kernel, t0, t5⟩
  obtain ⟨s, e1, a, b, ha, hb, w1, w2, a1, a2, b1, b2, g1, g2⟩ := hs
  obtain ⟨a', b', q1, q2, q3, q4, q5, q6, q7, q8, q9, q10⟩ := bis_near (leanTest e (full * x)) 58 s a b 5 5 ha hb w1 w2 a1 a2 b1 b2 (by decide +kernel) g1 g2
  rw [← e1] at q1 q2 q9 q10
  have hl : (bis (leanTest e (full * x)) 60 (mten, ten)).1 = lean e x := rfl
  rw [hl] at q1 q9
  generalize (bis (leanTest e (full * x)) 60 (mten, ten)).2 = h at q2 q10
  have k1 : (5 : Rat) + ((58 : Nat) : Rat) * tht ≤ 5 + 1 / 1000 := by decide +kernel
  have k2 : wid 58 5 ≤ 1 / 35184372088832 := by decide +kernel
  have k3 : (5 : Rat) + 1 / 1000 ≤ 501 / 100 := by decide +kernel
  generalize (5 : Rat) + ((58 : Nat) : Rat) * tht = M at *
  generalize wid 58 5 = W at *
  obtain ⟨p, r, hp, hr, r1, r2, r3, r4, r5, r6⟩ := gv_twob he.two (x := lean e x) (x' := h) ⟨a', b', q1, q2, by grind, by grind, by grind, by grind, by grind, by grind⟩
  refine ⟨a', p, q1, by grind, by grind, hp, ?_, ?_⟩
  · rw [hg, gt_has hp hf] at q9
    have := of_decide_eq_false q9
    grind
  · rw [hg, gt_has hr hf] at q10
    have := of_decide_eq_true q10
    have km : ∀ x y z : Rat, y - x ≤ z → z ≤ nano → f < y → f ≤ x + nano := by intros; grind
    exact km _ _ _ r6 (by decide +kernel) this
end Go.Proofs.Ytlpahmefebgdlaa.Fx
/- What 32-bit floats are worth behind sums, products, quotients; roots of 64-bit floats. No condition. -/
namespace Go.Proofs.Ytlpahmefebgdlaa.Fx
open Go Nr Ieee

theorem has_roundS (s : Bool) {m : Nat} {e E : Int} (h : wo m e ≤ (2 : Rat) ^ E) (h1 : -126 ≤ E) (h2 : E ≤ 127) :
    ∃ v, HasS (sx (single.nearest s m e)) v ∧ v ≤ val s m e + (2 : Rat) ^ (E - 24) ∧ val s m e ≤ v + (2 : Rat) ^ (E - 24) := by
  obtain ⟨m', e', g1, g2, g3, g4⟩ := num_roundS s (le2_of h) h1 h2
  refine ⟨_, ⟨s, m', e', g1, rfl⟩, ?_⟩
  unfold val
  cases s <;> simp only [cond_true, cond_false] <;> constructor <;> grind
theorem add_someS (a b : Nat) : sx a + sx b = (((single.read a).sum (single.read b)).map single.write : Option Nat) := rfl
theorem mul_someS (a b : Nat) : sx a * sx b = (((single.read a).product (single.read b)).map single.write : Option Nat) := rfl
theorem div_someS (a b : Nat) : sx a / sx b = (((single.read a).quotient 25 (single.read b)).map single.write : Option Nat) := rfl
def addWS (s : Bool) (m : Nat) (i : Int) (t : Bool) (n : Nat) (j : Int) : Nat :=
  single.nearest (if signed s m (i - min i j).toNat + signed t n (j - min i j).toNat = 0 then s && t else signed s m (i - min i j).toNat + signed t n (j - min i j).toNat < 0)
    (signed s m (i - min i j).toNat + signed t n (j - min i j).toNat).natAbs (min i j)
theorem NumS.add {x y : F32} {s t : Bool} {m n : Nat} {i j : Int} (hx : NumS x s m i) (hy : NumS y t n j) : x + y = sx (addWS s m i t n j) := by
  obtain ⟨r, rfl, hr⟩ := hx
  obtain ⟨q, rfl, hq⟩ := hy
  rw [add_someS, hr, hq]; rfl
theorem NumS.sub {x y : F32} {s t : Bool} {m n : Nat} {i j : Int} (hx : NumS x s m i) (hy : NumS y t n j) : x - y = sx (addWS s m i (!t) n j) := by
  obtain ⟨r, rfl, hr⟩ := hx
  obtain ⟨q, rfl, hq⟩ := hy
  rw [sub_someS, hr, hq]; rfl
theorem addWS_has (s : Bool) (m : Nat) (i : Int) (t : Bool) (n : Nat) (j : Int) {E : Int} (h1 : val s m i + val t n j ≤ (2 : Rat) ^ E) (h2 : -((2 : Rat) ^ E) ≤ val s m i + val t n j) (h3 : -126 ≤ E) (h4 : E ≤ 127) :
    ∃ v, HasS (sx (addWS s m i t n j)) v ∧ v ≤ val s m i + val t n j + (2 : Rat) ^ (E - 24) ∧ val s m i + val t n j ≤ v + (2 : Rat) ^ (E - 24) := by
  unfold addWS
  have e1 : val s m i = wi (signed s m (i - min i j).toNat) (min i j) := by rw [wi_signed]; congr 1; omega
  have e2 : val t n j = wi (signed t n (j - min i j).toNat) (min i j) := by rw [wi_signed]; congr 1; omega
  rw [e1, e2, ← wi_add] at h1 h2 ⊢
  generalize signed s m (i - min i j).toNat + signed t n (j - min i j).toNat = z at h1 h2 ⊢
  have hv : ∀ q : Bool, val (if z = 0 then q else decide (z < 0)) z.natAbs (min i j) = wi z (min i j) := fun q => wi_val z _ (fun hz => by rw [if_neg hz])
  have := hv (s && t)
  rw [← this] at h1 h2 ⊢
  exact has_roundS _ (val_le h1 h2) h3 h4
theorem addS_has {x y : F32} {a b : Rat} {E : Int} (hx : HasS x a) (hy : HasS y b) (h1 : a + b ≤ (2 : Rat) ^ E) (h2 : -((2 : Rat) ^ E) ≤ a + b) (h3 : -126 ≤ E) (h4 : E ≤ 127) :
    ∃ v, HasS (x + y) v ∧ v ≤ a + b + (2 : Rat) ^ (E - 24) ∧ a + b ≤ v + (2 : Rat) ^ (E - 24) := by
  obtain ⟨s, m, i, hx, rfl⟩ := hx
  obtain ⟨t, n, j, hy, rfl⟩ := hy
  rw [hx.add hy]
  exact addWS_has s m i t n j h1 h2 h3 h4
theorem subS_has {x y : F32} {a b : Rat} {E : Int} (hx : HasS x a) (hy : HasS y b) (h1 : a - b ≤ (2 : Rat) ^ E) (h2 : -((2 : Rat) ^ E) ≤ a - b) (h3 : -126 ≤ E) (h4 : E ≤ 127) :
    ∃ v, HasS (x - y) v ∧ v ≤ a - b + (2 : Rat) ^ (E - 24) ∧ a - b ≤ v + (2 : Rat) ^ (E - 24) := by
  obtain ⟨s, m, i, hx, rfl⟩ := hx
  obtain ⟨t, n, j, hy, rfl⟩ := hy
  rw [hx.sub hy]
  have e : val s m i - val t n j = val s m i + val (!t) n j := by rw [val_not]; grind
  rw [e] at h1 h2 ⊢
  exact addWS_has s m i (!t) n j h1 h2 h3 h4
theorem mulS_has {x y : F32} {a b : Rat} {E : Int} (hx : HasS x a) (hy : HasS y b) (h1 : a * b ≤ (2 : Rat) ^ E) (h2 : -((2 : Rat) ^ E) ≤ a * b) (h3 : -126 ≤ E) (h4 : E ≤ 127) :
    ∃ v, HasS (x * y) v ∧ v ≤ a * b + (2 : Rat) ^ (E - 24) ∧ a * b ≤ v + (2 : Rat) ^ (E - 24) := by
  obtain ⟨s, m, i, ⟨r, rfl, hr⟩, rfl⟩ := hx
  obtain ⟨t, n, j, ⟨q, rfl, hq⟩, rfl⟩ := hy
  rw [mul_someS, hr, hq]
  have e0 : val s m i * val t n j = val (s ^^ t) (m * n) (i + j) := by
    unfold val; rw [wo_mul]
    cases s <;> cases t <;> simp only [Bool.xor_true, Bool.xor_false, Bool.not_true, Bool.not_false, cond_true, cond_false] <;> grind
  rw [e0] at h1 h2 ⊢
  exact has_roundS _ (val_le h1 h2) h3 h4
theorem quo_worthS {m n K : Nat} {i j : Int} {C : Rat} (hm : m ≠ 0) (hn : 0 < n) (hK : (K : Int) = 25 + (n.log2 : Int) - (m.log2 : Int)) (hC : wo m i = C * wo n j) :
    wo (2 * (m * 2 ^ K / n) + ((m * 2 ^ K) % n != 0).toNat) (i - j - K - 1) ≤ C + C * (2 : Rat) ^ (-25 : Int) ∧ C ≤ wo (2 * (m * 2 ^ K / n) + ((m * 2 ^ K) % n != 0).toNat) (i - j - K - 1) + C * (2 : Rat) ^ (-25 : Int) := by
  obtain ⟨s1, s2⟩ := sticky (m * 2 ^ K) n hn
  generalize 2 * (m * 2 ^ K / n) + ((m * 2 ^ K) % n != 0).toNat = z at s1 s2 ⊢
  have c1 := wo_mono s1 (i - K - 1)
  have c2 := wo_mono s2 (i - K - 1)
  have e1 : wo (2 * (m * 2 ^ K)) (i - K - 1) = wo m i := by
    rw [show 2 * (m * 2 ^ K) = m * 2 ^ (K + 1) by rw [Nat.pow_succ]; grind, wo_pow]; congr 1; omega
  have e2 : wo (z * n) (i - K - 1) = wo z (i - j - K - 1) * wo n j := by rw [← wo_mul]; congr 1; omega
  have e3 : wo n (i - K - 1) = wo n j * (2 : Rat) ^ (i - j - K - 1) := by
    unfold wo
    rw [show i - K - 1 = j + (i - j - K - 1) by omega, Rat.zpow_add two_ne]; grind
  rw [wo_add, e1, e2, e3, hC] at c1 c2
  have hp := wo_pos hn j
  have hu : wo n j * (2 : Rat) ^ (i - j - K - 1) ≤ wo n j * (C * (2 : Rat) ^ (-25 : Int)) := by
    have h1 := log_le hm i
    have h2 := log_lt n j
    have h3 : (2 : Rat) ^ (j + (n.log2 : Int) + 1) * (2 : Rat) ^ (i - j - K - 1) = (2 : Rat) ^ (i + (m.log2 : Int)) * (2 : Rat) ^ (-25 : Int) := by
      rw [← Rat.zpow_add two_ne, ← Rat.zpow_add two_ne]; congr 1; omega
    have h4 := Rat.mul_le_mul_of_nonneg_left h2 (Rat.le_of_lt (two_pos (i - j - K - 1)))
    have h5 := Rat.mul_le_mul_of_nonneg_left h1 (Rat.le_of_lt (two_pos (-25 : Int)))
    rw [hC] at h5
    grind
  have f1 : wo n j * wo z (i - j - K - 1) ≤ wo n j * (C + C * (2 : Rat) ^ (-25 : Int)) := by grind
  have f2 : wo n j * C ≤ wo n j * (wo z (i - j - K - 1) + C * (2 : Rat) ^ (-25 : Int)) := by grind
  exact ⟨Rat.le_of_mul_le_mul_left f1 hp, Rat.le_of_mul_le_mul_left f2 hp⟩
theorem divS_has {x y : F32} {a b c : Rat} {E : Int} (hx : HasS x a) (hy : HasS y b) (hb : b ≠ 0) (hc : a = c * b) (h1 : c ≤ (2 : Rat) ^ E) (h2 : -((2 : Rat) ^ E) ≤ c) (h3 : -126 ≤ E) (h4 : E ≤ 126) :
    ∃ v, HasS (x / y) v ∧ v ≤ c + (2 : Rat) ^ (E - 22) ∧ c ≤ v + (2 : Rat) ^ (E - 22) := by
  obtain ⟨s, m, i, hx, rfl⟩ := hx
  obtain ⟨t, n, j, hy, rfl⟩ := hy
  obtain ⟨b1, b2, b3⟩ := hx.bound
  obtain ⟨r, rfl, hr⟩ := hx
  obtain ⟨q, rfl, hq⟩ := hy
  have hn0 : n ≠ 0 := by
    rintro rfl
    apply hb
    unfold val wo
    cases t <;> simp
  rw [div_someS, hr, hq]
  have : (((Datum.number s m i).quotient 25 (Datum.number t n j)).map single.write : Option Nat) =
      some (single.nearest (s ^^ t) (2 * ((m <<< (25 + n.log2 - m.log2)) / n) + (((m <<< (25 + n.log2 - m.log2)) % n) != 0).toNat) (i - j - ((25 + n.log2 - m.log2 : Nat) : Int) - 1)) := by
    simp only [Datum.quotient, if_neg hn0]; rfl
  rw [this]
  obtain ⟨K, hK⟩ : ∃ K, 25 + n.log2 - m.log2 = K := ⟨_, rfl⟩
  rw [hK, shl]
  have hnp : 0 < n := Nat.pos_of_ne_zero hn0
  have hp := wo_pos hnp j
  obtain ⟨C, hC, hCc⟩ : ∃ C : Rat, wo m i = C * wo n j ∧ c = bif (s ^^ t) then -C else C := by
    refine ⟨bif (s ^^ t) then -c else c, ?_, ?_⟩
    · revert hc
      unfold val
      cases s <;> cases t <;> simp only [Bool.xor_true, Bool.xor_false, Bool.not_true, Bool.not_false, cond_true, cond_false] <;> intro hc <;> grind
    · cases s <;> cases t <;> simp only [Bool.xor_true, Bool.xor_false, Bool.not_true, Bool.not_false, cond_true, cond_false] <;> grind
  have hC1 : C ≤ (2 : Rat) ^ E := by
    revert hCc
    cases s ^^ t <;> simp only [cond_true, cond_false] <;> intro hCc <;> grind
  have hC0 : 0 ≤ C := by
    have h0 := wo_nonneg m i
    rw [hC] at h0
    have : wo n j * 0 ≤ wo n j * C := by grind
    exact Rat.le_of_mul_le_mul_left this hp
  have hd : C * (2 : Rat) ^ (-25 : Int) ≤ (2 : Rat) ^ (E - 25) := by
    have := Rat.mul_le_mul_of_nonneg_left hC1 (Rat.le_of_lt (two_pos (-25 : Int)))
    have e : (2 : Rat) ^ (E - 25) = (2 : Rat) ^ (-25 : Int) * (2 : Rat) ^ E := by rw [← Rat.zpow_add two_ne]; congr 1; omega
    grind
  have w : wo (2 * (m * 2 ^ K / n) + ((m * 2 ^ K) % n != 0).toNat) (i - j - K - 1) ≤ C + (2 : Rat) ^ (E - 25) ∧ C ≤ wo (2 * (m * 2 ^ K / n) + ((m * 2 ^ K) % n != 0).toNat) (i - j - K - 1) + (2 : Rat) ^ (E - 25) := by
    by_cases hm : m = 0
    · subst hm
      have hz : 2 * (0 * 2 ^ K / n) + ((0 * 2 ^ K) % n != 0).toNat = 0 := by simp
      have hw : wo 0 (i - j - K - 1) = 0 := by unfold wo; grind
      have hw' : wo 0 i = 0 := by unfold wo; grind
      rw [hw'] at hC
      have hC2 : C ≤ 0 := by
        have : wo n j * C ≤ wo n j * 0 := by grind
        exact Rat.le_of_mul_le_mul_left this hp
      rw [hz, hw]
      have := two_pos (E - 25)
      constructor <;> grind
    · have hlog : m.log2 ≤ 23 := by
        have h5 : 2 ^ m.log2 < 2 ^ 24 := Nat.lt_of_le_of_lt (Nat.log2_self_le hm) b1
        have := (Nat.pow_lt_pow_iff_right (by decide)).1 h5
        omega
      have := quo_worthS (K := K) hm hnp (by omega) hC
      constructor <;> grind
  generalize 2 * (m * 2 ^ K / n) + ((m * 2 ^ K) % n != 0).toNat = z at w ⊢
  have g1 := two_mono (by omega : E - 25 ≤ E - 23)
  have g2 := two_mono (by omega : E - 25 ≤ E)
  have g3 : (2 : Rat) ^ (E + 1) = (2 : Rat) ^ E * 2 := Rat.zpow_add_one two_ne E
  have g4 : (2 : Rat) ^ (E - 22) = (2 : Rat) ^ (E - 23) * 2 := by rw [← Rat.zpow_add_one two_ne]; congr 1; omega
  have hz : wo z (i - j - K - 1) ≤ (2 : Rat) ^ (E + 1) := by grind
  obtain ⟨v, q1, q2, q3⟩ := has_roundS (s ^^ t) hz (by omega) (by omega)
  have g5 : (2 : Rat) ^ (E + 1 - 24) = (2 : Rat) ^ (E - 23) := by congr 1; omega
  rw [g5] at q2 q3
  refine ⟨v, q1, ?_⟩
  rw [hCc]
  revert q2 q3
  unfold val
  cases s ^^ t <;> simp only [cond_true, cond_false] <;> intro q2 q3 <;> constructor <;> grind
theorem negS_has {x : F32} {a : Rat} (h : HasS x a) : HasS (-x) (-a) := by
  obtain ⟨s, m, e, ⟨r, rfl, hr⟩, rfl⟩ := h
  exact ⟨!s, m, e, ⟨_, neg_sx r, by rw [read_negS, hr]⟩, (val_not s m e).symm⟩
theorem root_spec (n : Nat) : ∀ (todo root : Nat), root * root ≤ n → n < (root + 2 ^ todo) * (root + 2 ^ todo) →
    Datum.rootFrom n todo root * Datum.rootFrom n todo root ≤ n ∧ n < (Datum.rootFrom n todo root + 1) * (Datum.rootFrom n todo root + 1)
  | 0, root, h1, h2 => ⟨h1, h2⟩
  | t + 1, root, h1, h2 => by
    unfold Datum.rootFrom
    dsimp only
    rw [Nat.shiftLeft_eq, Nat.one_mul]
    split
    · rename_i h
      refine root_spec n t _ h ?_
      rw [Nat.add_assoc, ← Nat.two_mul, ← Nat.pow_succ']
      exact h2
    · rename_i h
      exact root_spec n t _ h1 (by omega)
theorem sq_le_sq {a b : Rat} (hb : 0 ≤ b) (h : a * a ≤ b * b) : a ≤ b := by
  refine Rat.not_lt.1 fun h' => ?_
  have h1 : b * b ≤ b * a := Rat.mul_le_mul_of_nonneg_left (Rat.le_of_lt h') hb
  have h2 : b * a < a * a := by
    have h3 : 0 < a := by grind
    have := Rat.mul_lt_mul_of_pos_left h' h3
    grind
  grind
/-- A root's square lies near. -/
theorem sqrt_has {x : F64} {v : Rat} {E : Int} (hx : Has x v) (h0 : 0 < v) (h1 : v ≤ (2 : Rat) ^ (2 * E)) (h3 : -500 ≤ E) (h4 : E ≤ 500) :
    ∃ w, Has (Fx.sqrt x) w ∧ 0 ≤ w ∧ w * w ≤ v + (2 : Rat) ^ (2 * E - 49) ∧ v ≤ w * w + (2 : Rat) ^ (2 * E - 49) := by
  obtain ⟨s, m, i, hx, rfl⟩ := hx
  have hs0 : s = false := by
    cases s
    · rfl
    · have := wo_nonneg m i
      unfold val at h0
      simp only [cond_true] at h0
      grind
  subst hs0
  have hm0 : m ≠ 0 := by
    rintro rfl
    have : wo 0 i = 0 := by unfold wo; grind
    unfold val at h0
    simp only [cond_false, this] at h0
    exact absurd h0 (by decide)
  have bm := hx.bound
  obtain ⟨r, rfl, hr⟩ := hx
  have hlog : m.log2 ≤ 52 := by
    have h5 : 2 ^ m.log2 < 2 ^ 53 := Nat.lt_of_le_of_lt (Nat.log2_self_le hm0) bm.1
    have := (Nat.pow_lt_pow_iff_right (by decide)).1 h5
    omega
  obtain ⟨p, hp⟩ : ∃ p, p = ((i - ((2 * 54 - m.log2 : Nat) : Int)) % 2).toNat := ⟨_, rfl⟩
  have hs : Fx.sqrt (bx r) = bx (double.nearest false (2 * Datum.rootFrom (m <<< (2 * 54 - m.log2 + p)) ((m <<< (2 * 54 - m.log2 + p)).log2 / 2 + 1) 0 + (Datum.rootFrom (m <<< (2 * 54 - m.log2 + p)) ((m <<< (2 * 54 - m.log2 + p)).log2 / 2 + 1) 0 * Datum.rootFrom (m <<< (2 * 54 - m.log2 + p)) ((m <<< (2 * 54 - m.log2 + p)).log2 / 2 + 1) 0 != m <<< (2 * 54 - m.log2 + p)).toNat) ((i - ((2 * 54 - m.log2 + p : Nat) : Int)) / 2 - 1)) := by
    show (((double.read r).root 54).map double.write : Option Nat) = _
    rw [hr, hp]
    simp only [Datum.root, if_neg hm0]
    rfl
  rw [hs]
  obtain ⟨S, hS⟩ : ∃ S, 2 * 54 - m.log2 + p = S := ⟨_, rfl⟩
  rw [hS, shl]
  obtain ⟨P, hP⟩ : ∃ P : Int, (i - (S : Int)) / 2 - 1 = P := ⟨_, rfl⟩
  rw [hP]
  have hP2 : i - (S : Int) = 2 * P + 2 := by omega
  have hN : 2 ^ 108 ≤ m * 2 ^ S := by
    refine Nat.le_trans ?_ (Nat.mul_le_mul_right _ (Nat.log2_self_le hm0))
    rw [← Nat.pow_add]
    exact Nat.pow_le_pow_right (by decide) (by omega)
  have hv : val false m i = wo (4 * (m * 2 ^ S)) (2 * P) := by
    show wo m i = _
    rw [show 4 * (m * 2 ^ S) = m * 2 ^ (S + 2) by rw [Nat.pow_add]; grind, wo_pow]; congr 1; omega
  obtain ⟨r1, r2⟩ := root_spec (m * 2 ^ S) ((m * 2 ^ S).log2 / 2 + 1) 0 (Nat.zero_le _) (by
    rw [Nat.zero_add, ← Nat.pow_add]
    refine Nat.lt_of_lt_of_le Nat.lt_log2_self (Nat.pow_le_pow_right (by decide) (by omega)))
  generalize m * 2 ^ S = N at hv hN r1 r2 ⊢
  generalize Datum.rootFrom N (N.log2 / 2 + 1) 0 = W at r1 r2 ⊢
  have hW : 2 ^ 54 ≤ W := by
    refine Nat.le_of_not_lt fun h => ?_
    have : (W + 1) * (W + 1) ≤ 2 ^ 54 * 2 ^ 54 := Nat.mul_le_mul h h
    omega
  have hz : ∃ z, 2 * W + (W * W != N).toNat = z ∧ z * z ≤ 4 * N + 4 * W ∧ 4 * N ≤ z * z + 4 * W := by
    refine ⟨_, rfl, ?_⟩
    by_cases h : W * W = N
    · have : (W * W != N) = false := by simp [h]
      rw [this, Bool.toNat_false, Nat.add_zero]
      have e : 2 * W * (2 * W) = 4 * (W * W) := by grind
      omega
    · have : (W * W != N) = true := by simp [h]
      rw [this, Bool.toNat_true]
      have e : (2 * W + 1) * (2 * W + 1) = 4 * (W * W) + 4 * W + 1 := by grind
      have e2 : (W + 1) * (W + 1) = W * W + 2 * W + 1 := by grind
      rw [e2] at r2
      rw [e]
      omega
  obtain ⟨z, hz, z1, z2⟩ := hz
  rw [hz]
  have hWN : 4 * W * 2 ^ 54 ≤ 4 * N := by
    rw [Nat.mul_assoc]
    exact Nat.mul_le_mul_left 4 (Nat.le_trans (Nat.mul_le_mul_left W hW) r1)
  have q1 := wo_mono z1 (2 * P)
  have q2 := wo_mono z2 (2 * P)
  have q3 := wo_mono hWN (2 * P)
  have ez : wo (z * z) (2 * P) = wo z P * wo z P := by rw [← wo_mul]; congr 1; omega
  have ew : wo (4 * W * 2 ^ 54) (2 * P) = wo (4 * W) (2 * P) * 18014398509481984 := by
    unfold wo
    rw [Rat.natCast_mul]
    have : ((2 ^ 54 : Nat) : Rat) = 18014398509481984 := by decide +kernel
    rw [this]; grind
  rw [wo_add, ez, ← hv] at q1
  rw [wo_add, ez, ← hv] at q2
  rw [ew, ← hv] at q3
  have hD := wo_nonneg (4 * W) (2 * P)
  generalize wo (4 * W) (2 * P) = D at q1 q2 q3 hD
  have hw0 := wo_nonneg z P
  -- the scale
  have hT := two_pos E
  have hTT : (2 : Rat) ^ (2 * E) = (2 : Rat) ^ E * (2 : Rat) ^ E := by rw [← Rat.zpow_add two_ne]; congr 1; omega
  have e50 : (2 : Rat) ^ (2 * E - 49) = (2 : Rat) ^ E * (2 : Rat) ^ E * (1 / 562949953421312) := by
    rw [show 2 * E - 49 = E + E + (-49) by omega, Rat.zpow_add two_ne, Rat.zpow_add two_ne]
    have : (2 : Rat) ^ (-49 : Int) = 1 / 562949953421312 := by decide +kernel
    rw [this]
  have e52 : (2 : Rat) ^ (E + 1 - 53) = (2 : Rat) ^ E * (1 / 4503599627370496) := by
    rw [show E + 1 - 53 = E + (-52) by omega, Rat.zpow_add two_ne]
    have : (2 : Rat) ^ (-52 : Int) = 1 / 4503599627370496 := by decide +kernel
    rw [this]
  have e1 : (2 : Rat) ^ (E + 1) = (2 : Rat) ^ E * 2 := Rat.zpow_add_one two_ne E
  rw [hTT] at h1
  rw [e50]
  have hb : wo z P ≤ (2 : Rat) ^ E * 2 := by
    refine sq_le_sq (by grind) ?_
    have : (2 : Rat) ^ E * 2 * ((2 : Rat) ^ E * 2) = ((2 : Rat) ^ E * (2 : Rat) ^ E) * 4 := by grind
    rw [this]
    grind
  obtain ⟨m', e', g1, g2, g3, g4⟩ := num_round false (le2_of (E := E + 1) (by rw [e1]; exact hb)) (by omega) (by omega)
  have hn := wo_nonneg m' e'
  refine ⟨wo m' e', ⟨false, m', e', g1, rfl⟩, hn, ?_⟩
  rw [e52] at g3 g4
  clear g1 g2 hv
  generalize wo m' e' = w at g3 g4 hn ⊢
  generalize wo z P = w0 at q1 q2 hw0 hb g3 g4
  generalize val false m i = v at q1 q2 q3 h1
  generalize (2 : Rat) ^ E = T at h1 hT hb g3 g4 ⊢
  have k1 : (w - w0) * (w + w0) ≤ T * (1 / 4503599627370496) * (T * 5) := by
    have a1 : w - w0 ≤ T * (1 / 4503599627370496) := by grind
    have a2 : w + w0 ≤ T * 5 := by grind
    have b1 : (w - w0) * (w + w0) ≤ T * (1 / 4503599627370496) * (w + w0) := Rat.mul_le_mul_of_nonneg_right a1 (by grind)
    have b2 : T * (1 / 4503599627370496) * (w + w0) ≤ T * (1 / 4503599627370496) * (T * 5) := Rat.mul_le_mul_of_nonneg_left a2 (by grind)
    grind
  have k2 : (w0 - w) * (w + w0) ≤ T * (1 / 4503599627370496) * (T * 5) := by
    have a1 : w0 - w ≤ T * (1 / 4503599627370496) := by grind
    have a2 : w + w0 ≤ T * 5 := by grind
    have b1 : (w0 - w) * (w + w0) ≤ T * (1 / 4503599627370496) * (w + w0) := Rat.mul_le_mul_of_nonneg_right a1 (by grind)
    have b2 : T * (1 / 4503599627370496) * (w + w0) ≤ T * (1 / 4503599627370496) * (T * 5) := Rat.mul_le_mul_of_nonneg_left a2 (by grind)
    grind
  have f1 : (w - w0) * (w + w0) = w * w - w0 * w0 := by grind
  have f2 : (w0 - w) * (w + w0) = w0 * w0 - w * w := by grind
  rw [f1] at k1
  rw [f2] at k2
  have f3 : T * (1 / 4503599627370496) * (T * 5) = T * T * (5 / 4503599627370496) := by grind
  rw [f3] at k1 k2
  generalize T * T = TT at h1 k1 k2 ⊢
  generalize w * w = ww at k1 k2 ⊢
  generalize w0 * w0 = w00 at k1 k2 q1 q2
  constructor <;> grind
end Go.Proofs.Ytlpahmefebgdlaa.Fx
