/- Rounding: how far a rounded number lies from the number; what a float is worth; sums, products, quotients, comparisons, narrowing. No condition. -/
import Derived.Test.YtlpahmefebgdlaaNy
namespace Go.Proofs.Ytlpahmefebgdlaa.Fx
open Go Nr Ieee

theorem cut_near (neg : Bool) (n d : Nat) : 2 * (Toward.even.cut neg n d * 2 ^ d) ≤ 2 * n + 2 ^ d ∧ 2 * n ≤ 2 * (Toward.even.cut neg n d * 2 ^ d) + 2 ^ d := by
  unfold Toward.cut
  simp only [shl, Nat.one_mul]
  by_cases hg : d ≤ n.log2 + 2
  · rw [Nat.min_eq_left hg]
    have hd := Nat.div_add_mod n (2 ^ d)
    have hl := Nat.mod_lt n (Nat.two_pow_pos d)
    generalize n / 2 ^ d = q at hd ⊢
    generalize n % 2 ^ d = r at hd hl ⊢
    generalize 2 ^ d = g at hd hl ⊢
    subst hd
    by_cases h1 : g < 2 * r
    · simp only [decide_eq_true h1, Bool.true_or, Bool.toNat_true]
      rw [Nat.add_mul, Nat.one_mul, Nat.mul_comm q g]
      omega
    · by_cases h2 : g = 2 * r
      · have h3 : (g == 2 * r) = true := by simp [h2]
        simp only [decide_eq_false h1, h3, Bool.false_or, Bool.true_and]
        cases q % 2 == 1
        · simp only [Bool.toNat_false, Nat.add_zero]; rw [Nat.mul_comm q g]; omega
        · simp only [Bool.toNat_true]; rw [Nat.add_mul, Nat.one_mul, Nat.mul_comm q g]; omega
      · have h3 : (g == 2 * r) = false := by simp [h2]
        simp only [decide_eq_false h1, h3, Bool.false_or, Bool.false_and, Bool.toNat_false, Nat.add_zero]
        rw [Nat.mul_comm q g]; omega
  · have hg' : n.log2 + 2 ≤ d := by omega
    rw [Nat.min_eq_right hg']
    have h0 := lt_log2 n
    have h1 : 2 ^ (n.log2 + 2) = 2 * 2 ^ (n.log2 + 1) := by rw [Nat.pow_succ]; omega
    have h2 : n / 2 ^ (n.log2 + 2) = 0 := Nat.div_eq_of_lt (by omega)
    have h3 : n % 2 ^ (n.log2 + 2) = n := Nat.mod_eq_of_lt (by omega)
    have h4 : 2 ^ (n.log2 + 2) ≤ 2 ^ d := Nat.pow_le_pow_right (by decide) hg'
    rw [h2, h3]
    have h5 : decide (2 ^ (n.log2 + 2) < 2 * n) = false := decide_eq_false (by omega)
    have h6 : (2 ^ (n.log2 + 2) == 2 * n) = false := by
      have : 2 ^ (n.log2 + 2) ≠ 2 * n := by omega
      simp [this]
    rw [h5, h6]
    simp
    omega

theorem readRung_keep (neg : Bool) {k : Nat} {p : Int} (hp : -1074 ≤ p) (hk : p = -1074 ∨ 2 ^ 52 ≤ k) (hk2 : k ≤ 2 ^ 53) (hi : (p + 1074).toNat * 2 ^ 52 + k < 2047 * 2 ^ 52) :
    ∃ m' e', readRung double neg ((p + 1074).toNat * 2 ^ 52 + k) = .number neg m' e' ∧ ((m' = k ∧ e' = p) ∨ (k = 2 ^ 53 ∧ m' = 2 ^ 52 ∧ e' = p + 1)) := by
  have e1 : double.leastPlace = -1074 := by decide
  have e3 : double.infRung = 2047 * 2 ^ 52 := by decide
  have e5 : double.binade = 2 ^ 52 := by decide
  obtain ⟨j, hj⟩ : ∃ j : Nat, p = -1074 + (j : Int) := ⟨(p + 1074).toNat, by omega⟩
  have hj' : (p + 1074).toNat = j := by omega
  rw [hj'] at hi ⊢
  unfold readRung
  rw [e1, e3, e5]
  by_cases h1 : k < 2 ^ 52
  · have h2 : j = 0 := by omega
    subst h2
    rw [if_pos (by omega)]
    exact ⟨_, _, rfl, .inl ⟨by omega, by omega⟩⟩
  · rw [if_neg (by omega), if_pos hi]
    by_cases h2 : k = 2 ^ 53
    · refine ⟨_, _, rfl, .inr ⟨h2, ?_, ?_⟩⟩
      · omega
      · omega
    · exact ⟨_, _, rfl, .inl ⟨by omega, by omega⟩⟩

/-- A number's worth. -/
def wo (m : Nat) (e : Int) : Rat := (m : Rat) * (2 : Rat) ^ e
theorem two_ne : (2 : Rat) ≠ 0 := by decide
theorem two_pos (e : Int) : (0 : Rat) < (2 : Rat) ^ e := Rat.zpow_pos (by decide)
theorem two_nat (k : Nat) : ((2 ^ k : Nat) : Rat) = (2 : Rat) ^ (k : Int) := by
  rw [Rat.zpow_natCast, Rat.natCast_pow]; rfl
theorem two_mono {a b : Int} (h : a ≤ b) : (2 : Rat) ^ a ≤ (2 : Rat) ^ b := by
  obtain ⟨k, hk⟩ := Int.eq_ofNat_of_zero_le (by omega : 0 ≤ b - a)
  have e : b = a + (k : Int) := by omega
  rw [e, Rat.zpow_add two_ne, ← two_nat]
  have h1 : (1 : Rat) ≤ ((2 ^ k : Nat) : Rat) := Rat.natCast_le_natCast.2 (Nat.two_pow_pos k)
  have h2 := Rat.mul_le_mul_of_nonneg_left h1 (Rat.le_of_lt (two_pos a))
  rwa [Rat.mul_one] at h2
theorem wo_pow (m j : Nat) (e : Int) : wo (m * 2 ^ j) e = wo m (e + j) := by
  unfold wo
  rw [Rat.zpow_add two_ne, ← two_nat, Rat.natCast_mul]
  grind
theorem wo_mono {m n : Nat} (h : m ≤ n) (e : Int) : wo m e ≤ wo n e := by
  unfold wo
  have h1 : (m : Rat) ≤ (n : Rat) := Rat.natCast_le_natCast.2 h
  have := Rat.mul_le_mul_of_nonneg_left h1 (Rat.le_of_lt (two_pos e))
  grind

theorem wo_add (a b : Nat) (e : Int) : wo (a + b) e = wo a e + wo b e := by
  unfold wo; rw [Rat.natCast_add]; grind
theorem wo_two (a : Nat) (e : Int) : wo (2 * a) e = 2 * wo a e := by
  unfold wo; rw [Rat.natCast_mul]; have : ((2 : Nat) : Rat) = 2 := rfl
  rw [this]; grind
theorem wo_one (e : Int) : wo 1 e = (2 : Rat) ^ e := by
  unfold wo; have : ((1 : Nat) : Rat) = 1 := rfl
  rw [this]; grind
theorem word_inj {s : Bool} {a b : Nat} (h : double.word s a = double.word s b) : a = b := by
  unfold Format.word at h
  cases s
  · exact h
  · exact Nat.add_left_cancel h
/-- A number rounded: the worth's error. -/
theorem num_round (s : Bool) {m : Nat} {e E : Int} (h : Le2 m e E) (h1 : -1022 ≤ E) (h2 : E ≤ 1023) :
    ∃ m' e', Num (bx (double.nearest s m e)) s m' e' ∧ Le2 m' e' E ∧ wo m' e' ≤ wo m e + (2 : Rat) ^ (E - 53) ∧ wo m e ≤ wo m' e' + (2 : Rat) ^ (E - 53) := by
  have e1 : double.leastPlace = -1074 := by decide
  have e2 : double.fractionBits = 52 := rfl
  have e3 : double.infRung = 2047 * 2 ^ 52 := by decide
  have e4 : double.signWeight = 2048 * 2 ^ 52 := by decide
  have e5 : double.binade = 2 ^ 52 := by decide
  have hpos := two_pos (E - 53)
  obtain ⟨r, hr, hr1, hr2⟩ := nearest_le double s (by rw [e1, e2]; omega) h
  have hlt : r < double.infRung := by
    refine Nat.lt_of_le_of_lt hr1 ?_
    unfold rungPow
    rw [e1, e2, e3, e5]
    exact Nat.mul_lt_mul_of_pos_right (by omega) (by decide)
  obtain ⟨m', e', hm, hl⟩ := readRung_le double s (by rw [e1, e2]; omega) hr1 hlt
  refine ⟨m', e', ⟨_, rfl, by rw [hr, read_word double s (by omega), hm]⟩, hl, ?_⟩
  by_cases hz : m = 0
  · subst hz
    rw [nearest_zero] at hr
    have h0 := word_inj hr
    subst h0
    have : readRung double s 0 = .number s 0 (-1074) := by unfold readRung; rw [if_pos (by decide), e1]
    rw [this] at hm
    cases hm
    unfold wo
    grind
  · have hn : ∃ last : Int, last = max (e + (m.log2 : Int) - 52) (-1074) ∧ double.nearest s m e = double.word s (min ((last + 1074).toNat * 2 ^ 52 + Toward.even.cut s (m <<< (e - last).toNat) (last - e).toNat) (2047 * 2 ^ 52)) := by
      refine ⟨_, rfl, ?_⟩
      unfold Format.nearest
      rw [if_neg hz]
      dsimp only
      rw [e1, e2, e3, e5]
      rw [show ∀ z : Int, z - -1074 = z + 1074 by intro z; omega]
      rfl
    obtain ⟨last, hlast, hn⟩ := hn
    have hk2 := kept_le double s (mag := m) (place := e)
    rw [e1, e2] at hk2
    have hk2' : Toward.even.cut s (m <<< (e - last).toNat) (last - e).toNat ≤ 2 ^ 53 := by rw [hlast]; exact hk2
    clear hk2
    have hc := cut_near s (m <<< (e - last).toNat) (last - e).toNat
    generalize Toward.even.cut s (m <<< (e - last).toNat) (last - e).toNat = k at hn hk2' hc
    rw [hn] at hr
    have hrr := word_inj hr
    rw [e3] at hlt
    have hr' : r = (last + 1074).toNat * 2 ^ 52 + k := by
      generalize (last + 1074).toNat * 2 ^ 52 + k = z at hrr
      generalize 2047 * 2 ^ 52 = y at hrr hlt
      omega
    clear hrr hn hr
    rw [shl] at hc
    have hlog := Nat.log2_self_le hz
    have hup := lt_log2 m
    have hE : e + (m.log2 : Int) ≤ E := by
      obtain ⟨g1, g2⟩ := h.resolve_left hz
      have := (Nat.pow_le_pow_iff_right (by decide : 1 < 2)).1 (Nat.le_trans hlog g2)
      omega
    have hk : last = -1074 ∨ 2 ^ 52 ≤ k := by
      by_cases g : last = -1074
      · exact .inl g
      · right
        have g1 : last = e + (m.log2 : Int) - 52 := by omega
        by_cases g2 : (last - e).toNat = 0
        · rw [g2] at hc
          have g3 : 2 ^ 52 = 2 ^ m.log2 * 2 ^ (52 - m.log2) := by rw [← Nat.pow_add]; congr 1; omega
          have g4 : (e - last).toNat = 52 - m.log2 := by omega
          rw [g4] at hc
          have g5 : 2 ^ m.log2 * 2 ^ (52 - m.log2) ≤ m * 2 ^ (52 - m.log2) := Nat.mul_le_mul_right _ hlog
          rw [g3]
          generalize 2 ^ m.log2 * 2 ^ (52 - m.log2) = y at g5 ⊢
          generalize m * 2 ^ (52 - m.log2) = z at g5 hc
          omega
        · have g3 : (e - last).toNat = 0 := by omega
          have g4 : m.log2 = 52 + (last - e).toNat := by omega
          rw [g3, Nat.pow_zero, Nat.mul_one] at hc
          rw [g4, Nat.pow_add] at hlog
          have g5 := Nat.two_pow_pos (last - e).toNat
          generalize 2 ^ (last - e).toNat = g at g5 hc hlog
          refine Nat.le_of_not_lt fun g6 => ?_
          have g7 : (k + 1) * g ≤ 2 ^ 52 * g := Nat.mul_le_mul_right _ g6
          rw [Nat.add_mul, Nat.one_mul] at g7
          generalize 2 ^ 52 * g = y at g7 hlog
          generalize k * g = z at g7 hc
          omega
    have hw : wo m' e' = wo k last := by
      rw [hr'] at hm hlt
      obtain ⟨m2, e2', q1, q2⟩ := readRung_keep s (by omega) hk hk2' hlt
      rw [q1] at hm
      cases hm
      rcases q2 with ⟨rfl, rfl⟩ | ⟨rfl, rfl, rfl⟩
      · rfl
      · exact (wo_pow (2 ^ 52) 1 last).symm
    have f1 : wo (k * 2 ^ (last - e).toNat) (last - (last - e).toNat) = wo k last := by rw [wo_pow]; congr 1; omega
    have f2 : wo (m * 2 ^ (e - last).toNat) (last - (last - e).toNat) = wo m e := by rw [wo_pow]; congr 1; omega
    have f3 : wo (2 ^ (last - e).toNat) (last - (last - e).toNat) = (2 : Rat) ^ last := by
      have := wo_pow 1 (last - e).toNat (last - (last - e).toNat)
      rw [Nat.one_mul] at this
      rw [this, wo_one]; congr 1; omega
    have c1 := wo_mono hc.1 (last - (last - e).toNat)
    have c2 := wo_mono hc.2 (last - (last - e).toNat)
    rw [wo_add, wo_two, wo_two, f1, f2, f3] at c1 c2
    have hb : (2 : Rat) ^ last ≤ 2 * (2 : Rat) ^ (E - 53) := by
      have h9 := two_mono (by omega : last ≤ E - 52)
      have h8 : (2 : Rat) ^ (E - 52) = (2 : Rat) ^ (E - 53) * 2 := by
        rw [← Rat.zpow_add_one two_ne]; congr 1; omega
      grind
    rw [hw]
    constructor <;> grind
end Go.Proofs.Ytlpahmefebgdlaa.Fx
namespace Go.Proofs.Ytlpahmefebgdlaa.Fx
open Go Nr Ieee

def val (s : Bool) (m : Nat) (e : Int) : Rat := bif s then -(wo m e) else wo m e
/-- A float is finite and worth v. -/
def Has (x : F64) (v : Rat) : Prop := ∃ s m e, Num x s m e ∧ v = val s m e
theorem wo_nonneg (m : Nat) (e : Int) : 0 ≤ wo m e := by
  have h := wo_mono (Nat.zero_le m) e
  have h0 : wo 0 e = 0 := by unfold wo; grind
  rwa [h0] at h
theorem le2_of {m : Nat} {e E : Int} (h : wo m e ≤ (2 : Rat) ^ E) : Le2 m e E := by
  by_cases hz : m = 0
  · exact .inl hz
  · right
    have h1 := wo_mono (by omega : 1 ≤ m) e
    rw [wo_one] at h1
    have he : e ≤ E := by
      refine Int.not_lt.1 fun hlt => ?_
      have h2 := two_mono (by omega : E + 1 ≤ e)
      rw [Rat.zpow_add_one two_ne] at h2
      have h3 := two_pos E
      grind
    refine ⟨he, ?_⟩
    have e1 : (2 : Rat) ^ E = wo (2 ^ (E - e).toNat) e := by
      have := wo_pow 1 (E - e).toNat e
      rw [Nat.one_mul] at this
      rw [this, wo_one]; congr 1; omega
    rw [e1] at h
    refine Nat.not_lt.1 fun hlt => ?_
    have h4 := wo_mono (by omega : 2 ^ (E - e).toNat + 1 ≤ m) e
    rw [wo_add, wo_one] at h4
    have h5 := two_pos e
    grind
theorem val_le {s : Bool} {m : Nat} {e : Int} {b : Rat} (h1 : val s m e ≤ b) (h2 : -b ≤ val s m e) : wo m e ≤ b := by
  unfold val at h1 h2
  cases s <;> simp only [cond_true, cond_false] at h1 h2 <;> grind
/-- Rounded: a value near. -/
theorem has_round (s : Bool) {m : Nat} {e E : Int} (h : wo m e ≤ (2 : Rat) ^ E) (h1 : -1022 ≤ E) (h2 : E ≤ 1023) :
    ∃ v, Has (bx (double.nearest s m e)) v ∧ v ≤ val s m e + (2 : Rat) ^ (E - 53) ∧ val s m e ≤ v + (2 : Rat) ^ (E - 53) := by
  obtain ⟨m', e', g1, g2, g3, g4⟩ := num_round s (le2_of h) h1 h2
  refine ⟨_, ⟨s, m', e', g1, rfl⟩, ?_⟩
  unfold val
  cases s <;> simp only [cond_true, cond_false] <;> constructor <;> grind

/-- A whole number of units. -/
def wi (z : Int) (e : Int) : Rat := (z : Rat) * (2 : Rat) ^ e
theorem wi_add (a b e : Int) : wi (a + b) e = wi a e + wi b e := by
  unfold wi; rw [Rat.intCast_add]; grind
theorem wi_signed (s : Bool) (m k : Nat) (e : Int) : wi (signed s m k) e = val s m (e + k) := by
  rw [signed_eq, val, ← wo_pow]
  unfold wi wo
  cases s
  · simp only [Bool.false_eq_true, if_false, cond_false]; rw [Rat.intCast_natCast]
  · simp only [if_true, cond_true]; rw [Rat.intCast_neg, Rat.intCast_natCast]; grind
theorem wi_val (z : Int) (e : Int) {s : Bool} (hs : z ≠ 0 → s = decide (z < 0)) : val s z.natAbs e = wi z e := by
  by_cases hz : z = 0
  · subst hz; unfold val wi wo; cases s <;> simp
  · rw [hs hz]
    unfold val wi wo
    by_cases h : z < 0
    · have e1 : z = -(z.natAbs : Int) := by omega
      rw [decide_eq_true h]
      simp only [cond_true]
      conv => rhs; rw [e1]
      rw [Rat.intCast_neg, Rat.intCast_natCast]; grind
    · have e1 : z = (z.natAbs : Int) := by omega
      rw [decide_eq_false h]
      simp only [cond_false]
      conv => rhs; rw [e1]
      rw [Rat.intCast_natCast]
theorem add_has {x y : F64} {a b : Rat} {E : Int} (hx : Has x a) (hy : Has y b) (h1 : a + b ≤ (2 : Rat) ^ E) (h2 : -((2 : Rat) ^ E) ≤ a + b) (h3 : -1022 ≤ E) (h4 : E ≤ 1023) :
    ∃ v, Has (x + y) v ∧ v ≤ a + b + (2 : Rat) ^ (E - 53) ∧ a + b ≤ v + (2 : Rat) ^ (E - 53) := by
  obtain ⟨s, m, i, hx, rfl⟩ := hx
  obtain ⟨t, n, j, hy, rfl⟩ := hy
  rw [hx.add hy]
  unfold addW
  have e1 : val s m i = wi (signed s m (i - min i j).toNat) (min i j) := by rw [wi_signed]; congr 1; omega
  have e2 : val t n j = wi (signed t n (j - min i j).toNat) (min i j) := by rw [wi_signed]; congr 1; omega
  rw [e1, e2, ← wi_add] at h1 h2 ⊢
  generalize signed s m (i - min i j).toNat + signed t n (j - min i j).toNat = z at h1 h2 ⊢
  have hv : ∀ q : Bool, val (if z = 0 then q else decide (z < 0)) z.natAbs (min i j) = wi z (min i j) := fun q => wi_val z _ (fun hz => by rw [if_neg hz])
  have := hv (s && t)
  rw [← this] at h1 h2 ⊢
  exact has_round _ (val_le h1 h2) h3 h4
theorem val_not (t : Bool) (n : Nat) (j : Int) : val (!t) n j = -(val t n j) := by
  unfold val; cases t <;> simp only [Bool.not_true, Bool.not_false, cond_true, cond_false] <;> grind
theorem sub_has {x y : F64} {a b : Rat} {E : Int} (hx : Has x a) (hy : Has y b) (h1 : a - b ≤ (2 : Rat) ^ E) (h2 : -((2 : Rat) ^ E) ≤ a - b) (h3 : -1022 ≤ E) (h4 : E ≤ 1023) :
    ∃ v, Has (x - y) v ∧ v ≤ a - b + (2 : Rat) ^ (E - 53) ∧ a - b ≤ v + (2 : Rat) ^ (E - 53) := by
  obtain ⟨s, m, i, hx, rfl⟩ := hx
  obtain ⟨t, n, j, hy, rfl⟩ := hy
  rw [hx.sub hy]
  unfold addW
  have e0 : val s m i - val t n j = val s m i + val (!t) n j := by rw [val_not]; grind
  have e1 : val s m i = wi (signed s m (i - min i j).toNat) (min i j) := by rw [wi_signed]; congr 1; omega
  have e2 : val (!t) n j = wi (signed (!t) n (j - min i j).toNat) (min i j) := by rw [wi_signed]; congr 1; omega
  rw [e0, e1, e2, ← wi_add] at h1 h2 ⊢
  generalize signed s m (i - min i j).toNat + signed (!t) n (j - min i j).toNat = z at h1 h2 ⊢
  have hv : ∀ q : Bool, val (if z = 0 then q else decide (z < 0)) z.natAbs (min i j) = wi z (min i j) := fun q => wi_val z _ (fun hz => by rw [if_neg hz])
  have := hv (s && !t)
  rw [← this] at h1 h2 ⊢
  exact has_round _ (val_le h1 h2) h3 h4
theorem wo_mul (m n : Nat) (i j : Int) : wo (m * n) (i + j) = wo m i * wo n j := by
  unfold wo; rw [Rat.natCast_mul, Rat.zpow_add two_ne]; grind
theorem mul_has {x y : F64} {a b : Rat} {E : Int} (hx : Has x a) (hy : Has y b) (h1 : a * b ≤ (2 : Rat) ^ E) (h2 : -((2 : Rat) ^ E) ≤ a * b) (h3 : -1022 ≤ E) (h4 : E ≤ 1023) :
    ∃ v, Has (x * y) v ∧ v ≤ a * b + (2 : Rat) ^ (E - 53) ∧ a * b ≤ v + (2 : Rat) ^ (E - 53) := by
  obtain ⟨s, m, i, ⟨r, rfl, hr⟩, rfl⟩ := hx
  obtain ⟨t, n, j, ⟨q, rfl, hq⟩, rfl⟩ := hy
  rw [mul_some, hr, hq]
  have e0 : val s m i * val t n j = val (s ^^ t) (m * n) (i + j) := by
    unfold val; rw [wo_mul]
    cases s <;> cases t <;> simp only [Bool.xor_true, Bool.xor_false, Bool.not_true, Bool.not_false, cond_true, cond_false] <;> grind
  rw [e0] at h1 h2 ⊢
  exact has_round _ (val_le h1 h2) h3 h4
end Go.Proofs.Ytlpahmefebgdlaa.Fx
namespace Go.Proofs.Ytlpahmefebgdlaa.Fx
open Go Nr Ieee

/-- The quotient with one digit more that tells whether anything is left over. -/
theorem sticky (N n : Nat) (hn : 0 < n) : (2 * (N / n) + (N % n != 0).toNat) * n ≤ 2 * N + n ∧ 2 * N ≤ (2 * (N / n) + (N % n != 0).toNat) * n + n := by
  have h1 := Nat.div_add_mod N n
  have h2 := Nat.mod_lt N hn
  generalize N / n = q at h1 ⊢
  generalize N % n = r at h1 h2 ⊢
  subst h1
  by_cases hr : r = 0
  · subst hr
    simp only [bne_self_eq_false, Bool.toNat_false, Nat.add_zero]
    rw [Nat.mul_assoc, Nat.mul_comm q n]; omega
  · have : (r != 0) = true := by simp [hr]
    rw [this, Bool.toNat_true, Nat.add_mul, Nat.mul_assoc, Nat.mul_comm q n]; omega
theorem wo_pos {n : Nat} (hn : 0 < n) (j : Int) : 0 < wo n j := by
  have h := wo_mono hn j
  rw [wo_one] at h
  have := two_pos j
  grind
theorem log_le {m : Nat} (hm : m ≠ 0) (i : Int) : (2 : Rat) ^ (i + (m.log2 : Int)) ≤ wo m i := by
  have h := wo_mono (Nat.log2_self_le hm) i
  have e := wo_pow 1 m.log2 i
  rw [Nat.one_mul, wo_one] at e
  rwa [e] at h
theorem log_lt (n : Nat) (j : Int) : wo n j ≤ (2 : Rat) ^ (j + (n.log2 : Int) + 1) := by
  have h := wo_mono (Nat.le_of_lt (lt_log2 n)) j
  have e := wo_pow 1 (n.log2 + 1) j
  rw [Nat.one_mul, wo_one] at e
  rw [e] at h
  rwa [show j + ((n.log2 + 1 : Nat) : Int) = j + (n.log2 : Int) + 1 by omega] at h
/-- The quotient's worth, before it is rounded. -/
theorem quo_worth {m n K : Nat} {i j : Int} {C : Rat} (hm : m ≠ 0) (hn : 0 < n) (hK : (K : Int) = 54 + (n.log2 : Int) - (m.log2 : Int)) (hC : wo m i = C * wo n j) :
    wo (2 * (m * 2 ^ K / n) + ((m * 2 ^ K) % n != 0).toNat) (i - j - K - 1) ≤ C + C * (2 : Rat) ^ (-54 : Int) ∧ C ≤ wo (2 * (m * 2 ^ K / n) + ((m * 2 ^ K) % n != 0).toNat) (i - j - K - 1) + C * (2 : Rat) ^ (-54 : Int) := by
  obtain ⟨s1, s2⟩ := sticky (m * 2 ^ K) n hn
  generalize 2 * (m * 2 ^ K / n) + ((m * 2 ^ K) % n != 0).toNat = z at s1 s2 ⊢
  have c1 := wo_mono s1 (i - K - 1)
  have c2 := wo_mono s2 (i - K - 1)
  have e1 : wo (2 * (m * 2 ^ K)) (i - K - 1) = wo m i := by
    rw [show 2 * (m * 2 ^ K) = m * 2 ^ (K + 1) by rw [Nat.pow_succ]; grind, wo_pow]; congr 1; omega
  have e2 : wo (z * n) (i - K - 1) = wo z (i - j - K - 1) * wo n j := by rw [← wo_mul]; congr 1; omega
  have e3 : wo n (i - K - 1) = wo n j * (2 : Rat) ^ (i - j - K - 1) := by
    unfold wo
    rw [show i - K - 1 = j + (i - j - K - 1) by omega, Rat.zpow_add two_ne]; grind
  rw [wo_add, e1, e2, e3, hC] at c1 c2
  have hp := wo_pos hn j
  -- the unit is small
  have hu : wo n j * (2 : Rat) ^ (i - j - K - 1) ≤ wo n j * (C * (2 : Rat) ^ (-54 : Int)) := by
    have h1 := log_le hm i
    have h2 := log_lt n j
    have h3 : (2 : Rat) ^ (j + (n.log2 : Int) + 1) * (2 : Rat) ^ (i - j - K - 1) = (2 : Rat) ^ (i + (m.log2 : Int)) * (2 : Rat) ^ (-54 : Int) := by
      rw [← Rat.zpow_add two_ne, ← Rat.zpow_add two_ne]; congr 1; omega
    have h4 := Rat.mul_le_mul_of_nonneg_left h2 (Rat.le_of_lt (two_pos (i - j - K - 1)))
    have h5 := Rat.mul_le_mul_of_nonneg_left h1 (Rat.le_of_lt (two_pos (-54 : Int)))
    rw [hC] at h5
    grind
  have f1 : wo n j * wo z (i - j - K - 1) ≤ wo n j * (C + C * (2 : Rat) ^ (-54 : Int)) := by grind
  have f2 : wo n j * C ≤ wo n j * (wo z (i - j - K - 1) + C * (2 : Rat) ^ (-54 : Int)) := by grind
  exact ⟨Rat.le_of_mul_le_mul_left f1 hp, Rat.le_of_mul_le_mul_left f2 hp⟩
theorem div_has {x y : F64} {a b c : Rat} {E : Int} (hx : Has x a) (hy : Has y b) (hb : b ≠ 0) (hc : a = c * b) (h1 : c ≤ (2 : Rat) ^ E) (h2 : -((2 : Rat) ^ E) ≤ c) (h3 : -1022 ≤ E) (h4 : E ≤ 1022) :
    ∃ v, Has (x / y) v ∧ v ≤ c + (2 : Rat) ^ (E - 51) ∧ c ≤ v + (2 : Rat) ^ (E - 51) := by
  obtain ⟨s, m, i, hx, rfl⟩ := hx
  obtain ⟨t, n, j, hy, rfl⟩ := hy
  obtain ⟨b1, b2, b3⟩ := hx.bound
  obtain ⟨r, rfl, hr⟩ := hx
  obtain ⟨q, rfl, hq⟩ := hy
  have hn0 : n ≠ 0 := by
    rintro rfl
    apply hb
    unfold val wo
    cases t <;> simp
  rw [div_some, hr, hq]
  have : (((Datum.number s m i).quotient 54 (Datum.number t n j)).map double.write : Option Nat) =
      some (double.nearest (s ^^ t) (2 * ((m <<< (54 + n.log2 - m.log2)) / n) + (((m <<< (54 + n.log2 - m.log2)) % n) != 0).toNat) (i - j - ((54 + n.log2 - m.log2 : Nat) : Int) - 1)) := by
    simp only [Datum.quotient, if_neg hn0]; rfl
  rw [this]
  obtain ⟨K, hK⟩ : ∃ K, 54 + n.log2 - m.log2 = K := ⟨_, rfl⟩
  rw [hK, shl]
  have hnp : 0 < n := Nat.pos_of_ne_zero hn0
  -- the quotient of the magnitudes
  have hp := wo_pos hnp j
  obtain ⟨C, hC, hCc⟩ : ∃ C : Rat, wo m i = C * wo n j ∧ c = bif (s ^^ t) then -C else C := by
    refine ⟨bif (s ^^ t) then -c else c, ?_, ?_⟩
    · revert hc
      unfold val
      cases s <;> cases t <;> simp only [Bool.xor_true, Bool.xor_false, Bool.not_true, Bool.not_false, cond_true, cond_false] <;> intro hc <;> grind
    · cases s <;> cases t <;> simp only [Bool.xor_true, Bool.xor_false, Bool.not_true, Bool.not_false, cond_true, cond_false] <;> grind
  have hC1 : C ≤ (2 : Rat) ^ E := by
    revert hCc
    cases s ^^ t <;> simp only [cond_true, cond_false] <;> intro hCc <;> grind
  have hC0 : 0 ≤ C := by
    have h0 := wo_nonneg m i
    rw [hC] at h0
    have : wo n j * 0 ≤ wo n j * C := by grind
    exact Rat.le_of_mul_le_mul_left this hp
  have hd : C * (2 : Rat) ^ (-54 : Int) ≤ (2 : Rat) ^ (E - 54) := by
    have := Rat.mul_le_mul_of_nonneg_left hC1 (Rat.le_of_lt (two_pos (-54 : Int)))
    have e : (2 : Rat) ^ (E - 54) = (2 : Rat) ^ (-54 : Int) * (2 : Rat) ^ E := by rw [← Rat.zpow_add two_ne]; congr 1; omega
    grind
  have w : wo (2 * (m * 2 ^ K / n) + ((m * 2 ^ K) % n != 0).toNat) (i - j - K - 1) ≤ C + (2 : Rat) ^ (E - 54) ∧ C ≤ wo (2 * (m * 2 ^ K / n) + ((m * 2 ^ K) % n != 0).toNat) (i - j - K - 1) + (2 : Rat) ^ (E - 54) := by
    by_cases hm : m = 0
    · subst hm
      have hz : 2 * (0 * 2 ^ K / n) + ((0 * 2 ^ K) % n != 0).toNat = 0 := by simp
      have hw : wo 0 (i - j - K - 1) = 0 := by unfold wo; grind
      have hw' : wo 0 i = 0 := by unfold wo; grind
      rw [hw'] at hC
      have hC2 : C ≤ 0 := by
        have : wo n j * C ≤ wo n j * 0 := by grind
        exact Rat.le_of_mul_le_mul_left this hp
      rw [hz, hw]
      have := two_pos (E - 54)
      constructor <;> grind
    · have hlog : m.log2 ≤ 52 := by
        have h5 : 2 ^ m.log2 < 2 ^ 53 := Nat.lt_of_le_of_lt (Nat.log2_self_le hm) b1
        have := (Nat.pow_lt_pow_iff_right (by decide)).1 h5
        omega
      have := quo_worth (K := K) hm hnp (by omega) hC
      constructor <;> grind
  generalize 2 * (m * 2 ^ K / n) + ((m * 2 ^ K) % n != 0).toNat = z at w ⊢
  have g1 := two_mono (by omega : E - 54 ≤ E - 52)
  have g2 := two_mono (by omega : E - 54 ≤ E)
  have g3 : (2 : Rat) ^ (E + 1) = (2 : Rat) ^ E * 2 := Rat.zpow_add_one two_ne E
  have g4 : (2 : Rat) ^ (E - 51) = (2 : Rat) ^ (E - 52) * 2 := by rw [← Rat.zpow_add_one two_ne]; congr 1; omega
  have hz : wo z (i - j - K - 1) ≤ (2 : Rat) ^ (E + 1) := by grind
  obtain ⟨v, q1, q2, q3⟩ := has_round (s ^^ t) hz (by omega) (by omega)
  have g5 : (2 : Rat) ^ (E + 1 - 53) = (2 : Rat) ^ (E - 52) := by congr 1; omega
  rw [g5] at q2 q3
  refine ⟨v, q1, ?_⟩
  rw [hCc]
  revert q2 q3
  unfold val
  cases s ^^ t <;> simp only [cond_true, cond_false] <;> intro q2 q3 <;> constructor <;> grind
end Go.Proofs.Ytlpahmefebgdlaa.Fx
namespace Go.Proofs.Ytlpahmefebgdlaa.Fx
open Go Nr Ieee

/-- A 32-bit float is finite and worth v. -/
def HasS (x : F32) (v : Rat) : Prop := ∃ s m e, NumS x s m e ∧ v = val s m e
theorem val_pow (s : Bool) (m j : Nat) (e : Int) : val s (m * 2 ^ j) (e - j) = val s m e := by
  unfold val; rw [wo_pow, show e - j + j = e by omega]
theorem widen_has {x : F32} {v : Rat} (h : HasS x v) : Has (widen x) v := by
  obtain ⟨s, m, e, h, rfl⟩ := h
  obtain ⟨j, hj⟩ := widen_numS h
  exact ⟨_, _, _, hj, (val_pow s m j e).symm⟩
theorem wi_lt {a b : Int} (e : Int) : wi a e < wi b e ↔ a < b := by
  unfold wi
  have hp := two_pos e
  constructor
  · intro h
    refine Int.not_le.1 fun hle => ?_
    have h1 : (b : Rat) ≤ (a : Rat) := Rat.intCast_le_intCast.2 hle
    have h2 := Rat.mul_le_mul_of_nonneg_left h1 (Rat.le_of_lt hp)
    grind
  · intro h
    have h1 : ((a + 1 : Int) : Rat) ≤ (b : Rat) := Rat.intCast_le_intCast.2 h
    have h2 := Rat.mul_le_mul_of_nonneg_left h1 (Rat.le_of_lt hp)
    rw [Rat.intCast_add] at h2
    have h3 : ((1 : Int) : Rat) = 1 := rfl
    grind
theorem ord_has {x y : F64} {a b : Rat} (hx : Has x a) (hy : Has y b) : ∃ (z w : Int) (e : Int), ord x y = some (compare z w) ∧ a = wi z e ∧ b = wi w e := by
  obtain ⟨s, m, i, ⟨r, rfl, hr⟩, rfl⟩ := hx
  obtain ⟨t, n, j, ⟨q, rfl, hq⟩, rfl⟩ := hy
  refine ⟨signed s m (i - min i j).toNat, signed t n (j - min i j).toNat, min i j, ?_, ?_, ?_⟩
  · rw [ord_some, hr, hq]; rfl
  · rw [wi_signed]; congr 1; omega
  · rw [wi_signed]; congr 1; omega
theorem lt_has {x y : F64} {a b : Rat} (hx : Has x a) (hy : Has y b) : lt x y = decide (a < b) := by
  obtain ⟨z, w, e, ho, rfl, rfl⟩ := ord_has hx hy
  unfold lt
  rw [ho, cmp_lt]
  exact decide_eq_decide.2 (wi_lt e).symm
theorem gt_has {x y : F64} {a b : Rat} (hx : Has x a) (hy : Has y b) : gt x y = decide (b < a) := by
  obtain ⟨z, w, e, ho, rfl, rfl⟩ := ord_has hx hy
  unfold gt
  rw [ho, cmp_gt]
  exact decide_eq_decide.2 (wi_lt e).symm
end Go.Proofs.Ytlpahmefebgdlaa.Fx
namespace Go.Proofs.Ytlpahmefebgdlaa.Fx
open Go Nr Ieee

theorem readRung_keepS (neg : Bool) {k : Nat} {p : Int} (hp : -149 ≤ p) (hk : p = -149 ∨ 2 ^ 23 ≤ k) (hk2 : k ≤ 2 ^ 24) (hi : (p + 149).toNat * 2 ^ 23 + k < 255 * 2 ^ 23) :
    ∃ m' e', readRung single neg ((p + 149).toNat * 2 ^ 23 + k) = .number neg m' e' ∧ ((m' = k ∧ e' = p) ∨ (k = 2 ^ 24 ∧ m' = 2 ^ 23 ∧ e' = p + 1)) := by
  have e1 : single.leastPlace = -149 := by decide
  have e3 : single.infRung = 255 * 2 ^ 23 := by decide
  have e5 : single.binade = 2 ^ 23 := by decide
  obtain ⟨j, hj⟩ : ∃ j : Nat, p = -149 + (j : Int) := ⟨(p + 149).toNat, by omega⟩
  have hj' : (p + 149).toNat = j := by omega
  rw [hj'] at hi ⊢
  unfold readRung
  rw [e1, e3, e5]
  by_cases h1 : k < 2 ^ 23
  · have h2 : j = 0 := by omega
    subst h2
    rw [if_pos (by omega)]
    exact ⟨_, _, rfl, .inl ⟨by omega, by omega⟩⟩
  · rw [if_neg (by omega), if_pos hi]
    by_cases h2 : k = 2 ^ 24
    · refine ⟨_, _, rfl, .inr ⟨h2, ?_, ?_⟩⟩
      · omega
      · omega
    · exact ⟨_, _, rfl, .inl ⟨by omega, by omega⟩⟩

theorem word_injS {s : Bool} {a b : Nat} (h : single.word s a = single.word s b) : a = b := by
  unfold Format.word at h
  cases s
  · exact h
  · exact Nat.add_left_cancel h
/-- A number rounded: the worth's error. -/
theorem num_roundS (s : Bool) {m : Nat} {e E : Int} (h : Le2 m e E) (h1 : -126 ≤ E) (h2 : E ≤ 127) :
    ∃ m' e', NumS (sx (single.nearest s m e)) s m' e' ∧ Le2 m' e' E ∧ wo m' e' ≤ wo m e + (2 : Rat) ^ (E - 24) ∧ wo m e ≤ wo m' e' + (2 : Rat) ^ (E - 24) := by
  have e1 : single.leastPlace = -149 := by decide
  have e2 : single.fractionBits = 23 := rfl
  have e3 : single.infRung = 255 * 2 ^ 23 := by decide
  have e4 : single.signWeight = 256 * 2 ^ 23 := by decide
  have e5 : single.binade = 2 ^ 23 := by decide
  have hpos := two_pos (E - 24)
  obtain ⟨r, hr, hr1, hr2⟩ := nearest_le single s (by rw [e1, e2]; omega) h
  have hlt : r < single.infRung := by
    refine Nat.lt_of_le_of_lt hr1 ?_
    unfold rungPow
    rw [e1, e2, e3, e5]
    exact Nat.mul_lt_mul_of_pos_right (by omega) (by decide)
  obtain ⟨m', e', hm, hl⟩ := readRung_le single s (by rw [e1, e2]; omega) hr1 hlt
  refine ⟨m', e', ⟨_, rfl, by rw [hr, read_word single s (by omega), hm]⟩, hl, ?_⟩
  by_cases hz : m = 0
  · subst hz
    rw [show single.nearest s 0 e = single.word s 0 by unfold Format.nearest; rw [if_pos rfl]] at hr
    have h0 := word_injS hr
    subst h0
    have : readRung single s 0 = .number s 0 (-149) := by unfold readRung; rw [if_pos (by decide), e1]
    rw [this] at hm
    cases hm
    unfold wo
    grind
  · have hn : ∃ last : Int, last = max (e + (m.log2 : Int) - 23) (-149) ∧ single.nearest s m e = single.word s (min ((last + 149).toNat * 2 ^ 23 + Toward.even.cut s (m <<< (e - last).toNat) (last - e).toNat) (255 * 2 ^ 23)) := by
      refine ⟨_, rfl, ?_⟩
      unfold Format.nearest
      rw [if_neg hz]
      dsimp only
      rw [e1, e2, e3, e5]
      rw [show ∀ z : Int, z - -149 = z + 149 by intro z; omega]
      rfl
    obtain ⟨last, hlast, hn⟩ := hn
    have hk2 := kept_le single s (mag := m) (place := e)
    rw [e1, e2] at hk2
    have hk2' : Toward.even.cut s (m <<< (e - last).toNat) (last - e).toNat ≤ 2 ^ 24 := by rw [hlast]; exact hk2
    clear hk2
    have hc := cut_near s (m <<< (e - last).toNat) (last - e).toNat
    generalize Toward.even.cut s (m <<< (e - last).toNat) (last - e).toNat = k at hn hk2' hc
    rw [hn] at hr
    have hrr := word_injS hr
    rw [e3] at hlt
    have hr' : r = (last + 149).toNat * 2 ^ 23 + k := by
      generalize (last + 149).toNat * 2 ^ 23 + k = z at hrr
      generalize 255 * 2 ^ 23 = y at hrr hlt
      omega
    clear hrr hn hr
    rw [shl] at hc
    have hlog := Nat.log2_self_le hz
    have hup := lt_log2 m
    have hE : e + (m.log2 : Int) ≤ E := by
      obtain ⟨g1, g2⟩ := h.resolve_left hz
      have := (Nat.pow_le_pow_iff_right (by decide : 1 < 2)).1 (Nat.le_trans hlog g2)
      omega
    have hk : last = -149 ∨ 2 ^ 23 ≤ k := by
      by_cases g : last = -149
      · exact .inl g
      · right
        have g1 : last = e + (m.log2 : Int) - 23 := by omega
        by_cases g2 : (last - e).toNat = 0
        · rw [g2] at hc
          have g3 : 2 ^ 23 = 2 ^ m.log2 * 2 ^ (23 - m.log2) := by rw [← Nat.pow_add]; congr 1; omega
          have g4 : (e - last).toNat = 23 - m.log2 := by omega
          rw [g4] at hc
          have g5 : 2 ^ m.log2 * 2 ^ (23 - m.log2) ≤ m * 2 ^ (23 - m.log2) := Nat.mul_le_mul_right _ hlog
          rw [g3]
          generalize 2 ^ m.log2 * 2 ^ (23 - m.log2) = y at g5 ⊢
          generalize m * 2 ^ (23 - m.log2) = z at g5 hc
          omega
        · have g3 : (e - last).toNat = 0 := by omega
          have g4 : m.log2 = 23 + (last - e).toNat := by omega
          rw [g3, Nat.pow_zero, Nat.mul_one] at hc
          rw [g4, Nat.pow_add] at hlog
          have g5 := Nat.two_pow_pos (last - e).toNat
          generalize 2 ^ (last - e).toNat = g at g5 hc hlog
          refine Nat.le_of_not_lt fun g6 => ?_
          have g7 : (k + 1) * g ≤ 2 ^ 23 * g := Nat.mul_le_mul_right _ g6
          rw [Nat.add_mul, Nat.one_mul] at g7
          generalize 2 ^ 23 * g = y at g7 hlog
          generalize k * g = z at g7 hc
          omega
    have hw : wo m' e' = wo k last := by
      rw [hr'] at hm hlt
      obtain ⟨m2, e2', q1, q2⟩ := readRung_keepS s (by omega) hk hk2' hlt
      rw [q1] at hm
      cases hm
      rcases q2 with ⟨rfl, rfl⟩ | ⟨rfl, rfl, rfl⟩
      · rfl
      · exact (wo_pow (2 ^ 23) 1 last).symm
    have f1 : wo (k * 2 ^ (last - e).toNat) (last - (last - e).toNat) = wo k last := by rw [wo_pow]; congr 1; omega
    have f2 : wo (m * 2 ^ (e - last).toNat) (last - (last - e).toNat) = wo m e := by rw [wo_pow]; congr 1; omega
    have f3 : wo (2 ^ (last - e).toNat) (last - (last - e).toNat) = (2 : Rat) ^ last := by
      have := wo_pow 1 (last - e).toNat (last - (last - e).toNat)
      rw [Nat.one_mul] at this
      rw [this, wo_one]; congr 1; omega
    have c1 := wo_mono hc.1 (last - (last - e).toNat)
    have c2 := wo_mono hc.2 (last - (last - e).toNat)
    rw [wo_add, wo_two, wo_two, f1, f2, f3] at c1 c2
    have hb : (2 : Rat) ^ last ≤ 2 * (2 : Rat) ^ (E - 24) := by
      have h9 := two_mono (by omega : last ≤ E - 23)
      have h8 : (2 : Rat) ^ (E - 23) = (2 : Rat) ^ (E - 24) * 2 := by
        rw [← Rat.zpow_add_one two_ne]; congr 1; omega
      grind
    rw [hw]
    constructor <;> grind

theorem val_le2 {s : Bool} {m : Nat} {e E : Int} (h1 : val s m e ≤ (2 : Rat) ^ E) (h2 : -((2 : Rat) ^ E) ≤ val s m e) : Le2 m e E := le2_of (val_le h1 h2)
/-- A number narrowed. -/
theorem narrow_has {x : F64} {v : Rat} {E : Int} (h : Has x v) (h1 : v ≤ (2 : Rat) ^ E) (h2 : -((2 : Rat) ^ E) ≤ v) (h3 : -126 ≤ E) (h4 : E ≤ 127) :
    fits x = true ∧ ∃ u, HasS (narrow x) u ∧ u ≤ v + (2 : Rat) ^ (E - 24) ∧ v ≤ u + (2 : Rat) ^ (E - 24) := by
  obtain ⟨s, m, e, hx, rfl⟩ := h
  have hl := val_le2 h1 h2
  refine ⟨(Up.narrow ⟨s, m, e, hx, le2_mono hl (by omega)⟩).1, ?_⟩
  obtain ⟨m', e', g1, g2, g3, g4⟩ := num_roundS s hl h3 h4
  obtain ⟨q, rfl, hq⟩ := hx
  have hd : FloatKind.f64.decode q = .number s m e := hq
  have : narrow (bx q) = sx (single.nearest s m e) := by simp only [narrow, hd]; rfl
  rw [this]
  refine ⟨_, ⟨s, m', e', g1, rfl⟩, ?_⟩
  unfold val
  cases s <;> simp only [cond_true, cond_false] <;> constructor <;> grind
end Go.Proofs.Ytlpahmefebgdlaa.Fx
namespace Go.Proofs.Ytlpahmefebgdlaa.Fx
open Go Nr Ieee

theorem wo_inj {m n : Nat} {e : Int} (h : wo m e = wo n e) : m = n := by
  have hp := two_pos e
  unfold wo at h
  rcases Nat.lt_trichotomy m n with g | g | g
  · have h1 : ((m + 1 : Nat) : Rat) ≤ (n : Rat) := Rat.natCast_le_natCast.2 g
    have h2 := Rat.mul_le_mul_of_nonneg_left h1 (Rat.le_of_lt hp)
    rw [Rat.natCast_add] at h2
    have h3 : ((1 : Nat) : Rat) = 1 := rfl
    grind
  · exact g
  · have h1 : ((n + 1 : Nat) : Rat) ≤ (m : Rat) := Rat.natCast_le_natCast.2 g
    have h2 := Rat.mul_le_mul_of_nonneg_left h1 (Rat.le_of_lt hp)
    rw [Rat.natCast_add] at h2
    have h3 : ((1 : Nat) : Rat) = 1 := rfl
    grind
/-- Numbers of the same worth are rounded alike. -/
theorem nearest_same (s : Bool) {m n : Nat} {i j : Int} (h : wo m i = wo n j) : double.nearest s m i = double.nearest s n j := by
  by_cases hij : i ≤ j
  · obtain ⟨k, hk⟩ := Int.eq_ofNat_of_zero_le (by omega : 0 ≤ j - i)
    have h1 : wo (n * 2 ^ k) i = wo n j := by rw [wo_pow]; congr 1; omega
    have h2 := wo_inj (h.trans h1.symm)
    rw [h2, show i = j - (k : Int) by omega]
    exact nearest_scale double s n k j
  · obtain ⟨k, hk⟩ := Int.eq_ofNat_of_zero_le (by omega : 0 ≤ i - j)
    have h1 : wo (m * 2 ^ k) j = wo m i := by rw [wo_pow]; congr 1; omega
    have h2 := wo_inj (h1.trans h)
    rw [← h2, show j = i - (k : Int) by omega]
    exact (nearest_scale double s m k i).symm
/-- A number that a float can hold is not rounded. -/
theorem has_exact (s : Bool) {m n : Nat} {i j : Int} (h : wo m i = wo n j) (hn : n < 2 ^ 53) (h1 : -1074 ≤ j) (h2 : j ≤ 971) : Has (bx (double.nearest s m i)) (val s m i) := by
  rw [nearest_same s h]
  obtain ⟨k, hk⟩ := num_near s hn h1 h2
  refine ⟨s, _, _, hk, ?_⟩
  rw [val_pow]
  unfold val; rw [h]
theorem add_exact {x y : F64} {a b : Rat} {n : Nat} {j : Int} (hx : Has x a) (hy : Has y b) (h : a + b = wo n j) (hn : n < 2 ^ 53) (h1 : -1074 ≤ j) (h2 : j ≤ 971) : Has (x + y) (a + b) := by
  obtain ⟨s, m, i, hx, rfl⟩ := hx
  obtain ⟨t, m', i', hy, rfl⟩ := hy
  rw [hx.add hy]
  unfold addW
  have e1 : val s m i = wi (signed s m (i - min i i').toNat) (min i i') := by rw [wi_signed]; congr 1; omega
  have e2 : val t m' i' = wi (signed t m' (i' - min i i').toNat) (min i i') := by rw [wi_signed]; congr 1; omega
  rw [e1, e2, ← wi_add] at h ⊢
  generalize signed s m (i - min i i').toNat + signed t m' (i' - min i i').toNat = z at h ⊢
  have hv := wi_val z (min i i') (s := if z = 0 then (s && t) else decide (z < 0)) (fun hz => by rw [if_neg hz])
  rw [← hv] at h ⊢
  refine has_exact _ (n := n) (j := j) ?_ hn h1 h2
  have hw := wo_nonneg z.natAbs (min i i')
  have hw' := wo_nonneg n j
  revert h
  unfold val
  generalize wo z.natAbs (min i i') = u at hw ⊢
  generalize wo n j = v at hw' ⊢
  cases (if z = 0 then (s && t) else decide (z < 0))
  · exact id
  · intro h
    have h' : -u = v := h
    grind
end Go.Proofs.Ytlpahmefebgdlaa.Fx
