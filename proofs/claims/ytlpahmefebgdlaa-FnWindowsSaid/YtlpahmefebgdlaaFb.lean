/- Orders, roundings to 32 bits and widenings that the kernel reckons fast; the operations on floats. No condition. -/
import Derived.Test.YtlpahmefebgdlaaFa
import Derived.Test.YtlpahmefebgdlaaCb
namespace Go.Proofs.Ytlpahmefebgdlaa.Fa
open Ieee

/-- The size that a rung stands for, in units of the least one. -/
def rv (B r : Nat) : Nat := if r < B then r else (B + r % B) * 2 ^ (r / B - 1)

theorem rv_step {B : Nat} (hB : 0 < B) (r : Nat) : rv B r < rv B (r + 1) := by
  unfold rv
  by_cases h1 : r + 1 < B
  · rw [if_pos h1, if_pos (by omega)]; omega
  · rw [if_neg h1]
    by_cases h2 : r < B
    · have e : r + 1 = B := by omega
      rw [if_pos h2, e, Nat.mod_self, Nat.div_self hB]; omega
    · rw [if_neg h2]
      have hq : 1 ≤ r / B := (Nat.one_le_div_iff hB).2 (by omega)
      have hm := Nat.mod_lt r hB
      have hdm := Nat.div_add_mod r B
      have hp := Nat.two_pow_pos (r / B - 1)
      by_cases h3 : r % B + 1 < B
      · have e1 : (r + 1) / B = r / B := by
          rw [← hdm, Nat.add_assoc, Nat.mul_add_div hB, Nat.mul_add_div hB, Nat.div_eq_of_lt h3, Nat.div_eq_of_lt hm]
        have e2 : (r + 1) % B = r % B + 1 := by
          conv => lhs; rw [← hdm]
          rw [Nat.add_assoc, Nat.mul_add_mod, Nat.mod_eq_of_lt h3]
        rw [e1, e2]
        exact Nat.mul_lt_mul_of_pos_right (by omega) hp
      · have e0 : r + 1 = B * (r / B + 1) := by rw [Nat.mul_add]; omega
        have e1 : (r + 1) / B = r / B + 1 := by rw [e0]; exact Nat.mul_div_cancel_left _ hB
        have e2 : (r + 1) % B = 0 := by rw [e0]; exact Nat.mul_mod_right _ _
        rw [e1, e2, Nat.add_zero, show r / B + 1 - 1 = (r / B - 1) + 1 by omega, Nat.pow_succ, Nat.mul_comm _ 2, ← Nat.mul_assoc]
        exact Nat.mul_lt_mul_of_pos_right (by omega) hp

theorem rv_mono {B : Nat} (hB : 0 < B) {r s : Nat} (h : r < s) : rv B r < rv B s := by
  obtain ⟨k, rfl⟩ : ∃ k, s = r + 1 + k := ⟨s - r - 1, by omega⟩
  induction k with
  | zero => exact rv_step hB r
  | succ k ih => exact Nat.lt_trans (ih (by omega)) (rv_step hB _)

theorem rv_zero {B : Nat} (hB : 0 < B) : rv B 0 = 0 := by unfold rv; rw [if_pos hB]

theorem read_fin (f : Format) {a : Nat} (h : a % f.signWeight < f.infRung) :
    ∃ (m : Nat) (k : Nat), f.read a = .number (a / f.signWeight % 2 == 1) m (f.leastPlace + (k : Int)) ∧ m * 2 ^ k = rv f.binade (a % f.signWeight) := by
  unfold Format.read rv
  dsimp only
  by_cases h1 : a % f.signWeight < f.binade
  · rw [if_pos h1, if_pos h1]
    exact ⟨_, 0, by rw [Int.natCast_zero, Int.add_zero], by rw [Nat.pow_zero, Nat.mul_one]⟩
  · rw [if_neg h1, if_pos h, if_neg h1]
    exact ⟨_, _, rfl, rfl⟩

theorem cmp_int (a b : Int) : compare a b = if a < b then .lt else if a = b then .eq else .gt := rfl
theorem cmp_nat (a b : Nat) : compare a b = if a < b then .lt else if a = b then .eq else .gt := rfl

/-- A word's key: keys stand as the numbers do. -/
def key (S a : Nat) : Nat := S + a % S - 2 * (a / S % 2 * (a % S))

theorem signed_val (s : Bool) (m k : Nat) : signed s m k = if s = true then -((m * 2 ^ k : Nat) : Int) else ((m * 2 ^ k : Nat) : Int) := by
  rw [signed_shl]

theorem order_fin (f : Format) {a b : Nat} (ha : a % f.signWeight < f.infRung) (hb : b % f.signWeight < f.infRung) : f.order a b = some (compare (key f.signWeight a) (key f.signWeight b)) := by
  have hB : 0 < f.binade := Nat.two_pow_pos _
  have hS : 0 < f.signWeight := Nat.two_pow_pos _
  obtain ⟨m, i, h1, e1⟩ := read_fin f ha
  obtain ⟨n, j, h2, e2⟩ := read_fin f hb
  unfold Format.order
  rw [h1, h2]
  simp only [Datum.order]
  congr 1
  -- both in units of the least place
  have key2 : ∀ (s t : Bool), compare (signed s m (f.leastPlace + (i : Int) - min (f.leastPlace + (i : Int)) (f.leastPlace + (j : Int))).toNat) (signed t n (f.leastPlace + (j : Int) - min (f.leastPlace + (i : Int)) (f.leastPlace + (j : Int))).toNat) =
      compare (if s = true then -((m * 2 ^ i : Nat) : Int) else ((m * 2 ^ i : Nat) : Int)) (if t = true then -((n * 2 ^ j : Nat) : Int) else ((n * 2 ^ j : Nat) : Int)) := by
    intro s t
    rw [signed_val, signed_val]
    obtain ⟨c, hc⟩ : ∃ c, c = min i j := ⟨_, rfl⟩
    rw [show (f.leastPlace + (i : Int) - min (f.leastPlace + (i : Int)) (f.leastPlace + (j : Int))).toNat = i - c by omega,
      show (f.leastPlace + (j : Int) - min (f.leastPlace + (i : Int)) (f.leastPlace + (j : Int))).toNat = j - c by omega]
    have hp := Nat.two_pow_pos c
    have ei : m * 2 ^ i = m * 2 ^ (i - c) * 2 ^ c := by rw [Nat.mul_assoc, ← Nat.pow_add]; congr 2; omega
    have ej : n * 2 ^ j = n * 2 ^ (j - c) * 2 ^ c := by rw [Nat.mul_assoc, ← Nat.pow_add]; congr 2; omega
    rw [ei, ej]
    generalize m * 2 ^ (i - c) = x
    generalize n * 2 ^ (j - c) = y
    generalize 2 ^ c = g at hp
    have hg : (0 : Int) < (g : Int) := by omega
    have sc : ∀ u v : Int, compare (u * (g : Int)) (v * (g : Int)) = compare u v := by
      intro u v
      rw [cmp_int, cmp_int]
      have l1 : (u * (g : Int) < v * (g : Int)) = (u < v) := propext ⟨fun h => Int.lt_of_mul_lt_mul_right h (by omega), fun h => Int.mul_lt_mul_of_pos_right h hg⟩
      have l2 : (u * (g : Int) = v * (g : Int)) = (u = v) := propext ⟨fun h => Int.eq_of_mul_eq_mul_right (by omega) h, fun h => by rw [h]⟩
      simp only [l1, l2]
    have c1 : ((x * g : Nat) : Int) = (x : Int) * (g : Int) := Int.natCast_mul _ _
    have c2 : ((y * g : Nat) : Int) = (y : Int) * (g : Int) := Int.natCast_mul _ _
    rw [c1, c2, ← Int.neg_mul, ← Int.neg_mul]
    cases s <;> cases t <;> simp only [Bool.false_eq_true, if_false, if_true] <;> exact (sc _ _).symm
  rw [key2, e1, e2]
  unfold key
  have la := Nat.mod_lt a hS
  have lb := Nat.mod_lt b hS
  generalize a % f.signWeight = r at la
  generalize b % f.signWeight = s at lb
  have hrs : ∀ {r s : Nat}, (rv f.binade r < rv f.binade s) = (r < s) := by
    intro r s
    refine propext ⟨fun h => ?_, rv_mono hB⟩
    rcases Nat.lt_trichotomy r s with h' | h' | h'
    · exact h'
    · rw [h'] at h; omega
    · have := rv_mono hB h'; omega
  have hre : ∀ {r s : Nat}, (rv f.binade r = rv f.binade s) = (r = s) := by
    intro r s
    refine propext ⟨fun h => ?_, fun h => by rw [h]⟩
    rcases Nat.lt_trichotomy r s with h' | h' | h'
    · have := rv_mono hB h'; omega
    · exact h'
    · have := rv_mono hB h'; omega
  have hz : ∀ r, rv f.binade r = 0 ↔ r = 0 := fun r => by
    have := @hre r 0
    rw [rv_zero hB] at this
    rw [this]
  have l1 := @hrs r s
  have l2 := @hrs s r
  have l3 := @hre r s
  have z1 := hz r
  have z2 := hz s
  generalize rv f.binade r = x at *
  generalize rv f.binade s = y at *
  have o1 : (x < y) ↔ (r < s) := by rw [l1]
  have o2 : (y < x) ↔ (s < r) := by rw [l2]
  have o3 : (x = y) ↔ (r = s) := by rw [l3]
  clear l1 l2 l3 key2 hrs hre hz
  rw [cmp_int, cmp_nat]
  have t0 : ((0 : Nat) == 1) = false := rfl
  have t1 : ((1 : Nat) == 1) = true := rfl
  rcases Nat.mod_two_eq_zero_or_one (a / f.signWeight) with h | h <;> rcases Nat.mod_two_eq_zero_or_one (b / f.signWeight) with h' | h' <;> rw [h, h'] <;> simp only [t0, t1, Bool.false_eq_true, if_false, if_true, Nat.zero_mul, Nat.one_mul, Nat.mul_zero, Nat.sub_zero]
  all_goals
    split
    · split
      · rfl
      · exfalso; omega
    · split
      · split
        · exfalso; omega
        · split
          · rfl
          · exfalso; omega
      · split
        · exfalso; omega
        · split
          · exfalso; omega
          · rfl

-- conversions
theorem narrow_norm {a e : Nat} (he : a / double.binade % 2 ^ double.exponentBits = e) (h1 : 897 ≤ e) (h2 : e + 1 < 2 ^ double.exponentBits) :
    single.write (double.read a) = single.word (a / double.signWeight % 2 == 1) (min ((e - 897) * 2 ^ 23 + rne (double.binade + a % double.binade) 29) single.infRung) := by
  rw [read_norm double he (by omega) h2]
  have hB : double.binade = 2 ^ 52 := rfl
  have m1 := Nat.mod_lt a (show 0 < double.binade from Nat.two_pow_pos _)
  show single.nearest _ _ _ = _
  have el : double.leastPlace = -1074 := by decide
  have es : single.leastPlace = -149 := by decide
  have ef : single.fractionBits = 23 := rfl
  have eb : single.binade = 2 ^ 23 := rfl
  rw [nearest_norm single _ (l := 52) (by omega) (by omega) (by rw [el, es, ef]; omega), el, es, ef, eb]
  unfold kept
  rw [if_pos (by omega)]
  rw [show ((-1074 : Int) + ((e - 1 : Nat) : Int) + ((52 : Nat) : Int) - ((23 : Nat) : Int) - (-149)).toNat = e - 897 by omega]

theorem widen_norm {a e : Nat} (he : a / single.binade % 2 ^ single.exponentBits = e) (h1 : 1 ≤ e) (h2 : e + 1 < 2 ^ single.exponentBits) :
    double.write (single.read a) = double.word (a / single.signWeight % 2 == 1) ((e + 895) * 2 ^ 52 + (single.binade + a % single.binade) * 2 ^ 29) := by
  rw [read_norm single he h1 h2]
  have hB : single.binade = 2 ^ 23 := rfl
  have m1 := Nat.mod_lt a (show 0 < single.binade from Nat.two_pow_pos _)
  show double.nearest _ _ _ = _
  have el : double.leastPlace = -1074 := by decide
  have es : single.leastPlace = -149 := by decide
  have ef : double.fractionBits = 52 := rfl
  have eb : double.binade = 2 ^ 52 := rfl
  have ei : double.infRung = 2047 * 2 ^ 52 := by decide
  have ee : 2 ^ single.exponentBits = 256 := by decide
  rw [ee] at h2
  rw [nearest_norm double _ (l := 23) (by omega) (by omega) (by rw [el, es, ef]; omega), el, es, ef, eb]
  unfold kept
  rw [if_neg (by omega)]
  rw [show ((-149 : Int) + ((e - 1 : Nat) : Int) + ((23 : Nat) : Int) - ((52 : Nat) : Int) - (-1074)).toNat = e + 895 by omega]
  rw [Nat.min_eq_left]
  rw [ei]
  omega
end Go.Proofs.Ytlpahmefebgdlaa.Fa
