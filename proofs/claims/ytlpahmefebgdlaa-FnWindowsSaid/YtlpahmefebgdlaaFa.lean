/- Float operations that the kernel reckons fast, proved equal to the model's. No condition. -/
import Derived.Test.YtlpahmefebgdlaaNr
namespace Go.Proofs.Ytlpahmefebgdlaa.Fa
open Ieee

/-- Rounded to the nearest, ties to even: n over 2 ^ d. -/
def rne (n d : Nat) : Nat := (2 * n + 2 ^ d - 1 + n / 2 ^ d % 2) / 2 ^ (d + 1)

theorem cut_rne (neg : Bool) {n d : Nat} (h : d ≤ n.log2 + 2) : Toward.even.cut neg n d = rne n d := by
  unfold Toward.cut rne
  simp only [Nat.shiftLeft_eq, Nat.one_mul]
  rw [Nat.min_eq_left h]
  have hp : 0 < 2 ^ d := Nat.two_pow_pos d
  have e : 2 ^ (d + 1) = 2 * 2 ^ d := by rw [Nat.pow_succ]; omega
  rw [e]
  generalize 2 ^ d = g at hp
  have hdm := Nat.div_add_mod n g
  have hlt := Nat.mod_lt n hp
  generalize n / g = q at hdm
  generalize n % g = r at hdm hlt
  subst hdm
  have hb : q % 2 < 2 := Nat.mod_lt _ (by decide)
  show q + (decide (g < 2 * r) || (g == 2 * r) && (q % 2 == 1)).toNat = _
  have key : 2 * (g * q + r) + g - 1 + q % 2 = 2 * g * q + (2 * r + g - 1 + q % 2) := by
    have : 2 * (g * q + r) = 2 * g * q + 2 * r := by rw [Nat.mul_add, Nat.mul_assoc]
    omega
  rw [key, Nat.mul_add_div (by omega)]
  congr 1
  by_cases h1 : g < 2 * r
  · have e1 : (decide (g < 2 * r) || (g == 2 * r) && (q % 2 == 1)) = true := by simp [h1]
    rw [e1]
    symm
    exact (Nat.div_eq_iff (by omega)).2 (by simp; omega)
  · by_cases h2 : g = 2 * r
    · subst h2
      rcases Nat.mod_two_eq_zero_or_one q with h3 | h3
      · rw [h3]
        have : (decide (2 * r < 2 * r) || (2 * r == 2 * r) && ((0 : Nat) == 1)) = false := by simp
        rw [this]; symm
        exact Nat.div_eq_of_lt (by omega)
      · rw [h3]
        have : (decide (2 * r < 2 * r) || (2 * r == 2 * r) && ((1 : Nat) == 1)) = true := by simp
        rw [this]; symm
        exact (Nat.div_eq_iff (by omega)).2 (by simp; omega)
    · have : (decide (g < 2 * r) || (g == 2 * r) && (q % 2 == 1)) = false := by simp [h1, h2]
      rw [this]; symm
      exact Nat.div_eq_of_lt (by omega)

theorem log2_of {n l : Nat} (h1 : 2 ^ l ≤ n) (h2 : n < 2 ^ (l + 1)) : n.log2 = l :=
  (Nat.log2_eq_iff (by have := Nat.two_pow_pos l; omega)).2 ⟨h1, h2⟩

/-- The significand that is kept. -/
def kept (fb mag l : Nat) : Nat := if fb ≤ l then rne mag (l - fb) else mag * 2 ^ (fb - l)

theorem nearest_norm (f : Format) (neg : Bool) {mag l : Nat} {place : Int} (h1 : 2 ^ l ≤ mag) (h2 : mag < 2 ^ (l + 1)) (h3 : f.leastPlace + f.fractionBits ≤ place + l) :
    f.nearest neg mag place = f.word neg (min ((place + l - f.fractionBits - f.leastPlace).toNat * f.binade + kept f.fractionBits mag l) f.infRung) := by
  have hl := log2_of h1 h2
  have hm : mag ≠ 0 := by have := Nat.two_pow_pos l; omega
  unfold Format.nearest
  rw [if_neg hm]
  dsimp only
  rw [hl, Int.max_eq_left (by omega)]
  congr 3
  unfold kept
  split
  · rename_i h
    have e1 : (place - (place + (l : Int) - (f.fractionBits : Int))).toNat = 0 := by omega
    have e2 : (place + (l : Int) - (f.fractionBits : Int) - place).toNat = l - f.fractionBits := by omega
    rw [e1, e2, Nat.shiftLeft_zero, cut_rne]
    omega
  · rename_i h
    have e1 : (place - (place + (l : Int) - (f.fractionBits : Int))).toNat = f.fractionBits - l := by omega
    have e2 : (place + (l : Int) - (f.fractionBits : Int) - place).toNat = 0 := by omega
    rw [e1, e2, Nat.shiftLeft_eq, cut_rne _ (by omega)]
    unfold rne
    rw [Nat.pow_zero, Nat.div_one]
    omega

theorem read_norm (f : Format) {a e : Nat} (he : a / f.binade % 2 ^ f.exponentBits = e) (h1 : 1 ≤ e) (h2 : e + 1 < 2 ^ f.exponentBits) :
    f.read a = .number (a / f.signWeight % 2 == 1) (f.binade + a % f.binade) (f.leastPlace + (e - 1 : Nat)) := by
  have hb : 0 < f.binade := Nat.two_pow_pos _
  have hs : f.signWeight = f.binade * 2 ^ f.exponentBits := by
    unfold Format.signWeight Format.binade
    rw [← Nat.pow_add, Nat.add_comm]
  have hd : a % f.signWeight / f.binade = e := by rw [hs, Nat.mod_mul_right_div_self, he]
  have hm : a % f.signWeight % f.binade = a % f.binade := by rw [hs]; exact Nat.mod_mul_right_mod _ _ _
  have g1 : ¬ a % f.signWeight < f.binade := by
    intro h
    rw [Nat.div_eq_of_lt h] at hd; omega
  have g2 : a % f.signWeight < f.infRung := by
    unfold Format.infRung
    refine (Nat.div_lt_iff_lt_mul hb).1 ?_
    rw [hd]; omega
  unfold Format.read
  dsimp only
  rw [if_neg g1, if_pos g2, hm, hd]

theorem read_zero (f : Format) {a : Nat} (h : a % f.signWeight = 0) : f.read a = .number (a / f.signWeight % 2 == 1) 0 f.leastPlace := by
  unfold Format.read
  dsimp only
  rw [h, if_pos (show 0 < f.binade from Nat.two_pow_pos _)]

theorem rne_lt_norm {n d fb : Nat} : 2 ^ fb * 2 ^ d ≤ n → 2 ^ fb ≤ rne n d := by
  intro h
  unfold rne
  have hp : 0 < 2 ^ d := Nat.two_pow_pos d
  rw [Nat.pow_succ]
  refine (Nat.le_div_iff_mul_le (by omega)).2 ?_
  have : 2 ^ fb * (2 ^ d * 2) = 2 * (2 ^ fb * 2 ^ d) := by rw [← Nat.mul_assoc, Nat.mul_comm]
  omega

theorem hi_bit {p k : Nat} (h1 : 2 ^ k ≤ p) (h2 : p < 2 ^ (k + 2)) : 2 ^ (k + p / 2 ^ (k + 1)) ≤ p ∧ p < 2 ^ (k + p / 2 ^ (k + 1) + 1) := by
  have e1 : 2 ^ (k + 1) = 2 * 2 ^ k := by rw [Nat.pow_succ]; omega
  have e2 : 2 ^ (k + 2) = 4 * 2 ^ k := by rw [Nat.pow_succ, Nat.pow_succ]; omega
  by_cases h : p < 2 ^ (k + 1)
  · rw [Nat.div_eq_of_lt h]; exact ⟨h1, h⟩
  · have : p / 2 ^ (k + 1) = 1 := (Nat.div_eq_iff (by omega)).2 (by omega)
    rw [this]; exact ⟨by omega, h2⟩

theorem mul_norm (f : Format) {a b ea eb p d : Nat} (ha : a / f.binade % 2 ^ f.exponentBits = ea) (ha1 : 1 ≤ ea) (ha2 : ea + 1 < 2 ^ f.exponentBits)
    (hb : b / f.binade % 2 ^ f.exponentBits = eb) (hb1 : 1 ≤ eb) (hb2 : eb + 1 < 2 ^ f.exponentBits)
    (hp : (f.binade + a % f.binade) * (f.binade + b % f.binade) = p) (hd : f.fractionBits + p / 2 ^ (2 * f.fractionBits + 1) = d) {c : Nat} (hc : (c : Int) = 2 - f.leastPlace) (hx : c ≤ ea + eb + d) :
    f.mul a b = some (f.word ((a / f.signWeight % 2 == 1) ^^ (b / f.signWeight % 2 == 1)) (min ((ea + eb + d - c) * f.binade + rne p d) f.infRung)) := by
  unfold Format.mul
  rw [read_norm f ha ha1 ha2, read_norm f hb hb1 hb2]
  simp only [Datum.product, Option.map_some, hp]
  show some (f.nearest _ p _) = _
  have hB : f.binade = 2 ^ f.fractionBits := rfl
  have m1 := Nat.mod_lt a (show 0 < f.binade from Nat.two_pow_pos _)
  have m2 := Nat.mod_lt b (show 0 < f.binade from Nat.two_pow_pos _)
  have p1 : 2 ^ (2 * f.fractionBits) ≤ p := by
    rw [← hp, Nat.two_mul, Nat.pow_add, ← hB]
    exact Nat.mul_le_mul (by omega) (by omega)
  have p2 : p < 2 ^ (2 * f.fractionBits + 2) := by
    rw [← hp]
    have : 2 ^ (2 * f.fractionBits + 2) = (2 * f.binade) * (2 * f.binade) := by
      rw [Nat.pow_add, Nat.two_mul, Nat.pow_add, ← hB]
      show f.binade * f.binade * (2 * 2) = _
      rw [Nat.mul_mul_mul_comm, Nat.mul_comm (f.binade * 2) _, Nat.mul_comm f.binade 2]
    rw [this]
    exact Nat.mul_lt_mul'' (by omega) (by omega)
  obtain ⟨l1, l2⟩ := hi_bit p1 p2
  have el : 2 * f.fractionBits + p / 2 ^ (2 * f.fractionBits + 1) = f.fractionBits + d := by omega
  rw [el] at l1 l2
  rw [nearest_norm f _ l1 l2 (by omega)]
  unfold kept
  rw [if_pos (by omega), show f.fractionBits + d - f.fractionBits = d by omega]
  rw [show (f.leastPlace + ((ea - 1 : Nat) : Int) + (f.leastPlace + ((eb - 1 : Nat) : Int)) + ((f.fractionBits + d : Nat) : Int) - (f.fractionBits : Int) - f.leastPlace).toNat = ea + eb + d - c by omega]

theorem div_norm (f : Format) {a b ea eb m n q h c : Nat} (ha : a / f.binade % 2 ^ f.exponentBits = ea) (ha1 : 1 ≤ ea) (ha2 : ea + 1 < 2 ^ f.exponentBits)
    (hb : b / f.binade % 2 ^ f.exponentBits = eb) (hb1 : 1 ≤ eb) (hb2 : eb + 1 < 2 ^ f.exponentBits)
    (hm : f.binade + a % f.binade = m) (hn : f.binade + b % f.binade = n)
    (hq : 2 * (m * 2 ^ (f.fractionBits + 2) / n) + (m * 2 ^ (f.fractionBits + 2) % n != 0).toNat = q) (hh : q / 2 ^ (f.fractionBits + 3) = h)
    (hc : (c : Int) = - f.leastPlace - f.fractionBits - 1) (hx : eb ≤ ea + c + h) :
    f.div a b = some (f.word ((a / f.signWeight % 2 == 1) ^^ (b / f.signWeight % 2 == 1)) (min ((ea + c + h - eb) * f.binade + rne q (2 + h)) f.infRung)) := by
  unfold Format.div
  rw [read_norm f ha ha1 ha2, read_norm f hb hb1 hb2]
  have hB : f.binade = 2 ^ f.fractionBits := rfl
  have m1 := Nat.mod_lt a (show 0 < f.binade from Nat.two_pow_pos _)
  have m2 := Nat.mod_lt b (show 0 < f.binade from Nat.two_pow_pos _)
  have e2 : 2 ^ (f.fractionBits + 1) = 2 * f.binade := by rw [Nat.pow_succ, hB]; omega
  have e3 : 2 ^ (f.fractionBits + 2) = 4 * f.binade := by rw [Nat.pow_succ, e2]; omega
  have lm : m.log2 = f.fractionBits := log2_of (by rw [← hB]; omega) (by rw [e2]; omega)
  have ln : n.log2 = f.fractionBits := log2_of (by rw [← hB]; omega) (by rw [e2]; omega)
  rw [hm, hn]
  simp only [Datum.quotient]
  rw [if_neg (by omega)]
  simp only [Option.map_some, lm, ln]
  have em : f.fractionBits + 2 + f.fractionBits - f.fractionBits = f.fractionBits + 2 := by omega
  rw [em, Nat.shiftLeft_eq, hq]
  show some (f.nearest _ q _) = _
  -- the quotient's bits
  have hn0 : 0 < n := by omega
  have e4 : 2 ^ (f.fractionBits + 3) = 8 * f.binade := by rw [Nat.pow_succ, e3]; omega
  have q1 : 2 ^ (f.fractionBits + 2) ≤ q := by
    have : 2 * f.binade ≤ m * 2 ^ (f.fractionBits + 2) / n := by
      refine (Nat.le_div_iff_mul_le hn0).2 ?_
      rw [e3]
      calc 2 * f.binade * n ≤ 2 * f.binade * (2 * f.binade) := Nat.mul_le_mul_left _ (by omega)
        _ = f.binade * (4 * f.binade) := by rw [Nat.mul_comm 2 f.binade, Nat.mul_assoc, Nat.mul_comm f.binade 2, ← Nat.mul_assoc 2 2]
        _ ≤ m * (4 * f.binade) := Nat.mul_le_mul_right _ (by omega)
    rw [e3]; omega
  have q2 : q < 2 ^ (f.fractionBits + 2 + 2) := by
    have : m * 2 ^ (f.fractionBits + 2) / n < 8 * f.binade := by
      refine (Nat.div_lt_iff_lt_mul hn0).2 ?_
      rw [e3]
      calc m * (4 * f.binade) < 2 * f.binade * (4 * f.binade) := Nat.mul_lt_mul_of_pos_right (by omega) (by omega)
        _ = 8 * f.binade * f.binade := by rw [Nat.mul_comm 2 f.binade, Nat.mul_assoc, ← Nat.mul_assoc 2 4, Nat.mul_comm]
        _ ≤ 8 * f.binade * n := Nat.mul_le_mul_left _ (by omega)
    have e5 : 2 ^ (f.fractionBits + 2 + 2) = 16 * f.binade := by rw [Nat.pow_succ, Nat.pow_succ, e3]; omega
    have := Bool.toNat_le (m * 2 ^ (f.fractionBits + 2) % n != 0)
    rw [e5]; omega
  obtain ⟨l1, l2⟩ := hi_bit q1 q2
  rw [show f.fractionBits + 2 + 1 = f.fractionBits + 3 by omega, hh] at l1 l2
  rw [nearest_norm f _ l1 l2 (by omega)]
  unfold kept
  clear q1 q2 e2 e3 e4 lm ln hh hq
  rw [if_pos (by omega), show f.fractionBits + 2 + h - f.fractionBits = 2 + h by omega]
  rw [show (f.leastPlace + ((ea - 1 : Nat) : Int) - (f.leastPlace + ((eb - 1 : Nat) : Int)) - ((f.fractionBits + 2 : Nat) : Int) - 1 + ((f.fractionBits + 2 + h : Nat) : Int) - (f.fractionBits : Int) - f.leastPlace).toNat = ea + c + h - eb by omega]

theorem sum_norm (f : Format) (s : Bool) {mag l e : Nat} (h1 : 2 ^ l ≤ mag) (h2 : mag < 2 ^ (l + 1)) (he : 1 ≤ e) (hx : f.fractionBits + 1 ≤ e + l) :
    f.nearest s mag (f.leastPlace + ((e - 1 : Nat) : Int)) = f.word s (min ((e + l - (f.fractionBits + 1)) * f.binade + kept f.fractionBits mag l) f.infRung) := by
  rw [nearest_norm f _ h1 h2 (by omega)]
  rw [show (f.leastPlace + ((e - 1 : Nat) : Int) + (l : Int) - (f.fractionBits : Int) - f.leastPlace).toNat = e + l - (f.fractionBits + 1) by omega]

theorem signed_shl (s : Bool) (m k : Nat) : signed s m k = if s then -((m * 2 ^ k : Nat) : Int) else ((m * 2 ^ k : Nat) : Int) := by
  unfold signed; rw [Nat.shiftLeft_eq]

theorem sum_comm (x y : Datum) : x.sum y = y.sum x := by
  cases x <;> cases y <;> simp only [Datum.sum]
  · rename_i s m i t n j
    rw [Int.min_comm j i, Int.add_comm (signed t n _), Bool.and_comm t s]
  · rename_i s t
    cases s <;> cases t <;> rfl

theorem add_comm (f : Format) (a b : Nat) : f.add a b = f.add b a := by
  unfold Format.add; rw [sum_comm]

/-- A sum of two numbers, of which the second's place is the lower. -/
theorem add_ge (f : Format) {a b ea eb x y : Nat} (ha : a / f.binade % 2 ^ f.exponentBits = ea) (ha1 : 1 ≤ ea) (ha2 : ea + 1 < 2 ^ f.exponentBits)
    (hb : b / f.binade % 2 ^ f.exponentBits = eb) (hb1 : 1 ≤ eb) (hb2 : eb + 1 < 2 ^ f.exponentBits) (hab : eb ≤ ea)
    (hx : (f.binade + a % f.binade) * 2 ^ (ea - eb) = x) (hy : f.binade + b % f.binade = y) :
    f.add a b = some (
      if (a / f.signWeight + b / f.signWeight) % 2 = 0 then f.nearest (a / f.signWeight % 2 == 1) (x + y) (f.leastPlace + ((eb - 1 : Nat) : Int))
      else if y < x then f.nearest (a / f.signWeight % 2 == 1) (x - y) (f.leastPlace + ((eb - 1 : Nat) : Int))
      else if x < y then f.nearest (b / f.signWeight % 2 == 1) (y - x) (f.leastPlace + ((eb - 1 : Nat) : Int))
      else 0) := by
  have hB : 0 < f.binade := Nat.two_pow_pos _
  unfold Format.add
  rw [read_norm f ha ha1 ha2, read_norm f hb hb1 hb2]
  simp only [Datum.sum, Option.map_some]
  rw [show min (f.leastPlace + ((ea - 1 : Nat) : Int)) (f.leastPlace + ((eb - 1 : Nat) : Int)) = f.leastPlace + ((eb - 1 : Nat) : Int) by omega]
  rw [show (f.leastPlace + ((ea - 1 : Nat) : Int) - (f.leastPlace + ((eb - 1 : Nat) : Int))).toNat = ea - eb by omega]
  rw [show (f.leastPlace + ((eb - 1 : Nat) : Int) - (f.leastPlace + ((eb - 1 : Nat) : Int))).toNat = 0 by omega]
  rw [signed_shl, signed_shl, hx, hy, Nat.pow_zero, Nat.mul_one]
  have hy0 : 0 < y := by omega
  congr 1
  have h1 := Nat.mod_two_eq_zero_or_one (a / f.signWeight)
  have h2 := Nat.mod_two_eq_zero_or_one (b / f.signWeight)
  have hadd : (a / f.signWeight + b / f.signWeight) % 2 = (a / f.signWeight % 2 + b / f.signWeight % 2) % 2 := Nat.add_mod _ _ _
  rw [hadd]
  show f.nearest _ _ _ = _
  have z0 : ((0 : Nat) == 1) = false := rfl
  have z1 : ((1 : Nat) == 1) = true := rfl
  have e00 : (0 + 0) % 2 = 0 := rfl
  have e01 : ¬(0 + 1) % 2 = 0 := by decide
  rcases h1 with h1 | h1 <;> rcases h2 with h2 | h2 <;> rw [h1, h2] <;> simp only [z0, z1, Bool.false_eq_true, if_false, if_true, e00, e01]
  · rw [if_neg (by omega), decide_eq_false (by omega)]
    rw [show ((x : Int) + (y : Int)).natAbs = x + y by omega]
  · by_cases c1 : y < x
    · rw [if_pos c1, if_neg (by omega), decide_eq_false (by omega)]
      rw [show ((x : Int) + -(y : Int)).natAbs = x - y by omega]
    · rw [if_neg c1]
      by_cases c2 : x < y
      · rw [if_pos c2, if_neg (by omega), decide_eq_true (by omega)]
        rw [show ((x : Int) + -(y : Int)).natAbs = y - x by omega]
      · rw [if_neg c2, if_pos (by omega), show ((x : Int) + -(y : Int)).natAbs = 0 by omega]
        simp [Format.nearest, Format.word]
  · by_cases c1 : y < x
    · rw [if_pos c1, if_neg (by omega), decide_eq_true (by omega)]
      rw [show (-(x : Int) + (y : Int)).natAbs = x - y by omega]
    · rw [if_neg c1]
      by_cases c2 : x < y
      · rw [if_pos c2, if_neg (by omega), decide_eq_false (by omega)]
        rw [show (-(x : Int) + (y : Int)).natAbs = y - x by omega]
      · rw [if_neg c2, if_pos (by omega), show (-(x : Int) + (y : Int)).natAbs = 0 by omega]
        simp [Format.nearest, Format.word]
  · rw [if_neg (by omega), decide_eq_true (by omega)]
    rw [show (-(x : Int) + -(y : Int)).natAbs = x + y by omega]

-- roots
theorem rootFrom_spec (n : Nat) : ∀ (todo root : Nat), root * root ≤ n → n < (root + 2 ^ todo) * (root + 2 ^ todo) →
    Datum.rootFrom n todo root * Datum.rootFrom n todo root ≤ n ∧ n < (Datum.rootFrom n todo root + 1) * (Datum.rootFrom n todo root + 1)
  | 0, root, h1, h2 => ⟨h1, h2⟩
  | t + 1, root, h1, h2 => by
    unfold Datum.rootFrom
    dsimp only
    rw [Nat.shiftLeft_eq, Nat.one_mul]
    split
    · rename_i h
      refine rootFrom_spec n t _ h ?_
      rw [Nat.add_assoc, ← Nat.two_mul, ← Nat.pow_succ']
      exact h2
    · rename_i h
      exact rootFrom_spec n t _ h1 (by omega)

theorem root_unique {n r w : Nat} (h1 : r * r ≤ n) (h2 : n < (r + 1) * (r + 1)) (h3 : w * w ≤ n) (h4 : n < (w + 1) * (w + 1)) : r = w := by
  rcases Nat.lt_trichotomy r w with h | h | h
  · have : (r + 1) * (r + 1) ≤ w * w := Nat.mul_le_mul h h
    omega
  · exact h
  · have : (w + 1) * (w + 1) ≤ r * r := Nat.mul_le_mul h h
    omega

theorem rootFrom_eq {n w : Nat} (h3 : w * w ≤ n) (h4 : n < (w + 1) * (w + 1)) : Datum.rootFrom n (n.log2 / 2 + 1) 0 = w := by
  have h := rootFrom_spec n (n.log2 / 2 + 1) 0 (Nat.zero_le _) (by
    rw [Nat.zero_add, ← Nat.pow_add]
    refine Nat.lt_of_lt_of_le Nat.lt_log2_self (Nat.pow_le_pow_right (by decide) (by omega)))
  exact root_unique h.1 h.2 h3 h4

theorem sqrt_norm (f : Format) {a ea n w more c : Nat} (ha : a / f.binade % 2 ^ f.exponentBits = ea) (ha1 : 1 ≤ ea) (ha2 : ea + 1 < 2 ^ f.exponentBits) (hs : a / f.signWeight % 2 = 0)
    (hc : (c : Int) = - f.leastPlace + 3) (hm : f.fractionBits + 4 + (ea + c + f.fractionBits) % 2 = more)
    (hn : (f.binade + a % f.binade) * 2 ^ more = n) (h3 : w * w ≤ n) (h4 : n < (w + 1) * (w + 1)) (hx : more ≤ ea + c) :
    f.sqrt a = some (min ((ea + c - more) / 2 * f.binade + rne (2 * w + (w * w != n).toNat) 3) f.infRung) := by
  unfold Format.sqrt
  rw [read_norm f ha ha1 ha2, hs]
  have hB : f.binade = 2 ^ f.fractionBits := rfl
  have m1 := Nat.mod_lt a (show 0 < f.binade from Nat.two_pow_pos _)
  have e2 : 2 ^ (f.fractionBits + 1) = 2 * f.binade := by rw [Nat.pow_succ, hB]; omega
  have lm : (f.binade + a % f.binade).log2 = f.fractionBits := log2_of (by rw [← hB]; omega) (by rw [e2]; omega)
  have hb0 : 0 < f.binade := Nat.two_pow_pos _
  simp only [Datum.root, lm, show ((0 : Nat) == 1) = false from rfl, Bool.false_eq_true, if_false]
  rw [if_neg (by omega)]
  rw [show 2 * (f.fractionBits + 2) - f.fractionBits = f.fractionBits + 4 by omega]
  have em : f.fractionBits + 4 + ((f.leastPlace + ((ea - 1 : Nat) : Int) - ((f.fractionBits + 4 : Nat) : Int)) % 2).toNat = more := by
    rw [← hm]; omega
  rw [em, Nat.shiftLeft_eq, hn, rootFrom_eq h3 h4]
  simp only [Option.map_some]
  show some (f.nearest false (2 * w + (w * w != n).toNat) _) = _
  -- the root's bits
  have hmore : f.fractionBits + 4 ≤ more ∧ more ≤ f.fractionBits + 5 := by omega
  have n1 : 2 ^ (f.fractionBits + 2) * 2 ^ (f.fractionBits + 2) ≤ n := by
    rw [← hn, ← Nat.pow_add]
    calc 2 ^ (f.fractionBits + 2 + (f.fractionBits + 2)) = 2 ^ f.fractionBits * 2 ^ (f.fractionBits + 4) := by rw [← Nat.pow_add]; congr 1; omega
      _ ≤ _ := Nat.mul_le_mul (by rw [← hB]; omega) (Nat.pow_le_pow_right (by decide) hmore.1)
  have n2 : n < 2 ^ (f.fractionBits + 3) * 2 ^ (f.fractionBits + 3) := by
    rw [← hn, ← Nat.pow_add]
    calc (f.binade + a % f.binade) * 2 ^ more < 2 ^ (f.fractionBits + 1) * 2 ^ more := Nat.mul_lt_mul_of_pos_right (by rw [e2]; omega) (Nat.two_pow_pos _)
      _ ≤ 2 ^ (f.fractionBits + 1) * 2 ^ (f.fractionBits + 5) := Nat.mul_le_mul_left _ (Nat.pow_le_pow_right (by decide) hmore.2)
      _ = 2 ^ (f.fractionBits + 3 + (f.fractionBits + 3)) := by rw [← Nat.pow_add]; congr 1; omega
  have w1 : 2 ^ (f.fractionBits + 2) ≤ w := by
    refine Nat.le_of_not_lt fun h => ?_
    have : (w + 1) * (w + 1) ≤ 2 ^ (f.fractionBits + 2) * 2 ^ (f.fractionBits + 2) := Nat.mul_le_mul h h
    omega
  have w2 : w < 2 ^ (f.fractionBits + 3) := by
    refine Nat.lt_of_not_le fun h => ?_
    have : 2 ^ (f.fractionBits + 3) * 2 ^ (f.fractionBits + 3) ≤ w * w := Nat.mul_le_mul h h
    omega
  have l1 : 2 ^ (f.fractionBits + 3) ≤ 2 * w + (w * w != n).toNat := by
    rw [Nat.pow_succ]; omega
  have l2 : 2 * w + (w * w != n).toNat < 2 ^ (f.fractionBits + 3 + 1) := by
    have := Bool.toNat_le (w * w != n)
    rw [Nat.pow_succ _ (f.fractionBits + 3)]; omega
  rw [nearest_norm f _ l1 l2 (by omega)]
  unfold kept
  clear l1 l2 w1 w2 n1 n2 e2 h3 h4 hn
  rw [if_pos (by omega), show f.fractionBits + 3 - f.fractionBits = 3 by omega]
  rw [show ((f.leastPlace + ((ea - 1 : Nat) : Int) - (more : Int)) / 2 - 1 + ((f.fractionBits + 3 : Nat) : Int) - (f.fractionBits : Int) - f.leastPlace).toNat = (ea + c - more) / 2 by omega]
  rfl

-- what the kernel runs
/-- A number reckoned before it is handed on. -/
noncomputable def fc {α : Type} (n : Nat) (k : Nat → α) : α := Nat.rec (k (nat_lit 0)) (fun m _ => k (Nat.succ m)) n
theorem fc_eq {α : Type} (n : Nat) (k : Nat → α) : fc n k = k n := by cases n <;> rfl
/-- One way for nought, another for the rest. -/
noncomputable def pz {α : Type} (n : Nat) (z s : α) : α := Nat.rec z (fun _ _ => s) n
theorem pz_zero {α : Type} (z s : α) : pz 0 z s = z := rfl
theorem pz_pos {α : Type} {n : Nat} (h : n ≠ 0) (z s : α) : pz n z s = s := by
  cases n with
  | zero => exact absurd rfl h
  | succ n => rfl
theorem pz_eq {α : Type} (n : Nat) (z s : α) : pz n z s = if n = 0 then z else s := by
  cases n with
  | zero => rfl
  | succ n => rfl
/-- Two ways. -/
noncomputable def bb {α : Type} (c : Bool) (t e : α) : α := Bool.rec e t c
theorem bb_eq {α : Type} (c : Bool) (t e : α) : bb c t e = if c = true then t else e := by cases c <;> rfl

noncomputable def rneK (n d : Nat) : Nat := fc (Nat.pow (nat_lit 2) d) fun g => Nat.div (Nat.add (Nat.sub (Nat.add (Nat.add n n) g) (nat_lit 1)) (Nat.mod (Nat.div n g) (nat_lit 2))) (Nat.add g g)
theorem rneK_eq (n d : Nat) : rneK n d = rne n d := by
  unfold rneK rne
  rw [fc_eq]
  show (n + n + 2 ^ d - 1 + n / 2 ^ d % 2) / (2 ^ d + 2 ^ d) = _
  rw [Nat.pow_succ, Nat.mul_two, ← Nat.two_mul]

section
variable (B S EM FB C I1 : Nat)

/-- The word of a sign and a rung, if the rung is one of a number. -/
noncomputable def outK (sg r : Nat) (slow : Option Nat) : Option Nat := bb (Nat.ble r I1) (fc (Nat.add (Nat.mul sg S) r) fun w => some w) slow

noncomputable def mulK (a b : Nat) (slow : Option Nat) : Option Nat :=
  fc a fun a => fc b fun b => fc (Nat.mod (Nat.div a B) EM) fun ea => fc (Nat.mod (Nat.div b B) EM) fun eb =>
  pz (Nat.mul (Nat.mul ea eb) (Nat.mul (Nat.sub EM (Nat.succ ea)) (Nat.sub EM (Nat.succ eb)))) slow
  (fc (Nat.mul (Nat.add B (Nat.mod a B)) (Nat.add B (Nat.mod b B))) fun p =>
   fc (Nat.add FB (Nat.div p (Nat.pow (nat_lit 2) (Nat.succ (Nat.add FB FB))))) fun d =>
   fc (Nat.add (Nat.add ea eb) d) fun x =>
   bb (Nat.ble C x) (fc (Nat.add (Nat.mul (Nat.sub x C) B) (rneK p d)) fun r =>
     outK S I1 (Nat.mod (Nat.add (Nat.div a S) (Nat.div b S)) (nat_lit 2)) r slow) slow)

noncomputable def divK (a b : Nat) (slow : Option Nat) : Option Nat :=
  fc a fun a => fc b fun b => fc (Nat.mod (Nat.div a B) EM) fun ea => fc (Nat.mod (Nat.div b B) EM) fun eb =>
  pz (Nat.mul (Nat.mul ea eb) (Nat.mul (Nat.sub EM (Nat.succ ea)) (Nat.sub EM (Nat.succ eb)))) slow
  (fc (Nat.mul (Nat.add B (Nat.mod a B)) (Nat.pow (nat_lit 2) (Nat.add FB (nat_lit 2)))) fun m =>
   fc (Nat.add B (Nat.mod b B)) fun n =>
   fc (Nat.add (Nat.mul (nat_lit 2) (Nat.div m n)) (pz (Nat.mod m n) (nat_lit 0) (nat_lit 1))) fun q =>
   fc (Nat.div q (Nat.pow (nat_lit 2) (Nat.add FB (nat_lit 3)))) fun h =>
   fc (Nat.add (Nat.add ea C) h) fun x =>
   bb (Nat.ble eb x) (fc (Nat.add (Nat.mul (Nat.sub x eb) B) (rneK q (Nat.add (nat_lit 2) h))) fun r =>
     outK S I1 (Nat.mod (Nat.add (Nat.div a S) (Nat.div b S)) (nat_lit 2)) r slow) slow)

/-- What is kept of a sum, its digits' number being l if that is so. -/
noncomputable def finK (sg mag e l : Nat) (slow : Option Nat) : Option Nat :=
  bb (Nat.beq (Nat.div mag (Nat.pow (nat_lit 2) l)) (nat_lit 1)) (fc (Nat.add e l) fun x =>
   bb (Nat.ble (Nat.succ FB) x) (fc (Nat.add (Nat.mul (Nat.sub x (Nat.succ FB)) B) (bb (Nat.ble FB l) (rneK mag (Nat.sub l FB)) (Nat.mul mag (Nat.pow (nat_lit 2) (Nat.sub FB l))))) fun r =>
     outK S I1 sg r slow) slow) slow

noncomputable def lg1 (t c : Nat) : Nat := fc (Nat.div t (nat_lit 2)) fun h => pz h c (Nat.add c (nat_lit 1))
noncomputable def lg2 (t c : Nat) : Nat := fc (Nat.div t (nat_lit 4)) fun h => pz h (lg1 t c) (lg1 h (Nat.add c (nat_lit 2)))
noncomputable def lg4 (t c : Nat) : Nat := fc (Nat.div t (nat_lit 16)) fun h => pz h (lg2 t c) (lg2 h (Nat.add c (nat_lit 4)))
noncomputable def lg8 (t c : Nat) : Nat := fc (Nat.div t (nat_lit 256)) fun h => pz h (lg4 t c) (lg4 h (Nat.add c (nat_lit 8)))
noncomputable def lg16 (t c : Nat) : Nat := fc (Nat.div t (nat_lit 65536)) fun h => pz h (lg8 t c) (lg8 h (Nat.add c (nat_lit 16)))
noncomputable def lg32 (t c : Nat) : Nat := fc (Nat.div t (nat_lit 4294967296)) fun h => pz h (lg16 t c) (lg16 h (Nat.add c (nat_lit 32)))
noncomputable def lg64 (t c : Nat) : Nat := fc (Nat.div t (nat_lit 18446744073709551616)) fun h => pz h (lg32 t c) (lg32 h (Nat.add c (nat_lit 64)))

noncomputable def addK1 (a b ea eb : Nat) (slow : Option Nat) : Option Nat :=
  fc (Nat.sub ea eb) fun k => fc (Nat.mul (Nat.add B (Nat.mod a B)) (Nat.pow (nat_lit 2) k)) fun x => fc (Nat.add B (Nat.mod b B)) fun y =>
  pz (Nat.mod (Nat.add (Nat.div a S) (Nat.div b S)) (nat_lit 2))
   (fc (Nat.add x y) fun t => fc (Nat.add FB k) fun g => fc (Nat.add g (Nat.div t (Nat.pow (nat_lit 2) (Nat.succ g)))) fun l => finK B S FB I1 (Nat.mod (Nat.div a S) (nat_lit 2)) t eb l slow)
   (fc (Nat.sub x y) fun t => pz t
     (fc (Nat.sub y x) fun t => pz t (some (nat_lit 0)) (fc (lg64 t (nat_lit 0)) fun l => finK B S FB I1 (Nat.mod (Nat.div b S) (nat_lit 2)) t eb l slow))
     (fc (lg64 t (nat_lit 0)) fun l => finK B S FB I1 (Nat.mod (Nat.div a S) (nat_lit 2)) t eb l slow))

noncomputable def addK (a b : Nat) (slow : Option Nat) : Option Nat :=
  fc a fun a => fc b fun b => fc (Nat.mod (Nat.div a B) EM) fun ea => fc (Nat.mod (Nat.div b B) EM) fun eb =>
  pz (Nat.mul (Nat.mul ea eb) (Nat.mul (Nat.sub EM (Nat.succ ea)) (Nat.sub EM (Nat.succ eb)))) slow
  (bb (Nat.ble eb ea) (addK1 B S FB I1 a b ea eb slow) (addK1 B S FB I1 b a eb ea slow))

noncomputable def newton (n w : Nat) : Nat := Nat.div (Nat.add w (Nat.div n w)) (nat_lit 2)
noncomputable def sqrtK (a : Nat) (slow : Option Nat) : Option Nat :=
  fc a fun a => fc (Nat.mod (Nat.div a B) EM) fun ea =>
  pz (Nat.mul ea (Nat.sub EM (Nat.succ ea))) slow (pz (Nat.mod (Nat.div a S) (nat_lit 2))
   (fc (Nat.add (Nat.add FB (nat_lit 4)) (Nat.mod (Nat.add (Nat.add ea C) FB) (nat_lit 2))) fun more =>
    fc (Nat.mul (Nat.add B (Nat.mod a B)) (Nat.pow (nat_lit 2) more)) fun n =>
    fc (Nat.add (Nat.mul (nat_lit 2) B) (Nat.div n (Nat.mul (nat_lit 8) B))) fun w => fc (newton n w) fun w => fc (newton n w) fun w => fc (newton n w) fun w => fc (newton n w) fun w => fc (newton n w) fun w => fc (newton n w) fun w =>
    fc (bb (Nat.ble (Nat.mul w w) n) w (Nat.sub w (nat_lit 1))) fun w =>
    fc (Nat.mul w w) fun ww =>
    bb (Nat.ble ww n) (bb (Nat.ble (Nat.succ n) (Nat.mul (Nat.succ w) (Nat.succ w)))
      (fc (Nat.add ea C) fun x => bb (Nat.ble more x) (fc (Nat.add (Nat.mul (Nat.div (Nat.sub x more) (nat_lit 2)) B) (rneK (Nat.add (Nat.mul (nat_lit 2) w) (pz (Nat.sub n ww) (nat_lit 0) (nat_lit 1))) (nat_lit 3))) fun r =>
        outK S I1 (nat_lit 0) r slow) slow) slow) slow) slow)
end

theorem guard_ne {ea eb EM : Nat} (h : ea * eb * ((EM - (ea + 1)) * (EM - (eb + 1))) ≠ 0) : 1 ≤ ea ∧ ea + 1 < EM ∧ 1 ≤ eb ∧ eb + 1 < EM := by
  refine ⟨Nat.pos_of_ne_zero fun h0 => h ?_, Nat.lt_of_not_le fun h0 => h ?_, Nat.pos_of_ne_zero fun h0 => h ?_, Nat.lt_of_not_le fun h0 => h ?_⟩
  · simp [h0]
  · simp [Nat.sub_eq_zero_of_le h0]
  · simp [h0]
  · simp [Nat.sub_eq_zero_of_le h0]

theorem word_of (f : Format) (s : Bool) (r : Nat) : f.word s r = s.toNat * f.signWeight + r := by
  unfold Format.word; cases s <;> simp

theorem toNat_sign (n : Nat) : (n % 2 == 1).toNat = n % 2 := by
  rcases Nat.mod_two_eq_zero_or_one n with h | h <;> rw [h] <;> rfl
theorem toNat_xor (m n : Nat) : ((m % 2 == 1) ^^ (n % 2 == 1)).toNat = (m + n) % 2 := by
  rw [Nat.add_mod]
  rcases Nat.mod_two_eq_zero_or_one m with h | h <;> rcases Nat.mod_two_eq_zero_or_one n with h' | h' <;> rw [h, h'] <;> rfl

theorem out_eq (f : Format) {I1 sg r : Nat} {slow res : Option Nat} (hI : I1 + 1 = f.infRung) (hs : slow = res) (h : r ≤ I1 → some (sg * f.signWeight + min r f.infRung) = res) : outK f.signWeight I1 sg r slow = res := by
  unfold outK
  rw [bb_eq]
  split
  · rename_i hr
    have hr' : r ≤ I1 := Nat.le_of_ble_eq_true hr
    rw [fc_eq, ← h hr', Nat.min_eq_left (by omega)]
    rfl
  · exact hs

theorem mulK_eq (f : Format) {C I1 : Nat} (hC : (C : Int) = 2 - f.leastPlace) (hI : I1 + 1 = f.infRung) (a b : Nat) :
    mulK f.binade f.signWeight (2 ^ f.exponentBits) f.fractionBits C I1 a b (f.mul a b) = f.mul a b := by
  unfold mulK
  simp only [fc_eq]
  rw [pz_eq]
  split
  · rfl
  · rename_i hg
    obtain ⟨h1, h2, h3, h4⟩ := guard_ne hg
    rw [bb_eq]
    split
    · rename_i hx
      refine out_eq f hI rfl fun _ => ?_
      rw [mul_norm f (a := a) (b := b) rfl h1 h2 rfl h3 h4 (p := (f.binade + a % f.binade) * (f.binade + b % f.binade)) rfl (d := f.fractionBits + ((f.binade + a % f.binade) * (f.binade + b % f.binade)) / 2 ^ (2 * f.fractionBits + 1)) rfl hC ?_, word_of, toNat_xor]
      · rw [show 2 * f.fractionBits = f.fractionBits + f.fractionBits by omega, rneK_eq]; rfl
      · have := Nat.le_of_ble_eq_true hx
        rw [show 2 * f.fractionBits = f.fractionBits + f.fractionBits by omega]
        exact this
    · rfl

theorem divK_eq (f : Format) {C I1 : Nat} (hC : (C : Int) = - f.leastPlace - f.fractionBits - 1) (hI : I1 + 1 = f.infRung) (a b : Nat) :
    divK f.binade f.signWeight (2 ^ f.exponentBits) f.fractionBits C I1 a b (f.div a b) = f.div a b := by
  unfold divK
  simp only [fc_eq]
  rw [pz_eq]
  split
  · rfl
  · rename_i hg
    obtain ⟨h1, h2, h3, h4⟩ := guard_ne hg
    rw [bb_eq]
    split
    · rename_i hx
      refine out_eq f hI rfl fun _ => ?_
      have hst : ∀ n : Nat, pz n (nat_lit 0) (nat_lit 1) = (n != 0).toNat := by intro n; cases n <;> rfl
      rw [hst] at hx
      rw [hst]
      rw [div_norm f (a := a) (b := b) rfl h1 h2 rfl h3 h4 (m := f.binade + a % f.binade) (n := f.binade + b % f.binade) rfl rfl rfl rfl hC (Nat.le_of_ble_eq_true hx), word_of, toNat_xor, rneK_eq]
      rfl
    · rfl

theorem fin_eq1 (f : Format) {I1 sg mag e l : Nat} {s : Bool} {slow res : Option Nat} (hI : I1 + 1 = f.infRung) (hs : slow = res) (he : 1 ≤ e) (hsg : s.toNat = sg)
    (h : some (f.nearest s mag (f.leastPlace + ((e - 1 : Nat) : Int))) = res) : finK f.binade f.signWeight f.fractionBits I1 sg mag e l slow = res := by
  unfold finK
  rw [bb_eq]
  split
  · rename_i h1
    have h1' : mag / 2 ^ l = 1 := Nat.eq_of_beq_eq_true h1
    have hp := Nat.two_pow_pos l
    have hm := (Nat.div_eq_iff hp).1 h1'
    rw [fc_eq, bb_eq]
    split
    · rename_i h2
      have h2' := Nat.le_of_ble_eq_true h2
      rw [fc_eq]
      refine out_eq f hI hs fun _ => ?_
      rw [← h, sum_norm f s (l := l) (by omega) (by rw [Nat.pow_succ]; omega) he (by exact h2'), word_of, hsg]
      congr 4
      unfold kept
      rw [bb_eq]
      split
      · rename_i h3
        have h3' := Nat.le_of_ble_eq_true h3
        rw [if_pos h3', rneK_eq]; rfl
      · rename_i h3
        rw [if_neg (fun h4 => h3 (Nat.ble_eq_true_of_le h4))]; rfl
    · exact hs
  · exact hs

theorem addK1_eq (f : Format) {I1 a b ea eb : Nat} {slow : Option Nat} (hI : I1 + 1 = f.infRung) (ha : a / f.binade % 2 ^ f.exponentBits = ea) (ha1 : 1 ≤ ea) (ha2 : ea + 1 < 2 ^ f.exponentBits)
    (hb : b / f.binade % 2 ^ f.exponentBits = eb) (hb1 : 1 ≤ eb) (hb2 : eb + 1 < 2 ^ f.exponentBits) (hab : eb ≤ ea) (hs : slow = f.add a b) :
    addK1 f.binade f.signWeight f.fractionBits I1 a b ea eb slow = f.add a b := by
  have key := add_ge f ha ha1 ha2 hb hb1 hb2 hab rfl rfl
  unfold addK1
  simp only [fc_eq]
  rw [pz_eq]
  split
  · rename_i h0
    refine fin_eq1 f hI hs hb1 (toNat_sign _) ?_
    have h0' : (a / f.signWeight + b / f.signWeight) % 2 = 0 := h0
    rw [key, if_pos h0']; rfl
  · rename_i h0
    have h0' : ¬(a / f.signWeight + b / f.signWeight) % 2 = 0 := h0
    rw [if_neg h0'] at key
    rw [pz_eq]
    split
    · rename_i h1
      have h1' : (f.binade + a % f.binade) * 2 ^ (ea - eb) - (f.binade + b % f.binade) = 0 := h1
      rw [if_neg (by omega)] at key
      rw [pz_eq]
      split
      · rename_i h2
        have h2' : f.binade + b % f.binade - (f.binade + a % f.binade) * 2 ^ (ea - eb) = 0 := h2
        rw [key, if_neg (by omega)]
      · rename_i h2
        have h2' : ¬f.binade + b % f.binade - (f.binade + a % f.binade) * 2 ^ (ea - eb) = 0 := h2
        refine fin_eq1 f hI hs hb1 (toNat_sign _) ?_
        rw [key, if_pos (by omega)]; rfl
    · rename_i h1
      have h1' : ¬(f.binade + a % f.binade) * 2 ^ (ea - eb) - (f.binade + b % f.binade) = 0 := h1
      refine fin_eq1 f hI hs hb1 (toNat_sign _) ?_
      rw [key, if_pos (by omega)]; rfl

theorem addK_eq (f : Format) {I1 : Nat} (hI : I1 + 1 = f.infRung) (a b : Nat) :
    addK f.binade f.signWeight (2 ^ f.exponentBits) f.fractionBits I1 a b (f.add a b) = f.add a b := by
  unfold addK
  simp only [fc_eq]
  rw [pz_eq]
  split
  · rfl
  · rename_i hg
    obtain ⟨h1, h2, h3, h4⟩ := guard_ne hg
    rw [bb_eq]
    split
    · rename_i hx
      exact addK1_eq f hI rfl h1 h2 rfl h3 h4 (Nat.le_of_ble_eq_true hx) rfl
    · rename_i hx
      rw [add_comm f a b]
      refine addK1_eq f hI rfl h3 h4 rfl h1 h2 ?_ rfl
      have : ¬ b / f.binade % 2 ^ f.exponentBits ≤ a / f.binade % 2 ^ f.exponentBits := fun h => hx (Nat.ble_eq_true_of_le h)
      exact Nat.le_of_lt (Nat.lt_of_not_le this)

theorem sqrtK_eq (f : Format) {C I1 : Nat} (hC : (C : Int) = - f.leastPlace + 3) (hI : I1 + 1 = f.infRung) (a : Nat) :
    sqrtK f.binade f.signWeight (2 ^ f.exponentBits) f.fractionBits C I1 a (f.sqrt a) = f.sqrt a := by
  unfold sqrtK
  simp only [fc_eq]
  rw [pz_eq]
  split
  · rfl
  · rename_i hg
    have h1 : 1 ≤ a / f.binade % 2 ^ f.exponentBits := Nat.pos_of_ne_zero fun h0 => hg (by show a / f.binade % 2 ^ f.exponentBits * _ = 0; rw [h0, Nat.zero_mul])
    have h2 : a / f.binade % 2 ^ f.exponentBits + 1 < 2 ^ f.exponentBits := Nat.lt_of_not_le fun h0 => hg (by show _ * (2 ^ f.exponentBits - (a / f.binade % 2 ^ f.exponentBits + 1)) = 0; rw [Nat.sub_eq_zero_of_le h0, Nat.mul_zero])
    rw [pz_eq]
    split
    · rename_i hs
      generalize bb (α := Nat) _ _ _ = w
      rw [bb_eq]
      split
      · rename_i h3
        rw [bb_eq]
        split
        · rename_i h4
          rw [bb_eq]
          split
          · rename_i h5
            refine out_eq f hI rfl fun _ => ?_
            have hw3 := Nat.le_of_ble_eq_true h3
            have hst : pz (Nat.sub (Nat.mul (Nat.add f.binade (Nat.mod a f.binade)) (Nat.pow 2 (Nat.add (Nat.add f.fractionBits 4) (Nat.mod (Nat.add (Nat.add (Nat.mod (Nat.div a f.binade) (2 ^ f.exponentBits)) C) f.fractionBits) 2)))) (Nat.mul w w)) (nat_lit 0) (nat_lit 1) =
                (w * w != (f.binade + a % f.binade) * 2 ^ (f.fractionBits + 4 + (a / f.binade % 2 ^ f.exponentBits + C + f.fractionBits) % 2)).toNat := by
              rw [pz_eq]
              have hw3' : w * w ≤ (f.binade + a % f.binade) * 2 ^ (f.fractionBits + 4 + (a / f.binade % 2 ^ f.exponentBits + C + f.fractionBits) % 2) := hw3
              show (if (f.binade + a % f.binade) * 2 ^ (f.fractionBits + 4 + (a / f.binade % 2 ^ f.exponentBits + C + f.fractionBits) % 2) - w * w = 0 then (nat_lit 0) else (nat_lit 1)) = _
              split
              · rename_i h6
                rw [show w * w = (f.binade + a % f.binade) * 2 ^ (f.fractionBits + 4 + (a / f.binade % 2 ^ f.exponentBits + C + f.fractionBits) % 2) by omega]
                simp
              · rename_i h6
                have : (w * w != (f.binade + a % f.binade) * 2 ^ (f.fractionBits + 4 + (a / f.binade % 2 ^ f.exponentBits + C + f.fractionBits) % 2)) = true := by
                  simp only [bne_iff_ne]; omega
                rw [this]; rfl
            rw [sqrt_norm f rfl h1 h2 hs hC rfl rfl hw3 (Nat.le_of_ble_eq_true h4) (Nat.le_of_ble_eq_true h5), ← hst, rneK_eq]
            show some (0 * _ + _) = _
            rw [Nat.zero_mul, Nat.zero_add]
            rfl
          · rfl
        · rfl
      · rfl
    · rfl

end Go.Proofs.Ytlpahmefebgdlaa.Fa
