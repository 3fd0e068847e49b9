/- Rounding to the nearest word: bounds by powers of two, and that it does not depend on how a number is written. No condition. -/
import Ieee.Arith
import Derived.Laws.FloatBits
namespace Go.Proofs.Ytlpahmefebgdlaa.Nr
open Ieee

theorem lt_log2 (n : Nat) : n < 2 ^ (n.log2 + 1) := Nat.lt_log2_self

theorem shl (a b : Nat) : a <<< b = a * 2 ^ b := Nat.shiftLeft_eq a b

theorem cut_le {neg : Bool} {n drop c : Nat} (h : n ≤ c * 2 ^ drop) : Toward.even.cut neg n drop ≤ c := by
  unfold Toward.cut
  simp only [shl, Nat.one_mul]
  by_cases hg : drop ≤ n.log2 + 2
  · rw [Nat.min_eq_left hg]
    have hp : 0 < 2 ^ drop := Nat.two_pow_pos _
    have hdm := Nat.div_add_mod n (2 ^ drop)
    have hlt := Nat.mod_lt n hp
    have hle : n / 2 ^ drop ≤ c := Nat.div_le_of_le_mul (by rw [Nat.mul_comm]; exact h)
    by_cases he : n / 2 ^ drop = c
    · have : n % 2 ^ drop = 0 := by
        rw [he, Nat.mul_comm] at hdm; omega
      rw [this, he]
      have : (decide (2 ^ drop < 2 * 0) || (2 ^ drop == 2 * 0) && (c % 2 == 1)) = false := by
        have : (2 ^ drop == 2 * 0) = false := by simp
        rw [this]; simp
      rw [this]; simp
    · have : n / 2 ^ drop + 1 ≤ c := by omega
      refine Nat.le_trans (Nat.add_le_add_left (Bool.toNat_le _) _) this
  · rw [Nat.min_eq_right (by omega)]
    have h1 := lt_log2 n
    have h2 : 2 ^ (n.log2 + 2) = 2 * 2 ^ (n.log2 + 1) := by rw [Nat.pow_succ]; omega
    have h3 : n / 2 ^ (n.log2 + 2) = 0 := Nat.div_eq_of_lt (by omega)
    have h4 : n % 2 ^ (n.log2 + 2) = n := Nat.mod_eq_of_lt (by omega)
    rw [h3, h4]
    have h5 : decide (2 ^ (n.log2 + 2) < 2 * n) = false := by simp; omega
    have h6 : (2 ^ (n.log2 + 2) == 2 * n) = false := by simp; omega
    rw [h5, h6]; simp

theorem log2_mul_pow {x : Nat} (hx : x ≠ 0) (a : Nat) : (x * 2 ^ a).log2 = x.log2 + a := by
  have hpos : x * 2 ^ a ≠ 0 := by
    have := Nat.two_pow_pos a
    exact Nat.mul_ne_zero hx (by omega)
  apply (Nat.log2_eq_iff hpos).2
  have h1 := Nat.log2_self_le hx
  have h2 := lt_log2 x
  constructor
  · rw [Nat.pow_add]; exact Nat.mul_le_mul_right _ h1
  · rw [show x.log2 + a + 1 = (x.log2 + 1) + a by omega, Nat.pow_add]
    exact Nat.mul_lt_mul_of_pos_right h2 (Nat.two_pow_pos _)

theorem cut_mul (way : Toward) (neg : Bool) {x : Nat} (hx : x ≠ 0) (a b : Nat) : way.cut neg (x * 2 ^ a) (b + a) = way.cut neg x b := by
  unfold Toward.cut
  simp only [shl, Nat.one_mul]
  rw [log2_mul_pow hx a]
  have hm : min (b + a) (x.log2 + a + 2) = min b (x.log2 + 2) + a := by omega
  rw [hm]
  generalize min b (x.log2 + 2) = g
  have hp : 0 < 2 ^ a := Nat.two_pow_pos _
  rw [Nat.pow_add, Nat.mul_div_mul_right _ _ hp, Nat.mul_mod_mul_right]
  congr 2
  cases way
  · have h1 : decide (2 ^ g * 2 ^ a < 2 * (x % 2 ^ g * 2 ^ a)) = decide (2 ^ g < 2 * (x % 2 ^ g)) := by
      rw [← Nat.mul_assoc]
      exact decide_eq_decide.2 (Nat.mul_lt_mul_right hp)
    have h2 : (2 ^ g * 2 ^ a == 2 * (x % 2 ^ g * 2 ^ a)) = (2 ^ g == 2 * (x % 2 ^ g)) := by
      rw [← Nat.mul_assoc, Bool.eq_iff_iff]
      simp only [beq_iff_eq]
      exact ⟨fun h => Nat.eq_of_mul_eq_mul_right hp h, fun h => congrArg (· * 2 ^ a) h⟩
    show (decide _ || _ && _) = (decide _ || _ && _)
    rw [h1, h2]
  all_goals
    have h3 : (x % 2 ^ g * 2 ^ a != 0) = (x % 2 ^ g != 0) := by
      rw [Bool.eq_iff_iff]
      simp only [bne_iff_ne, ne_eq, Nat.mul_eq_zero]
      simp
    first
      | rfl
      | (show (_ && _) = (_ && _); rw [h3])

/-- How a number is written does not matter. -/
theorem nearest_scale (f : Format) (neg : Bool) (mag j : Nat) (place : Int) : f.nearest neg (mag * 2 ^ j) (place - j) = f.nearest neg mag place := by
  unfold Format.nearest
  by_cases hm : mag = 0
  · simp [hm]
  · have hm' : mag * 2 ^ j ≠ 0 := Nat.mul_ne_zero hm (by have := Nat.two_pow_pos j; omega)
    rw [if_neg hm, if_neg hm']
    dsimp only
    rw [log2_mul_pow hm j]
    have e : place - (j : Int) + ((mag.log2 + j : Nat) : Int) - (f.fractionBits : Int) = place + (mag.log2 : Int) - (f.fractionBits : Int) := by omega
    rw [e]
    generalize max (place + (mag.log2 : Int) - (f.fractionBits : Int)) f.leastPlace = last
    have key : Toward.even.cut neg ((mag * 2 ^ j) <<< (place - ↑j - last).toNat) (last - (place - ↑j)).toNat = Toward.even.cut neg (mag <<< (place - last).toNat) (last - place).toNat := by
      simp only [shl]
      by_cases h1 : (j : Int) ≤ place - last
      · have a1 : (last - (place - ↑j)).toNat = 0 := by omega
        have a2 : (last - place).toNat = 0 := by omega
        rw [a1, a2, Nat.mul_assoc, ← Nat.pow_add]
        congr 3; omega
      · by_cases h2 : 0 ≤ place - last
        · have a1 : (place - ↑j - last).toNat = 0 := by omega
          have a2 : (last - place).toNat = 0 := by omega
          obtain ⟨d, hd⟩ := Int.eq_ofNat_of_zero_le h2
          have a3 : (last - (place - ↑j)).toNat = 0 + (j - d) := by omega
          have a4 : (place - last).toNat = d := by omega
          rw [a1, a2, a3, a4, Nat.pow_zero, Nat.mul_one]
          rw [show mag * 2 ^ j = mag * 2 ^ d * 2 ^ (j - d) by rw [Nat.mul_assoc, ← Nat.pow_add]; congr 2; omega]
          exact cut_mul _ _ (Nat.mul_ne_zero hm (by have := Nat.two_pow_pos d; omega)) _ _
        · have a1 : (place - ↑j - last).toNat = 0 := by omega
          have a2 : (place - last).toNat = 0 := by omega
          have a3 : (last - (place - ↑j)).toNat = (last - place).toNat + j := by omega
          rw [a1, a2, a3, Nat.pow_zero, Nat.mul_one, Nat.mul_one]
          exact cut_mul _ _ hm _ _
    rw [key]

/-- 'mag * 2 ^ place' is at most '2 ^ E'. -/
def Le2 (mag : Nat) (place E : Int) : Prop := mag = 0 ∨ (place ≤ E ∧ mag ≤ 2 ^ (E - place).toNat)

/-- The rung of '2 ^ E', of a normal number. -/
def rungPow (f : Format) (E : Int) : Nat := (E - f.leastPlace - f.fractionBits + 1).toNat * f.binade

theorem kept_le (f : Format) (neg : Bool) {mag : Nat} {place : Int} :
    Toward.even.cut neg (mag <<< (place - max (place + (mag.log2 : Int) - (f.fractionBits : Int)) f.leastPlace).toNat) (max (place + (mag.log2 : Int) - (f.fractionBits : Int)) f.leastPlace - place).toNat ≤ 2 ^ (f.fractionBits + 1) := by
  have hl : place + (mag.log2 : Int) - (f.fractionBits : Int) ≤ max (place + (mag.log2 : Int) - (f.fractionBits : Int)) f.leastPlace := by omega
  generalize max (place + (mag.log2 : Int) - (f.fractionBits : Int)) f.leastPlace = last at hl
  apply cut_le
  rw [shl, ← Nat.pow_add]
  refine Nat.le_trans (Nat.mul_le_mul_right _ (Nat.le_of_lt (lt_log2 mag))) ?_
  rw [← Nat.pow_add]
  exact Nat.pow_le_pow_right (by decide) (by omega)

theorem nearest_le (f : Format) (neg : Bool) {mag : Nat} {place E : Int} (hE : f.leastPlace + f.fractionBits ≤ E) (h : Le2 mag place E) :
    ∃ r, f.nearest neg mag place = f.word neg r ∧ r ≤ rungPow f E ∧ r ≤ f.infRung := by
  unfold Format.nearest
  by_cases hm : mag = 0
  · rw [if_pos hm]; exact ⟨0, rfl, Nat.zero_le _, Nat.zero_le _⟩
  · rw [if_neg hm]
    dsimp only
    refine ⟨_, rfl, Nat.le_trans (Nat.min_le_left _ _) ?_, Nat.min_le_right _ _⟩
    obtain ⟨hp, hle⟩ := h.resolve_left hm
    have hlog := Nat.log2_self_le hm
    have hb : f.binade = 2 ^ f.fractionBits := rfl
    have hle' : (mag.log2 : Int) ≤ E - place := by
      have : 2 ^ mag.log2 ≤ 2 ^ (E - place).toNat := Nat.le_trans hlog hle
      have := (Nat.pow_le_pow_iff_right (by decide)).1 this
      omega
    by_cases heq : (mag.log2 : Int) = E - place
    · -- a power of two
      have e1 : (E - place).toNat = mag.log2 := by omega
      have hmag : mag = 2 ^ mag.log2 := by rw [e1] at hle; exact Nat.le_antisymm hle hlog
      have hlast : max (place + (mag.log2 : Int) - (f.fractionBits : Int)) f.leastPlace = E - f.fractionBits := by omega
      rw [hlast]
      have hk : Toward.even.cut neg (mag <<< (place - (E - (f.fractionBits : Int))).toNat) (E - (f.fractionBits : Int) - place).toNat ≤ 2 ^ f.fractionBits := by
        apply cut_le
        rw [shl, ← Nat.pow_add]
        have h9 : 2 ^ mag.log2 * 2 ^ (place - (E - (f.fractionBits : Int))).toNat = 2 ^ (mag.log2 + (place - (E - (f.fractionBits : Int))).toNat) := (Nat.pow_add _ _ _).symm
        rw [hmag.symm] at h9
        rw [h9]
        exact Nat.pow_le_pow_right (by decide) (by omega)
      unfold rungPow
      rw [hb]
      have e2 : (E - f.leastPlace - f.fractionBits + 1).toNat = (E - f.fractionBits - f.leastPlace).toNat + 1 := by omega
      rw [e2, Nat.add_mul, Nat.one_mul]
      exact Nat.add_le_add_left hk _
    · by_cases hlow : f.leastPlace ≤ place + (mag.log2 : Int) - (f.fractionBits : Int)
      · have hk := kept_le f neg (mag := mag) (place := place)
        have hlast : max (place + (mag.log2 : Int) - (f.fractionBits : Int)) f.leastPlace = place + (mag.log2 : Int) - (f.fractionBits : Int) := by omega
        rw [hlast] at hk ⊢
        unfold rungPow
        rw [hb]
        refine Nat.le_trans (Nat.add_le_add_left hk _) ?_
        rw [Nat.pow_succ, Nat.mul_comm _ 2, ← Nat.add_mul]
        exact Nat.mul_le_mul_right _ (by omega)
      · have hlast : max (place + (mag.log2 : Int) - (f.fractionBits : Int)) f.leastPlace = f.leastPlace := by omega
        rw [hlast]
        have hk : Toward.even.cut neg (mag <<< (place - f.leastPlace).toNat) (f.leastPlace - place).toNat ≤ 2 ^ f.fractionBits := by
          apply cut_le
          rw [shl, ← Nat.pow_add]
          refine Nat.le_trans (Nat.mul_le_mul_right _ (Nat.le_of_lt (lt_log2 mag))) ?_
          rw [← Nat.pow_add]
          exact Nat.pow_le_pow_right (by decide) (by omega)
        have e0 : (f.leastPlace - f.leastPlace).toNat = 0 := by omega
        rw [e0, Nat.zero_mul, Nat.zero_add]
        unfold rungPow
        rw [hb]
        refine Nat.le_trans hk ?_
        have : 1 ≤ (E - f.leastPlace - f.fractionBits + 1).toNat := by omega
        calc 2 ^ f.fractionBits = 1 * 2 ^ f.fractionBits := (Nat.one_mul _).symm
          _ ≤ _ := Nat.mul_le_mul_right _ this

/-- What a sign and a rung stand for. -/
def readRung (f : Format) (neg : Bool) (r : Nat) : Datum :=
  if r < f.binade then .number neg r f.leastPlace
  else if r < f.infRung then .number neg (f.binade + r % f.binade) (f.leastPlace + (r / f.binade - 1 : Nat))
  else if r = f.infRung then .infinity neg
  else .nan neg (r - f.infRung)

theorem read_word (f : Format) (neg : Bool) {r : Nat} (h : r < f.signWeight) : f.read (f.word neg r) = readRung f neg r := by
  have h1 : f.word neg r / f.signWeight % 2 = neg.toNat := by
    unfold Format.word
    cases neg
    · simp [Nat.div_eq_of_lt h]
    · have hp : 0 < f.signWeight := Nat.two_pow_pos _
      simp only [if_true]
      rw [Nat.add_div_left _ hp, Nat.div_eq_of_lt h]; rfl
  have h2 : f.word neg r % f.signWeight = r := by
    unfold Format.word
    cases neg
    · simp [Nat.mod_eq_of_lt h]
    · simp only [if_true]
      rw [Nat.add_mod_left, Nat.mod_eq_of_lt h]
  unfold Format.read readRung
  simp only [h1, h2]
  cases neg <;> rfl

theorem readRung_le (f : Format) (neg : Bool) {r : Nat} {E : Int} (hE : f.leastPlace + f.fractionBits ≤ E) (h : r ≤ rungPow f E) (hi : r < f.infRung) :
    ∃ m e, readRung f neg r = .number neg m e ∧ Le2 m e E := by
  have hb : f.binade = 2 ^ f.fractionBits := rfl
  have hp : 0 < f.binade := Nat.two_pow_pos _
  unfold readRung
  by_cases h1 : r < f.binade
  · rw [if_pos h1]
    refine ⟨_, _, rfl, Or.inr ⟨by omega, ?_⟩⟩
    rw [hb] at h1
    exact Nat.le_trans (Nat.le_of_lt h1) (Nat.pow_le_pow_right (by decide) (by omega))
  · rw [if_neg h1, if_pos hi]
    refine ⟨_, _, rfl, Or.inr ?_⟩
    obtain ⟨K, hK⟩ : ∃ K, K = (E - f.leastPlace - f.fractionBits + 1).toNat := ⟨_, rfl⟩
    have hr : r ≤ K * f.binade := by rw [hK]; exact h
    have hq : r / f.binade ≤ K := Nat.div_le_of_le_mul (by rw [Nat.mul_comm]; exact hr)
    have hmod := Nat.mod_lt r hp
    have hq1 : 1 ≤ r / f.binade := (Nat.one_le_div_iff hp).2 (by omega)
    have hdm := Nat.div_add_mod r f.binade
    generalize r / f.binade = q at hq hq1 hdm ⊢
    by_cases he : q = K
    · have hz : r % f.binade = 0 := by
        rw [he, Nat.mul_comm] at hdm; omega
      have hplace : f.leastPlace + ((q - 1 : Nat) : Int) = E - f.fractionBits := by clear hb hdm hr hmod; omega
      rw [hz, Nat.add_zero, hb, hplace]
      exact ⟨by omega, Nat.pow_le_pow_right (by decide) (by omega)⟩
    · have hplace : f.leastPlace + ((q - 1 : Nat) : Int) ≤ E - f.fractionBits - 1 := by clear hb hdm hr hmod; omega
      refine ⟨by omega, ?_⟩
      refine Nat.le_trans (show f.binade + r % f.binade ≤ 2 ^ (f.fractionBits + 1) by rw [Nat.pow_succ, ← hb]; omega) ?_
      exact Nat.pow_le_pow_right (by decide) (by omega)

/-- A word's number is below the power of two above its format. -/
theorem read_number {f : Format} {b : Nat} {s : Bool} {m : Nat} {e : Int} (h : f.read b = .number s m e) :
    m < 2 ^ (f.fractionBits + 1) ∧ f.leastPlace ≤ e ∧ e ≤ f.leastPlace + (2 ^ f.exponentBits - 3 : Nat) := by
  have hp : 0 < f.binade := Nat.two_pow_pos _
  have hbin : f.binade = 2 ^ f.fractionBits := rfl
  unfold Format.read at h
  dsimp only at h
  split at h
  · rename_i h1
    cases h
    exact ⟨by rw [Nat.pow_succ, ← hbin]; omega, by omega, by omega⟩
  · split at h
    · rename_i h1 h2
      cases h
      have hmod := Nat.mod_lt (b % f.signWeight) hp
      refine ⟨by rw [Nat.pow_succ, ← hbin]; omega, by omega, ?_⟩
      have h3 : b % f.signWeight / f.binade < 2 ^ f.exponentBits - 1 := (Nat.div_lt_iff_lt_mul hp).2 h2
      have h4 : 1 ≤ b % f.signWeight / f.binade := (Nat.one_le_div_iff hp).2 (by omega)
      have : b % f.signWeight % f.binade = b % f.signWeight % f.binade := rfl
      omega
    · split at h <;> cases h

/-- A 32-bit number is not too great for 64 bits. -/
theorem widen_number {b : Nat} {s : Bool} {m : Nat} {e : Int} (h : single.read b = .number s m e) :
    ∃ m' e', double.read (double.write (.number s m e)) = .number s m' e' := by
  obtain ⟨h1, h2, h3⟩ := read_number h
  have e1 : single.leastPlace = -149 := by decide
  have e2 : single.fractionBits = 23 := rfl
  have e3 : (2 ^ single.exponentBits - 3 : Nat) = 253 := by decide
  rw [e1] at h2 h3
  rw [e2] at h1
  rw [e3] at h3
  have hle : Le2 m e 128 := by
    refine Or.inr ⟨by omega, ?_⟩
    exact Nat.le_trans (Nat.le_of_lt h1) (Nat.pow_le_pow_right (by decide) (by omega))
  obtain ⟨r, hr, hr1, _⟩ := nearest_le double s (E := 128) (by decide) hle
  have hr1' : r ≤ 1151 * 2 ^ 52 := hr1
  have e4 : double.infRung = 2047 * 2 ^ 52 := by decide
  have e5 : double.signWeight = 2048 * 2 ^ 52 := by decide
  obtain ⟨m', e', hm, _⟩ := readRung_le double s (E := 128) (by decide) hr1 (by rw [e4]; omega)
  refine ⟨m', e', ?_⟩
  show double.read (double.nearest s m e) = _
  rw [hr, read_word double s (by rw [e5]; omega), hm]

end Go.Proofs.Ytlpahmefebgdlaa.Nr
