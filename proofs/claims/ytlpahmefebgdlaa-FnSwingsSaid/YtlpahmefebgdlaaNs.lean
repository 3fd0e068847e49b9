/- More of rounding: exact results, bounds by any word. No condition. -/
import Derived.Test.YtlpahmefebgdlaaNr
namespace Go.Proofs.Ytlpahmefebgdlaa.Nr
open Ieee

theorem cut_zero (way : Toward) (neg : Bool) (n : Nat) : way.cut neg n 0 = n := by
  unfold Toward.cut
  simp only [shl, Nat.zero_min, Nat.pow_zero, Nat.one_mul, Nat.div_one, Nat.mod_one]
  cases way <;> simp

theorem cut_down (neg : Bool) (n d : Nat) : Toward.zero.cut neg n d = n / 2 ^ d := by
  unfold Toward.cut
  simp only [shl, Nat.one_mul, Bool.toNat_false, Nat.add_zero]
  by_cases hg : d ≤ n.log2 + 2
  · rw [Nat.min_eq_left hg]
  · rw [Nat.min_eq_right (by omega)]
    have h1 := lt_log2 n
    have h2 : 2 ^ (n.log2 + 2) = 2 * 2 ^ (n.log2 + 1) := by rw [Nat.pow_succ]; omega
    have h3 : 2 ^ (n.log2 + 2) ≤ 2 ^ d := Nat.pow_le_pow_right (by decide) (by omega)
    rw [Nat.div_eq_of_lt (by omega), Nat.div_eq_of_lt (by omega)]

theorem cut_lt {neg : Bool} {n drop c : Nat} (h : 2 * n < (2 * c + 1) * 2 ^ drop) : Toward.even.cut neg n drop ≤ c := by
  unfold Toward.cut
  simp only [shl, Nat.one_mul]
  by_cases hg : drop ≤ n.log2 + 2
  · rw [Nat.min_eq_left hg]
    have hp : 0 < 2 ^ drop := Nat.two_pow_pos _
    have hdm := Nat.div_add_mod n (2 ^ drop)
    have hlt := Nat.mod_lt n hp
    have hle : n / 2 ^ drop < c + 1 := by
      apply (Nat.div_lt_iff_lt_mul hp).2
      have : (2 * c + 1) * 2 ^ drop ≤ 2 * ((c + 1) * 2 ^ drop) := by
        rw [← Nat.mul_assoc]; exact Nat.mul_le_mul_right _ (by omega)
      omega
    by_cases he : n / 2 ^ drop = c
    · have hr : 2 * (n % 2 ^ drop) < 2 ^ drop := by
        rw [he] at hdm
        have e1 : (2 * c + 1) * 2 ^ drop = 2 * (2 ^ drop * c) + 2 ^ drop := by
          rw [Nat.add_mul, Nat.one_mul, Nat.mul_assoc, Nat.mul_comm c]
        omega
      have h5 : decide (2 ^ drop < 2 * (n % 2 ^ drop)) = false := by simp; omega
      have h6 : (2 ^ drop == 2 * (n % 2 ^ drop)) = false := by simp; omega
      rw [h5, h6, he]; simp
    · have : n / 2 ^ drop + 1 ≤ c := by omega
      refine Nat.le_trans (Nat.add_le_add_left (Bool.toNat_le _) _) this
  · rw [Nat.min_eq_right (by omega)]
    have h1 := lt_log2 n
    have h2 : 2 ^ (n.log2 + 2) = 2 * 2 ^ (n.log2 + 1) := by rw [Nat.pow_succ]; omega
    have h3 : n / 2 ^ (n.log2 + 2) = 0 := Nat.div_eq_of_lt (by omega)
    have h4 : n % 2 ^ (n.log2 + 2) = n := Nat.mod_eq_of_lt (by omega)
    rw [h3, h4]
    have h5 : decide (2 ^ (n.log2 + 2) < 2 * n) = false := by simp; omega
    have h6 : (2 ^ (n.log2 + 2) == 2 * n) = false := by simp; omega
    rw [h5, h6]; simp

/-- What the format has is written as it is. -/
theorem nearest_exact (f : Format) (s : Bool) {m : Nat} {e : Int} (hm : m < 2 ^ (f.fractionBits + 1)) (he : f.leastPlace ≤ e) (h2 : e ≤ f.leastPlace + (2 ^ f.exponentBits - 3 : Nat)) (h3 : 3 ≤ 2 ^ f.exponentBits) :
    ∃ j : Nat, f.read (f.nearest s m e) = .number s (m * 2 ^ j) (e - j) ∧ f.leastPlace ≤ e - j := by
  have hbin : f.binade = 2 ^ f.fractionBits := rfl
  have hp : 0 < f.binade := Nat.two_pow_pos _
  have hsw : f.signWeight = 2 ^ f.exponentBits * f.binade := by rw [hbin]; exact Nat.pow_add _ _ _
  have hinf : f.infRung + f.binade = 2 ^ f.exponentBits * f.binade := by
    show (2 ^ f.exponentBits - 1) * f.binade + f.binade = _
    rw [← Nat.succ_mul]; congr 1; omega
  unfold Format.nearest
  by_cases h0 : m = 0
  · subst h0
    rw [if_pos rfl]
    have hi : 2 * f.binade ≤ 2 ^ f.exponentBits * f.binade := Nat.mul_le_mul_right _ (by omega)
    have h4 : f.read (f.word s 0) = .number s 0 f.leastPlace := by
      rw [read_word f s (by omega)]; unfold readRung; rw [if_pos (by omega)]
    obtain ⟨j, hj⟩ := Int.eq_ofNat_of_zero_le (show 0 ≤ e - f.leastPlace by omega)
    refine ⟨j, ?_, by omega⟩
    rw [h4, Nat.zero_mul]; congr 1; omega
  · rw [if_neg h0]
    dsimp only
    have hl := Nat.log2_self_le h0
    have hl2 := lt_log2 m
    have hL : m.log2 ≤ f.fractionBits := by
      have : 2 ^ m.log2 < 2 ^ (f.fractionBits + 1) := Nat.lt_of_le_of_lt hl hm
      have := (Nat.pow_lt_pow_iff_right (by decide)).1 this
      omega
    obtain ⟨last, hlast⟩ : ∃ last, last = max (e + (m.log2 : Int) - (f.fractionBits : Int)) f.leastPlace := ⟨_, rfl⟩
    rw [← hlast]
    have hle : last ≤ e := by omega
    obtain ⟨j, hj⟩ := Int.eq_ofNat_of_zero_le (show 0 ≤ e - last by omega)
    have e1 : (e - last).toNat = j := by omega
    have e2 : (last - e).toNat = 0 := by omega
    rw [e1, e2, cut_zero, shl]
    obtain ⟨K, hK⟩ := Int.eq_ofNat_of_zero_le (show 0 ≤ last - f.leastPlace by omega)
    have e3 : (last - f.leastPlace).toNat = K := by omega
    rw [e3]
    have hk : m * 2 ^ j < 2 * f.binade := by
      rw [hbin, show 2 * 2 ^ f.fractionBits = 2 ^ (m.log2 + 1) * 2 ^ (f.fractionBits - m.log2) by rw [← Nat.pow_add, Nat.mul_comm, ← Nat.pow_succ]; congr 1; omega]
      refine Nat.lt_of_lt_of_le (Nat.mul_lt_mul_of_pos_right hl2 (Nat.two_pow_pos _)) ?_
      exact Nat.mul_le_mul_left _ (Nat.pow_le_pow_right (by decide) (by omega))
    have hKb : K + 3 ≤ 2 ^ f.exponentBits := by omega
    have hKm : (K + 3) * f.binade ≤ 2 ^ f.exponentBits * f.binade := Nat.mul_le_mul_right _ hKb
    rw [Nat.add_mul] at hKm
    have hlt : K * f.binade + m * 2 ^ j < f.infRung := by omega
    rw [Nat.min_eq_left (Nat.le_of_lt hlt), read_word f s (by omega)]
    unfold readRung
    refine ⟨j, ?_, by omega⟩
    have e4 : e - (j : Int) = last := by omega
    rw [e4]
    by_cases hn : f.leastPlace < last ∨ f.fractionBits ≤ m.log2 + j
    · -- normal
      have hge : f.binade ≤ m * 2 ^ j := by
        rw [hbin]
        refine Nat.le_trans ?_ (Nat.mul_le_mul_right _ hl)
        rw [← Nat.pow_add]
        exact Nat.pow_le_pow_right (by decide) (by omega)
      rw [if_neg (by omega), if_pos hlt]
      obtain ⟨x, hx⟩ : ∃ x, m * 2 ^ j = f.binade + x := ⟨m * 2 ^ j - f.binade, by omega⟩
      have hxl : x < f.binade := by omega
      have e5 : K * f.binade + m * 2 ^ j = x + f.binade * (K + 1) := by rw [hx, Nat.mul_comm K, Nat.mul_add]; omega
      rw [e5, Nat.add_mul_mod_self_left, Nat.add_mul_div_left _ _ hp, Nat.mod_eq_of_lt hxl, Nat.div_eq_of_lt hxl, hx]
      congr 1; omega
    · have hK0 : K = 0 := by omega
      have hlt2 : m * 2 ^ j < f.binade := by
        rw [hbin]
        refine Nat.lt_of_lt_of_le (Nat.mul_lt_mul_of_pos_right hl2 (Nat.two_pow_pos _)) ?_
        rw [← Nat.pow_add]
        exact Nat.pow_le_pow_right (by decide) (by omega)
      rw [hK0, Nat.zero_mul, Nat.zero_add, if_pos hlt2]
      congr 1; omega

theorem double_exact (s : Bool) {m : Nat} {e : Int} (hm : m < 2 ^ 53) (he : -1074 ≤ e) (h2 : e ≤ 971) :
    ∃ j : Nat, double.read (double.nearest s m e) = .number s (m * 2 ^ j) (e - j) ∧ -1074 ≤ e - j :=
  have e1 : double.leastPlace = -1074 := by decide
  have e2 : (2 ^ double.exponentBits - 3 : Nat) = 2045 := by decide
  nearest_exact double s hm he (by omega) (by decide)

/-- Bounds by a word that is no power of two. -/
theorem nearest_lt (f : Format) (neg : Bool) {mag c : Nat} {place p : Int} (hc : 2 ^ f.fractionBits ≤ c) (hc2 : c < 2 ^ (f.fractionBits + 1)) (hp : f.leastPlace ≤ p)
    (h : 2 * mag * 2 ^ (place - p).toNat < (2 * c + 1) * 2 ^ (p - place).toNat) :
    ∃ r, f.nearest neg mag place = f.word neg r ∧ r ≤ (p - f.leastPlace).toNat * f.binade + c ∧ r ≤ f.infRung := by
  have hbin : f.binade = 2 ^ f.fractionBits := rfl
  by_cases hm : mag = 0
  · unfold Format.nearest
    rw [if_pos hm]; exact ⟨0, rfl, Nat.zero_le _, Nat.zero_le _⟩
  · have hl := Nat.log2_self_le hm
    have hl2 := lt_log2 mag
    by_cases hlow : place + (mag.log2 : Int) < p + f.fractionBits
    · obtain ⟨r, h1, h2, h3⟩ := nearest_le f neg (mag := mag) (place := place) (E := p + f.fractionBits) (by omega) (Or.inr ⟨by omega, by
        refine Nat.le_trans (Nat.le_of_lt hl2) (Nat.pow_le_pow_right (by decide) (by omega))⟩)
      refine ⟨r, h1, Nat.le_trans h2 ?_, h3⟩
      unfold rungPow
      have e1 : (p + (f.fractionBits : Int) - f.leastPlace - f.fractionBits + 1).toNat = (p - f.leastPlace).toNat + 1 := by omega
      rw [e1, Nat.add_mul, Nat.one_mul, hbin]
      exact Nat.add_le_add_left hc _
    · have hup : place + (mag.log2 : Int) ≤ p + f.fractionBits := by
        have h1 : 2 ^ (1 + mag.log2 + (place - p).toNat) < 2 ^ (f.fractionBits + 2 + (p - place).toNat) := by
          refine Nat.lt_of_le_of_lt ?_ (Nat.lt_of_lt_of_le h ?_)
          · rw [Nat.pow_add, Nat.pow_add, Nat.pow_one]
            exact Nat.mul_le_mul_right _ (Nat.mul_le_mul_left _ hl)
          · rw [Nat.pow_add]
            refine Nat.mul_le_mul_right _ ?_
            rw [Nat.pow_succ] at hc2
            have : 2 ^ (f.fractionBits + 2) = 4 * 2 ^ f.fractionBits := by rw [Nat.pow_succ, Nat.pow_succ]; omega
            omega
        have := (Nat.pow_lt_pow_iff_right (by decide)).1 h1
        omega
      have hlast : max (place + (mag.log2 : Int) - (f.fractionBits : Int)) f.leastPlace = p := by omega
      unfold Format.nearest
      rw [if_neg hm]
      dsimp only
      rw [hlast]
      refine ⟨_, rfl, Nat.le_trans (Nat.min_le_left _ _) (Nat.add_le_add_left (cut_lt ?_) _), Nat.min_le_right _ _⟩
      rw [shl, ← Nat.mul_assoc]; exact h

theorem readRung_lt (f : Format) (neg : Bool) {r c : Nat} {p : Int} (hc : 2 ^ f.fractionBits ≤ c) (hc2 : c < 2 ^ (f.fractionBits + 1)) (hp : f.leastPlace ≤ p)
    (h : r ≤ (p - f.leastPlace).toNat * f.binade + c) (hi : r < f.infRung) :
    ∃ m e, readRung f neg r = .number neg m e ∧ f.leastPlace ≤ e ∧ m * 2 ^ (e - p).toNat ≤ c * 2 ^ (p - e).toNat := by
  have hbin : f.binade = 2 ^ f.fractionBits := rfl
  have hpos : 0 < f.binade := Nat.two_pow_pos _
  unfold readRung
  by_cases h1 : r < f.binade
  · rw [if_pos h1]
    refine ⟨_, _, rfl, by omega, ?_⟩
    have e1 : (f.leastPlace - p).toNat = 0 := by omega
    rw [e1, Nat.pow_zero, Nat.mul_one]
    exact Nat.le_trans (by omega) (Nat.le_mul_of_pos_right _ (Nat.two_pow_pos _))
  · rw [if_neg h1, if_pos hi]
    refine ⟨_, _, rfl, by omega, ?_⟩
    obtain ⟨K, hK⟩ : ∃ K, K = (p - f.leastPlace).toNat := ⟨_, rfl⟩
    rw [← hK] at h
    have hmod := Nat.mod_lt r hpos
    have hq1 : 1 ≤ r / f.binade := (Nat.one_le_div_iff hpos).2 (by omega)
    have hdm := Nat.div_add_mod r f.binade
    have hq : r / f.binade ≤ K + 1 := by
      have : r / f.binade < K + 2 := (Nat.div_lt_iff_lt_mul hpos).2 (by rw [Nat.add_mul]; rw [Nat.pow_succ] at hc2; omega)
      omega
    generalize r / f.binade = q at hq1 hdm hq ⊢
    by_cases he : q = K + 1
    · have e1 : f.leastPlace + ((q - 1 : Nat) : Int) = p := by omega
      rw [e1, Int.sub_self, Int.toNat_zero, Nat.pow_zero, Nat.mul_one, Nat.mul_one]
      rw [he, Nat.mul_comm, Nat.add_mul, Nat.one_mul] at hdm
      omega
    · have e2 : (f.leastPlace + ((q - 1 : Nat) : Int) - p).toNat = 0 := by omega
      obtain ⟨d, hd⟩ : ∃ d, (p - (f.leastPlace + ((q - 1 : Nat) : Int))).toNat = d + 1 := ⟨(p - (f.leastPlace + ((q - 1 : Nat) : Int))).toNat - 1, by omega⟩
      rw [e2, hd, Nat.pow_zero, Nat.mul_one, Nat.pow_succ]
      have h5 : c * 2 ≤ c * (2 ^ d * 2) := Nat.mul_le_mul_left _ (by have := Nat.two_pow_pos d; omega)
      omega

end Go.Proofs.Ytlpahmefebgdlaa.Nr
