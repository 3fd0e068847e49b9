/- Bounds from below: positive normal numbers, products, quotients, roots. No condition. -/
import Derived.Test.YtlpahmefebgdlaaNw
namespace Go.Proofs.Ytlpahmefebgdlaa.Fx
open Go Nr Ieee

theorem cut_floor (neg : Bool) (n d : Nat) : n / 2 ^ d ≤ Toward.even.cut neg n d := by
  unfold Toward.cut
  simp only [shl, Nat.one_mul]
  by_cases hg : d ≤ n.log2 + 2
  · rw [Nat.min_eq_left hg]; exact Nat.le_add_right _ _
  · have h1 := lt_log2 n
    have h2 : 2 ^ (n.log2 + 2) = 2 * 2 ^ (n.log2 + 1) := by rw [Nat.pow_succ]; omega
    have h3 : 2 ^ (n.log2 + 2) ≤ 2 ^ d := Nat.pow_le_pow_right (by decide) (by omega)
    rw [Nat.div_eq_of_lt (by omega : n < 2 ^ d)]; exact Nat.zero_le _

theorem norm_word (s : Bool) {mag : Nat} {place a b : Int} (hm : mag ≠ 0) (ha : a ≤ mag.log2 + place) (hb : mag.log2 + place ≤ b) (h1 : -1022 ≤ a) (h2 : b ≤ 1021) :
    ∃ m e, Num (bx (double.nearest s mag place)) s m e ∧ 2 ^ 52 ≤ m ∧ a ≤ e + 52 ∧ e + 52 ≤ b + 1 := by
  have e1 : double.leastPlace = -1074 := by decide
  have e2 : double.fractionBits = 52 := rfl
  have e3 : double.infRung = 2047 * 2 ^ 52 := by decide
  have e4 : double.signWeight = 2048 * 2 ^ 52 := by decide
  have e5 : double.binade = 2 ^ 52 := by decide
  have hl := Nat.log2_self_le hm
  have hk := kept_le double s (mag := mag) (place := place)
  rw [e1, e2] at hk
  obtain ⟨last, hlast⟩ : ∃ last, last = place + (mag.log2 : Int) - 52 := ⟨_, rfl⟩
  have hmax : max (place + (mag.log2 : Int) - ((52 : Nat) : Int)) (-1074) = last := by omega
  rw [hmax] at hk
  have hge : 2 ^ 52 ≤ Toward.even.cut s (mag <<< (place - last).toNat) (last - place).toNat := by
    refine Nat.le_trans ?_ (cut_floor _ _ _)
    refine (Nat.le_div_iff_mul_le (Nat.two_pow_pos _)).2 ?_
    rw [shl, ← Nat.pow_add]
    refine Nat.le_trans ?_ (Nat.mul_le_mul_right _ hl)
    rw [← Nat.pow_add]
    exact Nat.pow_le_pow_right (by decide) (by omega)
  have hw : double.nearest s mag place = double.word s (min ((last - -1074).toNat * 2 ^ 52 + Toward.even.cut s (mag <<< (place - last).toNat) (last - place).toNat) double.infRung) := by
    unfold Format.nearest
    rw [if_neg hm]
    dsimp only
    rw [e1, e2, hmax, e5]
  generalize Toward.even.cut s (mag <<< (place - last).toNat) (last - place).toNat = kept at hk hge hw
  obtain ⟨K, hK⟩ := Int.eq_ofNat_of_zero_le (show 0 ≤ last - -1074 by omega)
  have hK2 : (last - -1074).toNat = K := by omega
  have hKb : K ≤ 2043 := by omega
  have hk' : kept ≤ 2 * 2 ^ 52 := hk
  have hlt : K * 2 ^ 52 + kept < 2047 * 2 ^ 52 := by omega
  rw [hK2, e3, Nat.min_eq_left (Nat.le_of_lt hlt)] at hw
  have hread : double.read (double.nearest s mag place) = .number s (2 ^ 52 + (K * 2 ^ 52 + kept) % 2 ^ 52) (-1074 + (((K * 2 ^ 52 + kept) / 2 ^ 52 - 1 : Nat) : Int)) := by
    rw [hw, read_word double s (by omega)]
    unfold readRung
    rw [e5, e3, e1, if_neg (by omega), if_pos hlt]
  refine ⟨_, _, ⟨_, rfl, hread⟩, by omega, ?_, ?_⟩ <;> omega

/-- Positive, normal, with its exponent between two bounds. -/
def Bd (a b : Int) (x : F64) : Prop := ∃ m e, Num x false m e ∧ 2 ^ 52 ≤ m ∧ a ≤ e + 52 ∧ e + 52 ≤ b

theorem Bd.mono {a b c d : Int} {x : F64} (h : Bd a b x) (h1 : c ≤ a) (h2 : b ≤ d) : Bd c d x := by
  obtain ⟨m, e, h3, h4, h5, h6⟩ := h
  exact ⟨m, e, h3, h4, by omega, by omega⟩

theorem Bd.up {a b : Int} {x : F64} (h : Bd a b x) : Up (b + 1) x := by
  obtain ⟨m, e, h1, h2, h3, h4⟩ := h
  refine ⟨false, m, e, h1, .inr ⟨by omega, ?_⟩⟩
  exact Nat.le_trans (Nat.le_of_lt h1.bound.1) (Nat.pow_le_pow_right (by decide) (by omega))

theorem Bd.lo {a b : Int} {x : F64} (h : Bd a b x) : ∃ L, Lo L x ∧ a ≤ L ∧ L ≤ b := by
  obtain ⟨m, e, h1, h2, h3, h4⟩ := h
  exact ⟨e + 52, ⟨false, m, e, h1, h2, rfl⟩, h3, h4⟩

theorem log_norm {m : Nat} (h1 : 2 ^ 52 ≤ m) (h2 : m < 2 ^ 53) : m.log2 = 52 :=
  (Nat.log2_eq_iff (by have : 0 < 2 ^ 52 := by decide
                       omega)).2 ⟨h1, h2⟩

theorem log_bounds {n a b : Nat} (h1 : 2 ^ a ≤ n) (h2 : n < 2 ^ (b + 1)) : n ≠ 0 ∧ a ≤ n.log2 ∧ n.log2 ≤ b := by
  have h0 : n ≠ 0 := by have := Nat.two_pow_pos a; omega
  refine ⟨h0, (Nat.le_log2 h0).2 h1, ?_⟩
  have := (Nat.log2_lt h0).2 h2
  omega

theorem Bd.mul {a b c d : Int} {x y : F64} (hx : Bd a b x) (hy : Bd c d y) (h1 : -1022 ≤ a + c) (h2 : b + d ≤ 1020) : Bd (a + c) (b + d + 2) (x * y) := by
  obtain ⟨m, i, hx, m1, m2, m3⟩ := hx
  obtain ⟨n, j, hy, n1, n2, n3⟩ := hy
  have bm := hx.bound
  have bn := hy.bound
  obtain ⟨r, rfl, hr⟩ := hx
  obtain ⟨q, rfl, hq⟩ := hy
  rw [mul_some, hr, hq]
  obtain ⟨k0, k1, k2⟩ := log_bounds (n := m * n) (a := 104) (b := 105) (by
    rw [show 2 ^ 104 = 2 ^ 52 * 2 ^ 52 from rfl]; exact Nat.mul_le_mul m1 n1) (by
    rw [show 2 ^ (105 + 1) = 2 ^ 53 * 2 ^ 53 from rfl]; exact Nat.mul_lt_mul'' bm.1 bn.1)
  obtain ⟨m', e', g1, g2, g3, g4⟩ := norm_word (false ^^ false) (mag := m * n) (place := i + j) (a := a + c) (b := b + d + 1) k0 (by omega) (by omega) h1 (by omega)
  exact ⟨m', e', g1, g2, g3, by omega⟩

theorem Bd.div {a b c d : Int} {x y : F64} (hx : Bd a b x) (hy : Bd c d y) (h1 : -1021 ≤ a - d) (h2 : b - c ≤ 1020) : Bd (a - d - 1) (b - c + 1) (x / y) := by
  obtain ⟨m, i, hx, m1, m2, m3⟩ := hx
  obtain ⟨n, j, hy, n1, n2, n3⟩ := hy
  have bm := hx.bound
  have bn := hy.bound
  obtain ⟨r, rfl, hr⟩ := hx
  obtain ⟨q, rfl, hq⟩ := hy
  have hn0 : n ≠ 0 := by have : 0 < 2 ^ 52 := by decide
                         omega
  rw [div_some, hr, hq]
  have : (((Datum.number false m i).quotient 54 (Datum.number false n j)).map double.write : Option Nat) =
      some (double.nearest (false ^^ false) (2 * ((m <<< (54 + n.log2 - m.log2)) / n) + (((m <<< (54 + n.log2 - m.log2)) % n) != 0).toNat) (i - j - ((54 + n.log2 - m.log2 : Nat) : Int) - 1)) := by
    simp only [Datum.quotient, if_neg hn0]; rfl
  rw [this, log_norm m1 bm.1, log_norm n1 bn.1]
  have e54 : 54 + 52 - 52 = 54 := rfl
  rw [e54, shl]
  have q1 : 2 ^ 53 ≤ m * 2 ^ 54 / n := by
    refine (Nat.le_div_iff_mul_le (by omega)).2 ?_
    have := bn.1
    omega
  have q2 : m * 2 ^ 54 / n < 2 ^ 55 := by
    refine (Nat.div_lt_iff_lt_mul (by omega)).2 ?_
    have := bm.1
    omega
  have hb : ((m * 2 ^ 54 % n) != 0).toNat ≤ 1 := Bool.toNat_le _
  generalize ((m * 2 ^ 54 % n) != 0).toNat = bit at hb
  generalize m * 2 ^ 54 / n = z at q1 q2
  obtain ⟨k0, k1, k2⟩ := log_bounds (n := 2 * z + bit) (a := 54) (b := 55) (by omega) (by omega)
  obtain ⟨m', e', g1, g2, g3, g4⟩ := norm_word (false ^^ false) (mag := 2 * z + bit) (place := i - j - ((54 : Nat) : Int) - 1) (a := a - d - 1) (b := b - c) k0 (by omega) (by omega) (by omega) (by omega)
  exact ⟨m', e', g1, g2, g3, by omega⟩

/-- A positive number and one that is not below zero. -/
theorem Bd.add {a b E F : Int} {x y : F64} {n : Nat} {j : Int} (hx : Bd a b x) (hy : Num y false n j) (hn : Le2 n j E) (hb : b + 1 ≤ F) (hE : E ≤ F) (h1 : -1022 ≤ a) (h2 : F ≤ 1020) : Bd a (F + 2) (x + y) := by
  obtain ⟨m, i, hx, m1, m2, m3⟩ := hx
  have bm := hx.bound
  have bn := hy.bound
  rw [hx.add hy]
  unfold addW
  obtain ⟨t, ht⟩ : ∃ t, t = min i j := ⟨_, rfl⟩
  rw [← ht]
  have hT : (signed false m (i - t).toNat + signed false n (j - t).toNat).natAbs = m * 2 ^ (i - t).toNat + n * 2 ^ (j - t).toNat := by
    rw [signed_eq, signed_eq]
    generalize m * 2 ^ (i - t).toNat = z1
    generalize n * 2 ^ (j - t).toNat = z2
    simp; omega
  have hs : (if signed false m (i - t).toNat + signed false n (j - t).toNat = 0 then false && false else decide (signed false m (i - t).toNat + signed false n (j - t).toNat < 0)) = false := by
    rw [signed_eq, signed_eq]
    generalize m * 2 ^ (i - t).toNat = z1
    generalize n * 2 ^ (j - t).toNat = z2
    simp; omega
  rw [hT, hs]
  have hm1 : 2 ^ (52 + (i - t).toNat) ≤ m * 2 ^ (i - t).toNat := by rw [Nat.pow_add]; exact Nat.mul_le_mul_right _ m1
  have hm2 : m * 2 ^ (i - t).toNat < 2 ^ (F - t).toNat := by
    refine Nat.lt_of_lt_of_le (Nat.mul_lt_mul_of_pos_right bm.1 (Nat.two_pow_pos _)) ?_
    rw [← Nat.pow_add]
    exact Nat.pow_le_pow_right (by decide) (by omega)
  have hn2 : n * 2 ^ (j - t).toNat ≤ 2 ^ (F - t).toNat := by
    rcases hn with rfl | ⟨k1, k2⟩
    · rw [Nat.zero_mul]; exact Nat.zero_le _
    · refine Nat.le_trans (Nat.mul_le_mul_right _ k2) ?_
      rw [← Nat.pow_add]
      exact Nat.pow_le_pow_right (by decide) (by omega)
  obtain ⟨k0, k1, k2⟩ := log_bounds (n := m * 2 ^ (i - t).toNat + n * 2 ^ (j - t).toNat) (a := 52 + (i - t).toNat) (b := (F - t).toNat) (by omega) (by rw [Nat.pow_succ]; omega)
  obtain ⟨m', e', g1, g2, g3, g4⟩ := norm_word false (mag := m * 2 ^ (i - t).toNat + n * 2 ^ (j - t).toNat) (place := t) (a := a) (b := F + 1) k0 (by omega) (by omega) h1 (by omega)
  exact ⟨m', e', g1, g2, g3, by omega⟩

theorem rootFrom_bounds (n : Nat) : ∀ (todo root : Nat), root ≤ Datum.rootFrom n todo root ∧ Datum.rootFrom n todo root < root + 2 ^ todo
  | 0, root => ⟨Nat.le_refl _, by show root < root + 1; omega⟩
  | todo + 1, root => by
    have hp := Nat.two_pow_pos todo
    have e : 2 ^ (todo + 1) = 2 * 2 ^ todo := by rw [Nat.pow_succ]; omega
    unfold Datum.rootFrom
    dsimp only
    split
    · have := rootFrom_bounds n todo (root + 1 <<< todo)
      rw [shl, Nat.one_mul] at this ⊢
      omega
    · have := rootFrom_bounds n todo root
      omega

theorem rootFrom_first {n t : Nat} (h : 2 ^ (t + t) ≤ n) : 2 ^ t ≤ Datum.rootFrom n (t + 1) 0 := by
  unfold Datum.rootFrom
  dsimp only
  rw [shl, Nat.one_mul, Nat.zero_add, if_pos (by rw [← Nat.pow_add]; exact h)]
  exact (rootFrom_bounds n t (2 ^ t)).1

theorem Bd.sqrt {a b : Int} {x : F64} (hx : Bd a b x) (h1 : -1022 ≤ a) (h2 : b ≤ 1023) : Bd (a / 2) (b / 2 + 1) (Fx.sqrt x) := by
  obtain ⟨m, i, hx, m1, m2, m3⟩ := hx
  have bm := hx.bound
  obtain ⟨r, rfl, hr⟩ := hx
  have hm0 : m ≠ 0 := by have : 0 < 2 ^ 52 := by decide
                         omega
  have hl := log_norm m1 bm.1
  obtain ⟨p, hp⟩ : ∃ p, p = ((i - ((2 * 54 - m.log2 : Nat) : Int)) % 2).toNat := ⟨_, rfl⟩
  have hs : Fx.sqrt (bx r) = bx (double.nearest false (2 * Datum.rootFrom (m <<< (2 * 54 - m.log2 + p)) ((m <<< (2 * 54 - m.log2 + p)).log2 / 2 + 1) 0 + (Datum.rootFrom (m <<< (2 * 54 - m.log2 + p)) ((m <<< (2 * 54 - m.log2 + p)).log2 / 2 + 1) 0 * Datum.rootFrom (m <<< (2 * 54 - m.log2 + p)) ((m <<< (2 * 54 - m.log2 + p)).log2 / 2 + 1) 0 != m <<< (2 * 54 - m.log2 + p)).toNat) ((i - ((2 * 54 - m.log2 + p : Nat) : Int)) / 2 - 1)) := by
    show (((double.read r).root 54).map double.write : Option Nat) = _
    rw [hr, hp]
    simp only [Datum.root, if_neg hm0]
    rfl
  rw [hs, hl]
  rw [hl] at hp
  have hp2 : p ≤ 1 := by omega
  have e56 : 2 * 54 - 52 = 56 := rfl
  rw [e56] at hp ⊢
  rw [shl, log2_mul_pow hm0, hl]
  have ht : (52 + (56 + p)) / 2 = 54 := by omega
  rw [ht]
  have n1 : 2 ^ (54 + 54) ≤ m * 2 ^ (56 + p) := by
    refine Nat.le_trans ?_ (Nat.mul_le_mul_right _ m1)
    rw [← Nat.pow_add]
    exact Nat.pow_le_pow_right (by decide) (by omega)
  have r1 := rootFrom_first n1
  have r2 := (rootFrom_bounds (m * 2 ^ (56 + p)) (54 + 1) 0).2
  have hb : ∀ c : Bool, c.toNat ≤ 1 := Bool.toNat_le
  generalize hW : Datum.rootFrom (m * 2 ^ (56 + p)) (54 + 1) 0 = W at r1 r2
  have hb2 := hb (W * W != m * 2 ^ (56 + p))
  generalize (W * W != m * 2 ^ (56 + p)).toNat = bit at hb2
  obtain ⟨k0, k1, k2⟩ := log_bounds (n := 2 * W + bit) (a := 55) (b := 55) (by omega) (by omega)
  obtain ⟨m', e', g1, g2, g3, g4⟩ := norm_word false (mag := 2 * W + bit) (place := (i - ((56 + p : Nat) : Int)) / 2 - 1) (a := a / 2) (b := b / 2) k0 (by omega) (by omega) (by omega) (by omega)
  exact ⟨m', e', g1, g2, g3, by omega⟩

end Go.Proofs.Ytlpahmefebgdlaa.Fx
