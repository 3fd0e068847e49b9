/- Contracts: LeadOf, two ways; its law. No condition. -/
import Derived.Test.YtlpahmefebgdlaaCg
namespace Go.Proofs.Ytlpahmefebgdlaa.Fx
open Go Go.RowKit Nr Ieee

theorem near_of (s : Bool) {mag : Nat} {place last : Int} {c : Nat} (hm : mag ≠ 0) (hl : place + mag.log2 = last + 52) (h1 : -1074 ≤ last) (hc : Toward.even.cut s (mag <<< (place - last).toNat) (last - place).toNat = c) :
    double.nearest s mag place = double.word s (min ((last + 1074).toNat * 2 ^ 52 + c) double.infRung) := by
  have e1 : double.leastPlace = -1074 := by decide
  have e2 : double.fractionBits = 52 := rfl
  have e5 : double.binade = 2 ^ 52 := by decide
  unfold Format.nearest
  rw [if_neg hm]
  dsimp only
  rw [e1, e2, e5]
  have hmax : max (place + (mag.log2 : Int) - ((52 : Nat) : Int)) (-1074) = last := by omega
  rw [hmax, hc]
  have : last - -1074 = last + 1074 := by omega
  rw [this]

theorem cut_up {s : Bool} {q rest d : Nat} (h1 : rest < 2 ^ d) (h2 : 2 ^ d < 2 * rest) (h3 : d ≤ (q * 2 ^ d + rest).log2 + 2) : Toward.even.cut s (q * 2 ^ d + rest) d = q + 1 := by
  unfold Toward.cut
  simp only [shl, Nat.one_mul]
  rw [Nat.min_eq_left h3]
  have a1 : (q * 2 ^ d + rest) / 2 ^ d = q := by
    rw [Nat.mul_comm, Nat.mul_add_div (Nat.two_pow_pos _), Nat.div_eq_of_lt h1, Nat.add_zero]
  have a2 : (q * 2 ^ d + rest) % 2 ^ d = rest := by
    rw [Nat.mul_comm, Nat.mul_add_mod, Nat.mod_eq_of_lt h1]
  rw [a1, a2]
  have : decide (2 ^ d < 2 * rest) = true := by simpa using h2
  rw [this]; rfl

theorem ar1 {m y : Nat} (h : 2 ^ 53 ≤ y) : 2 * (m * (2 * y) + 2 ^ 52) < 2 * (m * (2 * y)) + 2 * y := by
  generalize m * (2 * y) = z
  omega
theorem ar2 {y : Nat} (h : 2 ^ 54 ≤ y) : 2 ^ 52 * (2 * y) - 2 ^ 52 = (2 ^ 53 - 1) * y + (y - 2 ^ 52) := by omega
theorem ar3 {y : Nat} (h : 2 ^ 54 ≤ y) : 2 ^ 52 * y ≤ (2 ^ 53 - 1) * y + (y - 2 ^ 52) ∧ (2 ^ 53 - 1) * y + (y - 2 ^ 52) < 2 ^ 53 * y ∧ y - 2 ^ 52 < y ∧ y < 2 * (y - 2 ^ 52) := by omega
theorem ar4 {q y : Nat} (h : 2 ^ 54 ≤ y) (hq : 2 ^ 52 ≤ q) (hq2 : q + 1 ≤ 2 ^ 53) : (q + 1) * y - 2 ^ 52 = q * y + (y - 2 ^ 52) ∧ 2 ^ 52 * y ≤ q * y + (y - 2 ^ 52) ∧ q * y + (y - 2 ^ 52) < 2 ^ 53 * y ∧ y - 2 ^ 52 < y ∧ y < 2 * (y - 2 ^ 52) := by
  have a1 := Nat.mul_le_mul_right y hq
  have a2 := Nat.mul_le_mul_right y hq2
  rw [Nat.add_mul, Nat.one_mul] at a2 ⊢
  generalize q * y = z at a1 a2 ⊢
  omega
theorem ar5 {m y : Nat} (h : 2 ^ 54 ≤ y) (hm : 2 ^ 52 ≤ m) (hm2 : m < 2 ^ 53) : 2 ^ 52 * y ≤ m * y + 2 ^ 52 ∧ m * y + 2 ^ 52 < 2 ^ 53 * y := by
  have a1 := Nat.mul_le_mul_right y hm
  have a2 := Nat.mul_le_mul_right y (show m + 1 ≤ 2 ^ 53 from hm2)
  rw [Nat.add_mul, Nat.one_mul] at a2
  generalize m * y = z at a1 a2 ⊢
  omega

theorem near_plain {s : Bool} {m : Nat} {e : Int} (h1 : 2 ^ 52 ≤ m) (h2 : m < 2 ^ 53) (he : -1074 ≤ e) : double.nearest s m e = double.word s (min ((e + 1074).toNat * 2 ^ 52 + m) double.infRung) := by
  have hm0 : m ≠ 0 := by have : 0 < 2 ^ 52 := by decide
                         omega
  have hl := log_norm h1 h2
  refine near_of s (last := e) hm0 (by omega) he ?_
  rw [Int.sub_self]
  show Toward.even.cut s (m <<< 0) 0 = m
  rw [cut_zero, Nat.shiftLeft_zero]

theorem absorb_up (s : Bool) {m : Nat} {e : Int} (h1 : 2 ^ 52 ≤ m) (h2 : m < 2 ^ 53) (he : 40 < e) :
    double.nearest s (m * 2 ^ (e + 53).toNat + 2 ^ 52) (-53) = double.nearest s m e := by
  obtain ⟨K, hK⟩ : ∃ K : Nat, (e + 53).toNat = K := ⟨_, rfl⟩
  rw [near_plain h1 h2 (by omega), hK]
  have p2 : 2 ^ 54 ≤ 2 ^ K := Nat.pow_le_pow_right (by decide) (by omega)
  obtain ⟨g1, g2⟩ := ar5 p2 h1 h2
  rw [← Nat.pow_add] at g1 g2
  have e53 : 53 + K = 52 + K + 1 := by omega
  rw [e53] at g2
  obtain ⟨k0, k1, k2⟩ := log_bounds g1 g2
  refine near_of s (last := e) k0 (by omega) (by omega) ?_
  have a1 : (-53 - e).toNat = 0 := by omega
  have a2 : (e - -53).toNat = K := by omega
  rw [a1, a2, Nat.shiftLeft_zero]
  obtain ⟨K', rfl⟩ : ∃ K', K = K' + 1 := ⟨K - 1, by omega⟩
  have h5 : Toward.even.cut s (m * 2 ^ (K' + 1) + 2 ^ 52) (K' + 1) ≤ m := by
    refine cut_lt ?_
    have h8 : (2 * m + 1) * 2 ^ (K' + 1) = 2 * (m * (2 * 2 ^ K')) + 2 * 2 ^ K' := by rw [Nat.add_mul, Nat.one_mul, Nat.mul_assoc, Nat.pow_succ, Nat.mul_comm _ 2]
    have h9 : 2 ^ (K' + 1) = 2 * 2 ^ K' := by rw [Nat.pow_succ, Nat.mul_comm]
    rw [h8, h9]
    exact ar1 (Nat.pow_le_pow_right (by decide) (by omega))
  have h6 := cut_floor s (m * 2 ^ (K' + 1) + 2 ^ 52) (K' + 1)
  have h7 : (m * 2 ^ (K' + 1) + 2 ^ 52) / 2 ^ (K' + 1) = m := by
    rw [Nat.mul_comm, Nat.mul_add_div (Nat.two_pow_pos _), Nat.div_eq_of_lt (Nat.pow_lt_pow_right (by decide) (by omega)), Nat.add_zero]
  rw [h7] at h6
  exact Nat.le_antisymm h5 h6

theorem absorb_down (s : Bool) {m : Nat} {e : Int} (h1 : 2 ^ 52 ≤ m) (h2 : m < 2 ^ 53) (he : 40 < e) :
    double.nearest s (m * 2 ^ (e + 53).toNat - 2 ^ 52) (-53) = double.nearest s m e := by
  rw [near_plain h1 h2 (by omega)]
  by_cases hm : m = 2 ^ 52
  · subst hm
    obtain ⟨K, hK⟩ : ∃ K : Nat, (e + 53).toNat = K + 1 := ⟨(e + 53).toNat - 1, by omega⟩
    have p2 : 2 ^ 54 ≤ 2 ^ K := Nat.pow_le_pow_right (by decide) (by omega)
    have h9 : 2 ^ (K + 1) = 2 * 2 ^ K := by rw [Nat.pow_succ, Nat.mul_comm]
    obtain ⟨g1, g2, g3, g4⟩ := ar3 p2
    rw [hK, h9, ar2 p2]
    rw [← Nat.pow_add] at g1
    rw [← Nat.pow_add 2 53] at g2
    have e53 : 53 + K = 52 + K + 1 := by omega
    rw [e53] at g2
    obtain ⟨k0, k1, k2⟩ := log_bounds g1 g2
    have hL : double.nearest s ((2 ^ 53 - 1) * 2 ^ K + (2 ^ K - 2 ^ 52)) (-53) = double.word s (min ((e - 1 + 1074).toNat * 2 ^ 52 + 2 ^ 53) double.infRung) := by
      refine near_of s (last := e - 1) k0 (by omega) (by omega) ?_
      have a1 : (-53 - (e - 1)).toNat = 0 := by omega
      have a2 : (e - 1 - -53).toNat = K := by omega
      rw [a1, a2, Nat.shiftLeft_zero]
      have e8 : 2 ^ 53 - 1 + 1 = 2 ^ 53 := by omega
      rw [cut_up (q := 2 ^ 53 - 1) g3 g4 (by omega), e8]
    rw [hL]
    have e1 : (e + 1074).toNat = (e - 1 + 1074).toNat + 1 := by omega
    have e2 : (e - 1 + 1074).toNat * 2 ^ 52 + 2 ^ 53 = (e + 1074).toNat * 2 ^ 52 + 2 ^ 52 := by rw [e1]; omega
    rw [e2]
  · obtain ⟨K, hK⟩ : ∃ K : Nat, (e + 53).toNat = K := ⟨_, rfl⟩
    obtain ⟨q, rfl⟩ : ∃ q, m = q + 1 := ⟨m - 1, by omega⟩
    have p2 : 2 ^ 54 ≤ 2 ^ K := Nat.pow_le_pow_right (by decide) (by omega)
    obtain ⟨g0, g1, g2, g3, g4⟩ := ar4 (q := q) p2 (by omega) (by omega)
    rw [hK, g0]
    rw [← Nat.pow_add] at g1
    rw [← Nat.pow_add 2 53] at g2
    have e53 : 53 + K = 52 + K + 1 := by omega
    rw [e53] at g2
    obtain ⟨k0, k1, k2⟩ := log_bounds g1 g2
    refine near_of s (last := e) k0 (by omega) (by omega) ?_
    have a1 : (-53 - e).toNat = 0 := by omega
    have a2 : (e - -53).toNat = K := by omega
    rw [a1, a2, Nat.shiftLeft_zero]
    exact cut_up g3 g4 (by omega)

theorem absorb (s : Bool) {m : Nat} {e : Int} (h1 : 2 ^ 52 ≤ m) (h2 : m < 2 ^ 53) (he : 40 < e) (t : Bool) :
    double.nearest s (if t then m * 2 ^ (e + 53).toNat + 2 ^ 52 else m * 2 ^ (e + 53).toNat - 2 ^ 52) (-53) = double.nearest s m e := by
  cases t with
  | true => rw [if_pos rfl]; exact absorb_up s h1 h2 he
  | false => rw [if_neg (by decide)]; exact absorb_down s h1 h2 he

theorem whole_down {x : F64} {s : Bool} {m : Nat} {e : Int} (h : Num x s m e) : whole .down x = bx (double.nearest s (Toward.down.cut s (m <<< e.toNat) (-e).toNat) 0) := by
  obtain ⟨r, rfl, hr⟩ := h
  have hd : FloatKind.f64.decode r = .number s m e := hr
  simp only [whole, hd]; rfl

theorem down_le (s : Bool) (n d : Nat) : Toward.down.cut s n d ≤ n + 1 := by
  unfold Toward.cut
  simp only [shl, Nat.one_mul]
  refine Nat.add_le_add (Nat.div_le_self _ _) (Bool.toNat_le _)

theorem floor_up {E : Int} {x : F64} (h : Up E x) (h1 : 54 ≤ E) (h2 : E ≤ 1000) : Up E (whole .down x) := by
  obtain ⟨s, m, e, hx, hm⟩ := h
  have hb := hx.bound
  rw [whole_down hx]
  have hle : Le2 (Toward.down.cut s (m <<< e.toNat) (-e).toNat) 0 E := by
    right
    refine ⟨by omega, ?_⟩
    by_cases he : 0 ≤ e
    · have a1 : (-e).toNat = 0 := by omega
      rw [a1, cut_zero, shl]
      rcases hm with rfl | ⟨k1, k2⟩
      · rw [Nat.zero_mul]; exact Nat.zero_le _
      · refine Nat.le_trans (Nat.mul_le_mul_right _ k2) ?_
        rw [← Nat.pow_add]
        exact Nat.pow_le_pow_right (by decide) (by omega)
    · have a1 : e.toNat = 0 := by omega
      rw [a1, Nat.shiftLeft_zero]
      refine Nat.le_trans (down_le _ _ _) ?_
      refine Nat.le_trans (show m + 1 ≤ 2 ^ 54 by have := hb.1; omega) ?_
      exact Nat.pow_le_pow_right (by decide) (by omega)
  obtain ⟨m', e', h3, h4⟩ := num_word s hle (by omega) (by omega)
  exact ⟨_, _, _, h3, h4⟩

/-- A number less the whole number next to it does not become too great. -/
theorem round_fits {g : F64} {s : Bool} {m : Nat} {e : Int} (h : Num g s m e) : fits (g - whole .down (g + half)) = true := by
  have hb := h.bound
  by_cases he : e ≤ 40
  · have hg : Up 93 g := ⟨s, m, e, h, .inr ⟨by omega, Nat.le_trans (Nat.le_of_lt hb.1) (Nat.pow_le_pow_right (by decide) (by omega))⟩⟩
    have hw := hg.add (up_half.mono (by decide)) (by decide) (by decide)
    have hf := floor_up hw (by decide) (by decide)
    exact (((hg.mono (by decide)).sub hf (by decide) (by decide)).mono (by decide)).narrow.1
  · have hn := h.normal (by omega)
    have hw : g + half = bx (double.nearest s m e) := by
      rw [h.add num_half]
      unfold addW
      have hmin : min e (-53) = -53 := by omega
      rw [hmin]
      have a0 : ((-53 : Int) - -53).toNat = 0 := by decide
      have a1 : (e - -53).toNat = (e + 53).toNat := by omega
      rw [a0, a1]
      have hbig : 2 ^ 52 < m * 2 ^ (e + 53).toNat := by
        have k1 : 2 ^ 1 ≤ 2 ^ (e + 53).toNat := Nat.pow_le_pow_right (by decide) (by omega)
        have k2 := Nat.mul_le_mul hn k1
        omega
      have hs : (if signed s m (e + 53).toNat + signed false (2 ^ 52) 0 = 0 then s && false else decide (signed s m (e + 53).toNat + signed false (2 ^ 52) 0 < 0)) = s := by
        rw [signed_eq, signed_eq]
        generalize m * 2 ^ (e + 53).toNat = z at hbig
        cases s <;> simp <;> omega
      have hT : (signed s m (e + 53).toNat + signed false (2 ^ 52) 0).natAbs = if (!s) then m * 2 ^ (e + 53).toNat + 2 ^ 52 else m * 2 ^ (e + 53).toNat - 2 ^ 52 := by
        rw [signed_eq, signed_eq]
        generalize m * 2 ^ (e + 53).toNat = z at hbig
        cases s <;> simp <;> omega
      rw [hs, hT, absorb s hn hb.1 (by omega)]
    obtain ⟨j, hj⟩ := num_near s hb.1 hb.2.1 hb.2.2
    have hj0 : j = 0 := by
      have := hj.bound.1
      cases j with
      | zero => rfl
      | succ j =>
        exfalso
        have k := Nat.two_pow_pos j
        rw [Nat.pow_succ, Nat.mul_comm (2 ^ j), ← Nat.mul_assoc] at this
        have k2 : m * 2 * 1 ≤ m * 2 * 2 ^ j := Nat.mul_le_mul_left _ k
        omega
    subst hj0
    have hN : Num (bx (double.nearest s m e)) s m e := by simpa using hj
    have hfl : whole .down (g + half) = bx (double.nearest s m e) := by
      rw [hw, whole_down hN]
      obtain ⟨k, rfl⟩ := Int.eq_ofNat_of_zero_le (show 0 ≤ e by omega)
      have a1 : (-(k : Int)).toNat = 0 := by omega
      have a2 : (k : Int).toNat = k := by omega
      have a3 := near_scale s m k (k : Int)
      rw [Int.sub_self] at a3
      rw [a1, a2, cut_zero, shl, a3]
    rw [hfl, h.sub_same (j := 0) (by simpa using hN)]
    exact (up_zero 127).narrow.1

-- LeadOf
def rounds (m a : F64) : F64 := sqrt (((a * a) * a) / m)
def transfer (m a b : F64) : F64 := pi * rounds m ((a + b) / two)
def leadG (m a b : F64) : F64 := half - transfer m a b / (full * rounds m b)
def lead (m a b : F64) : F64 := leadG m a b - whole .down (leadG m a b + half)
def circle (m a : F64) : F64 := sqrt (m / a)
def speedAt (m a c : F64) : F64 := sqrt (m * (two / a - one / c))
def eRounds : Entry Try.prog := { f := 86, fn := shDD fun m a => rD (rounds m a), ok := okDD (E := [eSqrt]) Try.func86 (by kernel_rfl) fun m a _ => by kernel_rfl }
def eTransfer : Entry Try.prog := { f := 125, fn := shDDD fun m a b => rD (transfer m a b), ok := okDDD (E := [eRounds]) Try.func125 (by kernel_rfl) fun m a b _ => by kernel_rfl }
def eLead : Entry Try.prog := { f := 85, fn := shDDD fun m a b => rD (lead m a b), ok := okDDD (E := [eTransfer, eRounds, eFloor]) Try.func85 (by kernel_rfl) fun m a b _ => by kernel_rfl }
/-- A positive 32-bit number in 64 bits. -/
theorem above_bd {x : F32} (h : aboveS x = true) : Bd (-149) 128 (widen x) := by
  unfold aboveS at h
  rw [Bool.and_eq_true] at h
  obtain ⟨s, m, e, hx⟩ := fin_num h.1
  obtain ⟨b1, b2, b3⟩ := hx.bound
  have hpos : s = false ∧ m ≠ 0 := by
    obtain ⟨r, rfl, hr⟩ := hx
    obtain ⟨z, hz, hz2⟩ := num_zero32
    have h2 := h.2
    unfold gt at h2
    rw [hz, ord_sx, hr, hz2] at h2
    have e2 : (some (compare (signed s m (e - min e (-149)).toNat) (signed false 0 ((-149 : Int) - min e (-149)).toNat)) == some Ordering.gt) = true := h2
    rw [cmp_gt, signed_eq, signed_eq, Nat.zero_mul] at e2
    by_cases hm : m = 0
    · subst hm; rw [Nat.zero_mul] at e2; cases s <;> simp at e2
    · refine ⟨?_, hm⟩
      cases s with
      | false => rfl
      | true =>
        exfalso
        generalize m * 2 ^ (e - min e (-149)).toNat = z at e2
        simp at e2
        omega
  obtain ⟨rfl, hm⟩ := hpos
  have hlog : m.log2 ≤ 23 := by
    have h5 : 2 ^ m.log2 < 2 ^ 24 := Nat.lt_of_le_of_lt (Nat.log2_self_le hm) b1
    have := (Nat.pow_lt_pow_iff_right (by decide)).1 h5
    omega
  obtain ⟨m', e', g1, g2, g3, g4⟩ := norm_word false (mag := m) (place := e) (a := -149) (b := 127) hm (by omega) (by omega) (by decide) (by decide)
  refine ⟨m', e', ?_, g2, g3, g4⟩
  obtain ⟨r, rfl, hr⟩ := hx
  obtain ⟨q, hq, hq2⟩ := g1
  have hd : FloatKind.f32.decode r = .number false m e := hr
  have hd2 : FloatKind.f64.decode (FloatKind.f64.encode (.number false m e)) = .number false m' e' := by cases hq; exact hq2
  refine ⟨q, ?_, hq2⟩
  rw [← hq]
  show floatToFloatBits .f32 r .f64 = _
  unfold floatToFloatBits
  rw [if_neg (by decide)]
  simp only [hd, hd2]
  rfl

theorem bd_two : Bd 1 1 two := ⟨2 ^ 52, -51, ⟨_, rfl, by decide⟩, by decide, by decide, by decide⟩
theorem bd_pi : Bd 1 1 pi := ⟨7074237752028440, -51, ⟨4614256656552045848, rfl, by decide⟩, by decide, by decide, by decide⟩
theorem bd_full : Bd 2 2 full := ⟨7074237752028440, -50, ⟨4618760256179416344, rfl, by decide⟩, by decide, by decide, by decide⟩

theorem lead_fits {m a b : F32} (hm : aboveS m = true) (ha : aboveS a = true) (hb : aboveS b = true) : fits (lead (widen m) (widen a) (widen b)) = true := by
  have bm := above_bd hm
  have ba := above_bd ha
  have bb := above_bd hb
  obtain ⟨n, j, hn, hl⟩ := bb.num
  have hc := ba.add hn hl (F := 129) (by decide) (by decide) (by decide) (by decide)
  have hc2 := hc.div bd_two (by decide) (by decide)
  have hr := ((((hc2.mul hc2 (by decide) (by decide)).mul hc2 (by decide) (by decide)).div bm (by decide) (by decide)).sqrt (by decide) (by decide))
  have ht := bd_pi.mul hr (by decide) (by decide)
  have hr2 := ((((bb.mul bb (by decide) (by decide)).mul bb (by decide) (by decide)).div bm (by decide) (by decide)).sqrt (by decide) (by decide))
  have hq := ht.div (bd_full.mul hr2 (by decide) (by decide)) (by decide) (by decide)
  obtain ⟨s, m', e, hg, _⟩ := (up_half.mono (by decide : (-1 : Int) ≤ 900)).sub (hq.up.mono (by decide)) (by decide) (by decide)
  exact round_fits hg

def ldN (m a b : F32) : F32 := narrow (lead (widen m) (widen a) (widen b))
def ldV (m a b : F32) : F32 := bif above3 m a b then giveV (ldN m a b) else c32 0
def ldB (m a b : F32) : Bool := bif above3 m a b then giveB (ldN m a b) else false
theorem above3_fits {m a b : F32} (h : above3 m a b = true) : fits (lead (widen m) (widen a) (widen b)) = true := by
  unfold above3 at h
  simp only [Bool.and_eq_true] at h
  exact lead_fits h.1.1 h.1.2 h.2
theorem eLeadOf_run (m a b : F32) : run Try.prog [eAreLengths3, eLead, eNarrowed] Try.f35 [.c (.fl .f32 m), .c (.fl .f32 a), .c (.fl .f32 b)] [] = some (.tup [.fl .f32 (ldV m a b), .sb (ldB m a b)]) := by
  have h : run Try.prog [eAreLengths3, eLead, eNarrowed] Try.f35 [.c (.fl .f32 m), .c (.fl .f32 a), .c (.fl .f32 b)] [] = bif !(aLength m && aLength a && aLength b) then Zr else
    bif fits (lead (widen m) (widen a) (widen b)) then some (.tup [.fl .f32 (toldV (ldN m a b)), .sb (toldB (ldN m a b))]) else none := by kernel_rfl
  rw [h, long_eq, long_eq, long_eq, (told_give _).1, (told_give _).2]
  have e : (aboveS m && aboveS a && aboveS b) = above3 m a b := rfl
  rw [e]
  unfold ldV ldB
  cases h1 : above3 m a b
  · rfl
  · rw [above3_fits h1]; rfl
def eLeadOf : Entry Try.prog := { f := 35, fn := shSSS fun m a b => rSB (ldV m a b) (ldB m a b), ok := okSSS (E := [eAreLengths3, eLead, eNarrowed]) Try.func35 (by kernel_rfl) fun m a b _ => eLeadOf_run m a b }
end Go.Proofs.Ytlpahmefebgdlaa.Fx
