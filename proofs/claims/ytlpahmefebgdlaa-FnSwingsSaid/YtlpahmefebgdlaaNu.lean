/- The sine, two ways; halves; finite numbers. No condition. -/
import Derived.Test.YtlpahmefebgdlaaNt
import Derived.KernelRfl
namespace Go.Proofs.Ytlpahmefebgdlaa.Fx
open Go Nr Ieee

theorem cmp_gt (a b : Int) : (some (compare a b) == some Ordering.gt) = decide (b < a) := by
  show (some (compareOfLessAndEq a b) == some Ordering.gt) = _
  unfold compareOfLessAndEq
  split
  · simp; omega
  · split <;> simp <;> omega
theorem cmp_lt (a b : Int) : (some (compare a b) == some Ordering.lt) = decide (a < b) := by
  show (some (compareOfLessAndEq a b) == some Ordering.lt) = _
  unfold compareOfLessAndEq
  split
  · simp; omega
  · split <;> simp <;> omega
theorem cmp_eq (a b : Int) : (some (compare a b) == some Ordering.eq) = decide (a = b) := by
  show (some (compareOfLessAndEq a b) == some Ordering.eq) = _
  unfold compareOfLessAndEq
  split
  · simp; omega
  · split <;> simp <;> omega

theorem Num.ord {x y : F64} {s t : Bool} {m n : Nat} {i j : Int} (hx : Num x s m i) (hy : Num y t n j) : Fx.ord x y = some (compare (signed s m (i - min i j).toNat) (signed t n (j - min i j).toNat)) := by
  obtain ⟨r, rfl, hr⟩ := hx
  obtain ⟨q, rfl, hq⟩ := hy
  rw [ord_some, hr, hq]; rfl

theorem num_six52 : Num six52 false (2 ^ 52) 0 := ⟨_, rfl, by decide⟩
theorem num_m52 : Num m52 true (2 ^ 52) 0 := ⟨_, rfl, by decide⟩

/-- The test for great numbers tells the place. -/
theorem test_big {x : F64} {s : Bool} {m : Nat} {e : Int} (h : Num x s m e) : (ge x six52 || le x m52) = decide (0 ≤ e) := by
  obtain ⟨h1, h2, h3⟩ := h.bound
  unfold ge le
  rw [h.ord num_six52, h.ord num_m52]
  simp only [cmp_gt, cmp_eq, cmp_lt, signed_eq]
  by_cases he : 0 ≤ e
  · obtain ⟨k, rfl⟩ := Int.eq_ofNat_of_zero_le he
    have hn := h.normal (by omega)
    have e1 : ((k : Int) - min (k : Int) 0).toNat = k := by omega
    have e2 : ((0 : Int) - min (k : Int) 0).toNat = 0 := by omega
    rw [e1, e2]
    have hz : 2 ^ 52 ≤ m * 2 ^ k := Nat.le_trans hn (Nat.le_mul_of_pos_right _ (Nat.two_pow_pos _))
    generalize m * 2 ^ k = z at hz
    cases s <;> simp <;> omega
  · have e1 : (e - min e 0).toNat = 0 := by omega
    obtain ⟨k, hk⟩ : ∃ k, ((0 : Int) - min e 0).toNat = k + 1 := ⟨(0 - min e 0).toNat - 1, by omega⟩
    rw [e1, hk]
    have hz : m < 2 ^ 52 * 2 ^ (k + 1) := by
      rw [Nat.pow_succ 2 k]
      have := Nat.two_pow_pos k
      omega
    rw [Nat.pow_zero, Nat.mul_one]
    generalize 2 ^ 52 * 2 ^ (k + 1) = z at hz
    cases s <;> simp [he] <;> omega

theorem inf_sub {r : Nat} {s : Bool} (h : double.read r = .infinity s) : bx r - bx r = nn := by
  rw [sub_some, h]; cases s <;> rfl
theorem nan_sub {r : Nat} {s : Bool} {f : Nat} (h : double.read r = .nan s f) (y : F64) : bx r - y = nn := by
  cases y with
  | none => rfl
  | some q => rw [show (some q : Option Nat) = bx q from rfl, sub_some, h]; rfl

def sineS (y : F64) : F64 := bif ne (y - y) zero then nn else bif ge y six52 || le y m52 then zero else
  sineF (bif lt (y - ki (toI y .i64)) zero then y - ki (toI y .i64) + one else y - ki (toI y .i64))

theorem sineF_none : sineF nn = nn := by kernel_rfl
theorem sineF_zero : sineF zero = zero := by kernel_rfl

/-- The two ways to a sine agree. -/
theorem sine_eq (y : F64) : sineS y = sine y := by
  have hnan : behind y = nn → y - y = nn → sineS y = sine y := by
    intro h1 h2
    unfold sineS sine
    rw [h1, h2, sineF_none]
    rfl
  rcases num_cases y with ⟨s, m, e, h⟩ | ⟨r, s, rfl, h⟩ | rfl | ⟨r, s, f, rfl, h⟩
  · unfold sineS
    rw [test_big h, h.sub_self]
    have : ne zero zero = false := by kernel_rfl
    rw [this]
    by_cases he : 0 ≤ e
    · have e1 : decide (0 ≤ e) = true := by simpa using he
      have e2 : behind y = zero := by
        unfold behind
        rw [trunc_big h he]
        kernel_rfl
      rw [e1]
      unfold sine
      rw [e2, sineF_zero]; rfl
    · have e1 : decide (0 ≤ e) = false := by simpa using he
      rw [e1]
      unfold sine behind
      rw [trunc_small h (by omega)]; rfl
  · refine hnan ?_ (inf_sub h)
    have hd : FloatKind.f64.decode r = .infinity s := h
    have hw : whole .zero (bx r) = bx (double.word s double.infRung) := by
      simp only [whole, hd]; rfl
    have hz : bx r - (whole .zero (bx r) + zero) = nn := by
      rw [hw]
      have h2 : bx (double.word s double.infRung) + zero = bx (double.word s double.infRung) := by cases s <;> kernel_rfl
      rw [h2, sub_some, h]
      have h3 : double.read (double.word s double.infRung) = .infinity s := by cases s <;> decide
      rw [h3]; cases s <;> rfl
    unfold behind
    rw [hz]; rfl
  · exact hnan rfl rfl
  · refine hnan ?_ (nan_sub h _)
    unfold behind
    rw [nan_sub h]; rfl

theorem sine_isI {y : F64} (h1 : ne (y - y) zero = false) (h2 : (ge y six52 || le y m52) = false) : isI y .i64 = true := by
  rcases num_cases y with ⟨s, m, e, h⟩ | ⟨r, s, rfl, h⟩ | rfl | ⟨r, s, f, rfl, h⟩
  · rw [test_big h] at h2
    exact (toI_num h (by simpa using h2)).1
  · rw [inf_sub h] at h1; cases h1
  · cases h1
  · rw [nan_sub h] at h1; cases h1

-- halves
theorem num_half : Num half false (2 ^ 52) (-53) := ⟨_, rfl, by decide⟩
theorem num_two : Num two false (2 ^ 52) (-51) := ⟨_, rfl, by decide⟩

theorem half_num {x : F64} {s : Bool} {m : Nat} {e : Int} (h : Num x s m e) : half * x = bx (double.nearest s m (e - 1)) := by
  obtain ⟨r, rfl, hr⟩ := h
  obtain ⟨q, hq, hq2⟩ := num_half
  rw [hq, mul_some, hq2, hr]
  have : (((Datum.number false (2 ^ 52) (-53)).product (Datum.number s m e)).map double.write : Option Nat) = some (double.nearest (false ^^ s) (2 ^ 52 * m) (-53 + e)) := rfl
  rw [this, Bool.false_xor, Nat.mul_comm]
  have h2 := near_scale s m 52 (e - 1)
  rw [← h2]; congr 2; omega

theorem over_num {x : F64} {s : Bool} {m : Nat} {e : Int} (h : Num x s m e) : x / two = bx (double.nearest s m (e - 1)) := by
  obtain ⟨h1, h2, h3⟩ := h.bound
  obtain ⟨r, rfl, hr⟩ := h
  obtain ⟨q, hq, hq2⟩ := num_two
  rw [hq, div_some, hq2, hr]
  have hl : (2 ^ 52 : Nat).log2 = 52 := by decide
  have : (((Datum.number s m e).quotient 54 (Datum.number false (2 ^ 52) (-51))).map double.write : Option Nat) =
      some (double.nearest (s ^^ false) (2 * ((m <<< (54 + 52 - m.log2)) / 2 ^ 52) + (((m <<< (54 + 52 - m.log2)) % 2 ^ 52) != 0).toNat) (e - -51 - ((54 + 52 - m.log2 : Nat) : Int) - 1)) := by
    rw [← hl]
    rfl
  rw [this, Bool.xor_false]
  by_cases hm : m = 0
  · subst hm
    simp [Nat.shiftLeft_eq, nearest_zero]
    rfl
  · have hlog : m.log2 ≤ 52 := by
      have h5 : 2 ^ m.log2 < 2 ^ 53 := Nat.lt_of_le_of_lt (Nat.log2_self_le hm) h1
      have := (Nat.pow_lt_pow_iff_right (by decide)).1 h5
      omega
    obtain ⟨k, hk⟩ : ∃ k, 54 + 52 - m.log2 = k + 52 := ⟨54 - m.log2, by omega⟩
    rw [hk, Nat.shiftLeft_eq, Nat.pow_add, ← Nat.mul_assoc, Nat.mul_div_cancel _ (by decide), Nat.mul_mod_left]
    have h5 := near_scale s m (k + 1) (e - 1)
    rw [← h5]
    have e3 : 2 * (m * 2 ^ k) + ((0 : Nat) != 0).toNat = m * 2 ^ (k + 1) := by
      have e0 : ((0 : Nat) != 0).toNat = 0 := rfl
      rw [e0, Nat.add_zero, Nat.pow_succ, ← Nat.mul_assoc m, Nat.mul_comm 2]
    rw [e3]
    have e4 : e - -51 - ((k + 52 : Nat) : Int) - 1 = e - 1 - ((k + 1 : Nat) : Int) := by omega
    rw [e4]

theorem half_eq (x : F64) : half * x = x / two := by
  rcases num_cases x with ⟨s, m, e, h⟩ | ⟨r, s, rfl, h⟩ | rfl | ⟨r, s, f, rfl, h⟩
  · rw [half_num h, over_num h]
  · obtain ⟨q, hq, hq2⟩ := num_half
    obtain ⟨q', hq', hq2'⟩ := num_two
    rw [hq, hq', mul_some, div_some, hq2, hq2', h]
    cases s <;> rfl
  · rfl
  · obtain ⟨q, hq, hq2⟩ := num_half
    obtain ⟨q', hq', hq2'⟩ := num_two
    rw [hq, hq', mul_some, div_some, hq2, hq2', h]
    rfl

end Go.Proofs.Ytlpahmefebgdlaa.Fx
