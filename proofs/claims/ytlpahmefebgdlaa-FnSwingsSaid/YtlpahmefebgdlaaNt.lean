/- Numbers: sums that cancel, whole numbers, halves, sines. No condition. -/
import Derived.Test.YtlpahmefebgdlaaCc
import Derived.Test.YtlpahmefebgdlaaNs
namespace Go.Proofs.Ytlpahmefebgdlaa.Fx
open Go Nr Ieee

abbrev bx (r : Nat) : F64 := some r
abbrev nn : F64 := none

/-- A 64-bit float that is a number. -/
def Num (x : F64) (s : Bool) (m : Nat) (e : Int) : Prop := ∃ r, x = bx r ∧ double.read r = .number s m e

theorem Num.bound {x : F64} {s : Bool} {m : Nat} {e : Int} (h : Num x s m e) : m < 2 ^ 53 ∧ -1074 ≤ e ∧ e ≤ 971 := by
  obtain ⟨r, rfl, hr⟩ := h
  obtain ⟨h1, h2, h3⟩ := read_number hr
  have e1 : double.leastPlace = -1074 := by decide
  have e2 : (2 ^ double.exponentBits - 3 : Nat) = 2045 := by decide
  exact ⟨h1, by omega, by omega⟩

theorem Num.normal {x : F64} {s : Bool} {m : Nat} {e : Int} (h : Num x s m e) (he : -1074 < e) : 2 ^ 52 ≤ m := by
  obtain ⟨r, rfl, hr⟩ := h
  have e1 : double.leastPlace = -1074 := by decide
  have e2 : double.binade = 2 ^ 52 := by decide
  unfold Format.read at hr
  dsimp only at hr
  split at hr
  · cases hr; omega
  · split at hr
    · cases hr; omega
    · split at hr <;> cases hr

theorem num_cases (x : F64) : (∃ s m e, Num x s m e) ∨ (∃ r s, x = bx r ∧ double.read r = .infinity s) ∨ (x = nn ∨ ∃ r s f, x = bx r ∧ double.read r = .nan s f) := by
  cases x with
  | none => exact .inr (.inr (.inl rfl))
  | some r =>
    cases h : double.read r with
    | number s m e => exact .inl ⟨s, m, e, r, rfl, h⟩
    | infinity s => exact .inr (.inl ⟨r, s, rfl, h⟩)
    | nan s f => exact .inr (.inr (.inr ⟨r, s, f, rfl, h⟩))

theorem add_some (a b : Nat) : bx a + bx b = (((double.read a).sum (double.read b)).map double.write : Option Nat) := rfl
theorem sub_some (a b : Nat) : bx a - bx b = (((double.read a).sum (double.read b).opposite).map double.write : Option Nat) := rfl
theorem mul_some (a b : Nat) : bx a * bx b = (((double.read a).product (double.read b)).map double.write : Option Nat) := rfl
theorem div_some (a b : Nat) : bx a / bx b = (((double.read a).quotient 54 (double.read b)).map double.write : Option Nat) := rfl
theorem ord_some (a b : Nat) : ord (bx a) (bx b) = (double.read a).order (double.read b) := rfl
theorem none_add (x : F64) : nn + x = nn := rfl
theorem none_sub (x : F64) : nn - x = nn := rfl
theorem none_mul (x : F64) : nn * x = nn := rfl
theorem none_div (x : F64) : nn / x = nn := rfl
theorem add_none (x : F64) : x + nn = nn := by cases x <;> rfl
theorem sub_none (x : F64) : x - nn = nn := by cases x <;> rfl
theorem mul_none (x : F64) : x * nn = nn := by cases x <;> rfl
theorem div_none (x : F64) : x / nn = nn := by cases x <;> rfl
theorem ord_none (x : F64) : ord x nn = none := by cases x <;> rfl

/-- The word of a sum. -/
def addW (s : Bool) (m : Nat) (i : Int) (t : Bool) (n : Nat) (j : Int) : Nat :=
  double.nearest (if signed s m (i - min i j).toNat + signed t n (j - min i j).toNat = 0 then s && t else signed s m (i - min i j).toNat + signed t n (j - min i j).toNat < 0)
    (signed s m (i - min i j).toNat + signed t n (j - min i j).toNat).natAbs (min i j)

theorem Num.add {x y : F64} {s t : Bool} {m n : Nat} {i j : Int} (hx : Num x s m i) (hy : Num y t n j) : x + y = bx (addW s m i t n j) := by
  obtain ⟨r, rfl, hr⟩ := hx
  obtain ⟨q, rfl, hq⟩ := hy
  rw [add_some, hr, hq]; rfl
theorem Num.sub {x y : F64} {s t : Bool} {m n : Nat} {i j : Int} (hx : Num x s m i) (hy : Num y t n j) : x - y = bx (addW s m i (!t) n j) := by
  obtain ⟨r, rfl, hr⟩ := hx
  obtain ⟨q, rfl, hq⟩ := hy
  rw [sub_some, hr, hq]; rfl

theorem nearest_zero (s : Bool) (e : Int) : double.nearest s 0 e = double.word s 0 := by unfold Format.nearest; rw [if_pos rfl]

theorem addW_cancel (s : Bool) (m j : Nat) (e : Int) : addW s m e (!s) (m * 2 ^ j) (e - j) = 0 := by
  have hb : min e (e - (j : Int)) = e - j := by omega
  have e1 : (e - (e - (j : Int))).toNat = j := by omega
  have e2 : (e - (j : Int) - (e - (j : Int))).toNat = 0 := by omega
  unfold addW
  rw [hb, e1, e2]
  have : signed s m j + signed (!s) (m * 2 ^ j) 0 = 0 := by
    cases s <;> simp [signed, Nat.shiftLeft_eq] <;> omega
  rw [this]
  cases s <;> rfl

theorem Num.sub_same {x y : F64} {s : Bool} {m j : Nat} {e : Int} (hx : Num x s m e) (hy : Num y s (m * 2 ^ j) (e - j)) : x - y = zero := by
  rw [hx.sub hy, addW_cancel]; rfl
theorem Num.sub_self {x : F64} {s : Bool} {m : Nat} {e : Int} (hx : Num x s m e) : x - x = zero := by
  refine hx.sub_same (j := 0) ?_
  simpa using hx

theorem num_zero : Num zero false 0 (-1074) := ⟨0, rfl, by decide⟩

theorem signed_natAbs (s : Bool) (m k : Nat) : (signed s m k).natAbs = m * 2 ^ k := by cases s <;> simp [signed, Nat.shiftLeft_eq, Int.natAbs_mul]
theorem signed_eq (s : Bool) (m k : Nat) : signed s m k = if s then -((m * 2 ^ k : Nat) : Int) else ((m * 2 ^ k : Nat) : Int) := by cases s <;> simp [signed, Nat.shiftLeft_eq]

theorem Num.add_zero0 {x : F64} {s : Bool} {e : Int} (hx : Num x s 0 e) : x + zero = zero := by
  rw [hx.add num_zero]
  unfold addW
  have h1 : ∀ k, signed s 0 k = 0 := by intro k; cases s <;> simp [signed]
  have h2 : ∀ k, signed false 0 k = 0 := by intro k; simp [signed]
  rw [h1, h2]
  cases s <;> rfl

theorem Num.add_zero {x : F64} {s : Bool} {m : Nat} {e : Int} (hx : Num x s m e) (hm : m ≠ 0) : x + zero = bx (double.nearest s m e) := by
  obtain ⟨h1, h2, h3⟩ := hx.bound
  rw [hx.add num_zero]
  have hb : min e (-1074) = -1074 := by omega
  unfold addW
  rw [hb]
  obtain ⟨k, hk⟩ := Int.eq_ofNat_of_zero_le (show 0 ≤ e - (-1074) by omega)
  have e1 : (e - -1074).toNat = k := by omega
  rw [e1]
  have e2 : signed false 0 (-1074 - -1074 : Int).toNat = 0 := rfl
  rw [e2, Int.add_zero]
  have hne : m * 2 ^ k ≠ 0 := Nat.mul_ne_zero hm (by have := Nat.two_pow_pos k; omega)
  have hs : ∀ b : Bool, (if signed s m k = 0 then b else decide (signed s m k < 0)) = s := by
    intro b
    rw [signed_eq]
    generalize m * 2 ^ k = z at hne
    cases s
    · rw [if_neg (by simpa using hne)]; simp
    · rw [if_neg (by simpa using hne)]; simp; omega
  rw [hs, signed_natAbs]
  have := nearest_scale double s m k e
  rw [← this]; congr 2; omega

theorem whole_num {x : F64} {s : Bool} {m : Nat} {e : Int} (h : Num x s m e) : whole .zero x = bx (double.nearest s (Toward.zero.cut s (m <<< e.toNat) (-e).toNat) 0) := by
  obtain ⟨r, rfl, hr⟩ := h
  have hd : FloatKind.f64.decode r = .number s m e := hr
  simp only [whole, hd]; rfl

theorem num_near (s : Bool) {m : Nat} {e : Int} (hm : m < 2 ^ 53) (he : -1074 ≤ e) (h2 : e ≤ 971) : ∃ j : Nat, Num (bx (double.nearest s m e)) s (m * 2 ^ j) (e - j) := by
  obtain ⟨j, hj, _⟩ := double_exact s hm he h2
  exact ⟨j, _, rfl, hj⟩

theorem near_scale (s : Bool) (m j : Nat) (e : Int) : double.nearest s (m * 2 ^ j) (e - j) = double.nearest s m e := nearest_scale double s m j e

/-- A great number is whole. -/
theorem trunc_big {x : F64} {s : Bool} {m : Nat} {e : Int} (h : Num x s m e) (he : 0 ≤ e) : x - (whole .zero x + zero) = zero := by
  obtain ⟨h1, h2, h3⟩ := h.bound
  obtain ⟨k, rfl⟩ := Int.eq_ofNat_of_zero_le he
  have hm : m ≠ 0 := by have := h.normal (by omega); have : 0 < 2 ^ 52 := by decide
                        omega
  have e1 : (-(k : Int)).toNat = 0 := by omega
  have e2 : (k : Int).toNat = k := by omega
  have hw := whole_num h
  rw [e1, e2, cut_zero, Nat.shiftLeft_eq] at hw
  have hs := near_scale s m k (k : Int)
  rw [Int.sub_self] at hs
  rw [hs] at hw
  obtain ⟨j, hj⟩ := num_near s h1 h2 h3
  rw [hw, hj.add_zero (Nat.mul_ne_zero hm (by have := Nat.two_pow_pos j; omega)), near_scale]
  exact h.sub_same hj

theorem toI_num {x : F64} {s : Bool} {m : Nat} {e : Int} (h : Num x s m e) (he : e < 0) : isI x .i64 = true ∧ toI x .i64 = signed s (m / 2 ^ (-e).toNat) 0 ∧ m / 2 ^ (-e).toNat < 2 ^ 52 := by
  obtain ⟨h1, h2, h3⟩ := h.bound
  obtain ⟨r, rfl, hr⟩ := h
  have hd : FloatKind.f64.decode r = .number s m e := hr
  have e1 : e.toNat = 0 := by omega
  have hq : m / 2 ^ (-e).toNat < 2 ^ 52 := by
    apply (Nat.div_lt_iff_lt_mul (Nat.two_pow_pos _)).2
    have : 2 ^ 1 ≤ 2 ^ (-e).toNat := Nat.pow_le_pow_right (by decide) (by omega)
    omega
  have hi : (FloatKind.f64.decode r).toInt .zero = some (signed s (m / 2 ^ (-e).toNat) 0) := by
    rw [hd]; simp only [Datum.toInt, Datum.integral, e1, Nat.shiftLeft_zero, cut_down]
  have hr2 : IntKind.i64.min ≤ signed s (m / 2 ^ (-e).toNat) 0 ∧ signed s (m / 2 ^ (-e).toNat) 0 ≤ IntKind.i64.max := by
    rw [signed_eq]
    have a1 : IntKind.i64.min = -9223372036854775808 := by decide
    have a2 : IntKind.i64.max = 9223372036854775807 := by decide
    rw [a1, a2]
    generalize m / 2 ^ (-e).toNat = z at hq
    cases s <;> simp <;> omega
  have hv : floatToIntVal .f64 r .i64 = some (signed s (m / 2 ^ (-e).toNat) 0) := by
    unfold floatToIntVal; rw [hi]; simp only; rw [if_pos hr2]
  refine ⟨?_, ?_, hq⟩
  · show (floatToIntVal .f64 r .i64).isSome = true
    rw [hv]; rfl
  · show (floatToIntVal .f64 r .i64).getD 0 = _
    rw [hv]; rfl

theorem trunc_small {x : F64} {s : Bool} {m : Nat} {e : Int} (h : Num x s m e) (he : e < 0) : whole .zero x + zero = ki (toI x .i64) := by
  obtain ⟨h1, h2, hq⟩ := toI_num h he
  have e1 : e.toNat = 0 := by omega
  have hw := whole_num h
  rw [e1, Nat.shiftLeft_zero, cut_down] at hw
  rw [hw, h2]
  generalize m / 2 ^ (-e).toNat = q at hq
  obtain ⟨j, hj⟩ := num_near s (m := q) (e := 0) (by omega) (by omega) (by omega)
  have hk : ki (signed s q 0) = bx (double.nearest (decide (signed s q 0 < 0)) (signed s q 0).natAbs 0) := rfl
  by_cases h0 : q = 0
  · subst h0
    rw [Nat.zero_mul] at hj
    rw [hj.add_zero0]
    cases s <;> rfl
  · rw [hj.add_zero (Nat.mul_ne_zero h0 (by have := Nat.two_pow_pos j; omega)), near_scale, hk, signed_natAbs]
    have : decide (signed s q 0 < 0) = s := by
      rw [signed_eq]; cases s <;> simp; omega
    rw [this, Nat.pow_zero, Nat.mul_one]

end Go.Proofs.Ytlpahmefebgdlaa.Fx
