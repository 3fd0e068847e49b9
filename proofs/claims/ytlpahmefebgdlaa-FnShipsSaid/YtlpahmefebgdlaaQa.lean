/- Texts put together: Fx, Nr, Fy, Ex, Ey. No condition. -/
import Derived.WalkKit
import Derived.Laws.FloatArith
import Derived.Laws.ComplexArith
import Derived.Deep.Draws
import Ieee.Arith
import Derived.Laws.FloatBits
import Derived.Below
import Derived.Laws.Externs
import Derived.Laws.Small
import Derived.Laws.Tables
import Derived.Laws.CopyRow
import Derived.Laws.Cells
import Derived.Laws.Slices
import Derived.Great.BuildSlice
/- Floats up to the bits of their not-a-numbers: the values that the model computes with, and the walk's laws for them. No condition. -/
namespace Go.Proofs.Ytlpahmefebgdlaa.Fx
open Go

/-- A float of a kind: its bits; none for every not-a-number. -/
def Fl (_ : FloatKind) : Type := Option Nat
abbrev F64 := Fl .f64
abbrev F32 := Fl .f32

/-- The not-a-number with the number t. -/
def nanW : FloatKind → Nat → Nat
  | .f32, t => (t % 2) * 2 ^ 31 + 0x7f800000 + 1 + (t / 2) % (2 ^ 23 - 1)
  | .f64, t => (t % 2) * 2 ^ 63 + 0x7ff0000000000000 + 1 + (t / 2) % (2 ^ 52 - 1)

/-- The bits of a float, where t chooses among the not-a-numbers. -/
def B {k : FloatKind} (x : Fl k) (t : Nat) : Nat :=
  match x with
  | some r => r
  | none => nanW k t

def lit (k : FloatKind) (r : Nat) : Fl k := some r

def bin (op : BinOp) {k : FloatKind} (x y : Fl k) : Fl k :=
  match x, y with
  | some a, some b => floatBits op k a b
  | _, _ => none

def ord {k : FloatKind} (x y : Fl k) : Option Ordering :=
  match x, y with
  | some a, some b => k.format.order a b
  | _, _ => none

instance {k} : Add (Fl k) := ⟨bin .add⟩
instance {k} : Sub (Fl k) := ⟨bin .sub⟩
instance {k} : Mul (Fl k) := ⟨bin .mul⟩
instance {k} : Div (Fl k) := ⟨bin .quo⟩

theorem read_nanW (k : FloatKind) (t : Nat) : ∃ s f, k.format.read (nanW k t) = .nan s f := by
  cases k
  · have h1 : t % 2 < 2 := Nat.mod_lt _ (by decide)
    have h2 : (t / 2) % (2 ^ 23 - 1) < 2 ^ 23 - 1 := Nat.mod_lt _ (by decide)
    have e1 : (nanW .f32 t) % 2 ^ 31 = 0x7f800000 + 1 + (t / 2) % (2 ^ 23 - 1) := by
      show ((t % 2) * 2 ^ 31 + 0x7f800000 + 1 + (t / 2) % (2 ^ 23 - 1)) % 2 ^ 31 = _; omega
    have e : FloatKind.f32.format.signWeight = 2 ^ 31 := by decide
    have eb : FloatKind.f32.format.binade = 2 ^ 23 := by decide
    have ei : FloatKind.f32.format.infRung = 0x7f800000 := by decide
    unfold Ieee.Format.read
    simp only [e, eb, ei, e1]
    rw [if_neg (by omega), if_neg (by omega), if_neg (by omega)]
    exact ⟨_, _, rfl⟩
  · have h1 : t % 2 < 2 := Nat.mod_lt _ (by decide)
    have h2 : (t / 2) % (2 ^ 52 - 1) < 2 ^ 52 - 1 := Nat.mod_lt _ (by decide)
    have e1 : (nanW .f64 t) % 2 ^ 63 = 0x7ff0000000000000 + 1 + (t / 2) % (2 ^ 52 - 1) := by
      show ((t % 2) * 2 ^ 63 + 0x7ff0000000000000 + 1 + (t / 2) % (2 ^ 52 - 1)) % 2 ^ 63 = _; omega
    have e : FloatKind.f64.format.signWeight = 2 ^ 63 := by decide
    have eb : FloatKind.f64.format.binade = 2 ^ 52 := by decide
    have ei : FloatKind.f64.format.infRung = 0x7ff0000000000000 := by decide
    unfold Ieee.Format.read
    simp only [e, eb, ei, e1]
    rw [if_neg (by omega), if_neg (by omega), if_neg (by omega)]
    exact ⟨_, _, rfl⟩

section
variable {k : FloatKind}

theorem floatBits_nanl (op : BinOp) (t b : Nat) : floatBits op k (nanW k t) b = none := by
  obtain ⟨s, f, h⟩ := read_nanW k t
  unfold floatBits
  split <;> simp [Ieee.Format.add, Ieee.Format.sub, Ieee.Format.mul, Ieee.Format.div, h, Ieee.Datum.sum, Ieee.Datum.product, Ieee.Datum.quotient]

theorem floatBits_nanr (op : BinOp) (t b : Nat) : floatBits op k b (nanW k t) = none := by
  obtain ⟨s, f, h⟩ := read_nanW k t
  unfold floatBits
  split
  · simp only [Ieee.Format.add, h]; cases k.format.read b <;> simp [Ieee.Datum.sum]
  · simp only [Ieee.Format.sub, h, Ieee.Datum.opposite]; cases k.format.read b <;> simp [Ieee.Datum.sum]
  · simp only [Ieee.Format.mul, h]; cases k.format.read b <;> simp [Ieee.Datum.product]
  · simp only [Ieee.Format.div, h]; cases k.format.read b <;> simp [Ieee.Datum.quotient]
  · rfl

theorem floatBits_B (op : BinOp) (x y : Fl k) (t s : Nat) : floatBits op k (B x t) (B y s) = bin op x y := by
  cases x with
  | none => simp only [B, floatBits_nanl]; cases y <;> rfl
  | some a => cases y with
    | none => simp only [B, floatBits_nanr]; rfl
    | some b => rfl

theorem order_B (x y : Fl k) (t s : Nat) : k.format.order (B x t) (B y s) = ord x y := by
  cases x with
  | none =>
    obtain ⟨s', f, h⟩ := read_nanW k t
    simp only [B, Ieee.Format.order, h, Ieee.Datum.order]; cases y <;> rfl
  | some a => cases y with
    | none =>
      obtain ⟨s', f, h⟩ := read_nanW k s
      simp only [B, Ieee.Format.order, h]; cases k.format.read a <;> rfl
    | some b => rfl

/-- A word is a float. -/
def Is (k : FloatKind) (b : Nat) (x : Fl k) : Prop := ∃ t, b = B x t
theorem Is.mk (x : Fl k) (t : Nat) : Is k (B x t) x := ⟨t, rfl⟩
theorem Is.lit (r : Nat) : Is k r (Fx.lit k r) := ⟨0, rfl⟩

theorem nan_cut (k : FloatKind) (x y t : Nat) : Question.cut (.nanBits k x y) t = nanW k t := by cases k <;> rfl

variable {P : Program}

theorem run_arith (op : BinOp) (hop : op = .add ∨ op = .sub ∨ op = .mul ∨ op = .quo) {a b : Nat} {x y : Fl k} (ha : Is k a x) (hb : Is k b y) (w : World) :
    ∃ t n, (Op.floatArith op k a b).run P w = .ok (.float k (B (bin op x y) t)) (w.drewN n) := by
  obtain ⟨t, rfl⟩ := ha
  obtain ⟨s, rfl⟩ := hb
  have h := floatBits_B op x y t s
  cases hr : bin op x y with
  | some r =>
    rw [hr] at h
    exact ⟨0, 0, by rw [run_floatArith w h]; rfl⟩
  | none =>
    rw [hr] at h
    refine ⟨w.tape w.drawn (.nanBits k (B x t) (B y s)), 1, ?_⟩
    have hn := nan_cut k (B x t) (B y s)
    rcases hop with rfl | rfl | rfl | rfl <;>
    · simp only [floatBits] at h
      simp only [Op.floatArith, bind, pure, Sem.bind, h, choose, Sem.run, Question.forced, hn]
      rfl
end

theorem xor_top {n r : Nat} (h : r < 2 ^ n) : r ^^^ 2 ^ n = 2 ^ n + r := by
  apply Nat.eq_of_testBit_eq
  intro i
  rw [Nat.testBit_xor, Nat.testBit_two_pow]
  rcases Nat.lt_trichotomy i n with hi | rfl | hi
  · rw [Nat.testBit_two_pow_add_gt hi]
    simp [Nat.ne_of_gt hi]
  · rw [Nat.testBit_two_pow_add_eq, Nat.testBit_lt_two_pow h]; simp
  · have h1 : r.testBit i = false := Nat.testBit_lt_two_pow (Nat.lt_of_lt_of_le h (Nat.pow_le_pow_right (by decide) (Nat.le_of_lt hi)))
    have h2 : (2 ^ n + r).testBit i = false := Nat.testBit_lt_two_pow (Nat.lt_of_lt_of_le (by rw [Nat.pow_succ]; omega) (Nat.pow_le_pow_right (by decide) hi))
    rw [h1, h2]
    simp [Nat.ne_of_lt hi]

/-- The word with a sign and the rest. -/
theorem nanW_signed (k : FloatKind) (t : Nat) : ∃ r, r < k.format.signWeight ∧ ∃ q, (∀ s, nanW k (2 * q + s % 2) = (s % 2) * k.format.signWeight + r) ∧ t = 2 * q + t % 2 := by
  cases k
  · have e : FloatKind.f32.format.signWeight = 2 ^ 31 := by decide
    refine ⟨0x7f800000 + 1 + (t / 2) % (2 ^ 23 - 1), by rw [e]; omega, t / 2, fun s => ?_, by omega⟩
    show (((2 * (t / 2) + s % 2) % 2) * 2 ^ 31 + 0x7f800000 + 1 + ((2 * (t / 2) + s % 2) / 2) % (2 ^ 23 - 1)) = _
    rw [e]; omega
  · have e : FloatKind.f64.format.signWeight = 2 ^ 63 := by decide
    refine ⟨0x7ff0000000000000 + 1 + (t / 2) % (2 ^ 52 - 1), by rw [e]; omega, t / 2, fun s => ?_, by omega⟩
    show (((2 * (t / 2) + s % 2) % 2) * 2 ^ 63 + 0x7ff0000000000000 + 1 + ((2 * (t / 2) + s % 2) / 2) % (2 ^ 52 - 1)) = _
    rw [e]; omega

theorem nan_form {k : FloatKind} {b : Nat} {s : Bool} {f : Nat} (hr : k.format.read b = .nan s f) (hb : b < 2 ^ k.format.width) : ∃ t, b = nanW k t := by
  have hi : ¬ b % k.format.signWeight < k.format.infRung ∧ b % k.format.signWeight ≠ k.format.infRung := by
    unfold Ieee.Format.read at hr
    dsimp only at hr
    split at hr
    · cases hr
    · split at hr
      · cases hr
      · split at hr
        · cases hr
        · rename_i h1 h2 h3; exact ⟨h2, h3⟩
  cases k
  · have e : FloatKind.f32.format.signWeight = 2 ^ 31 := by decide
    have ei : FloatKind.f32.format.infRung = 0x7f800000 := by decide
    have ew : FloatKind.f32.format.width = 32 := by decide
    rw [e, ei] at hi
    rw [ew] at hb
    obtain ⟨m, hm⟩ : ∃ m, b % 2 ^ 31 = 0x7f800000 + 1 + m := ⟨b % 2 ^ 31 - 0x7f800000 - 1, by omega⟩
    obtain ⟨g, hg⟩ : ∃ g, b / 2 ^ 31 = g := ⟨_, rfl⟩
    have hg2 : g < 2 := by omega
    have hm2 : m < 2 ^ 23 - 1 := by omega
    refine ⟨2 * m + g, ?_⟩
    show b = ((2 * m + g) % 2) * 2 ^ 31 + 0x7f800000 + 1 + ((2 * m + g) / 2) % (2 ^ 23 - 1)
    rw [show (2 * m + g) % 2 = g by omega, show (2 * m + g) / 2 = m by omega, Nat.mod_eq_of_lt hm2]
    omega
  · have e : FloatKind.f64.format.signWeight = 2 ^ 63 := by decide
    have ei : FloatKind.f64.format.infRung = 0x7ff0000000000000 := by decide
    have ew : FloatKind.f64.format.width = 64 := by decide
    rw [e, ei] at hi
    rw [ew] at hb
    obtain ⟨m, hm⟩ : ∃ m, b % 2 ^ 63 = 0x7ff0000000000000 + 1 + m := ⟨b % 2 ^ 63 - 0x7ff0000000000000 - 1, by omega⟩
    obtain ⟨g, hg⟩ : ∃ g, b / 2 ^ 63 = g := ⟨_, rfl⟩
    have hg2 : g < 2 := by omega
    have hm2 : m < 2 ^ 52 - 1 := by omega
    refine ⟨2 * m + g, ?_⟩
    show b = ((2 * m + g) % 2) * 2 ^ 63 + 0x7ff0000000000000 + 1 + ((2 * m + g) / 2) % (2 ^ 52 - 1)
    rw [show (2 * m + g) % 2 = g by omega, show (2 * m + g) / 2 = m by omega, Nat.mod_eq_of_lt hm2]
    omega

theorem nanW_lt (k : FloatKind) (t : Nat) : nanW k t < 2 ^ k.format.width := by
  cases k
  · have ew : FloatKind.f32.format.width = 32 := by decide
    rw [ew]
    show (t % 2) * 2 ^ 31 + 0x7f800000 + 1 + (t / 2) % (2 ^ 23 - 1) < _
    omega
  · have ew : FloatKind.f64.format.width = 64 := by decide
    rw [ew]
    show (t % 2) * 2 ^ 63 + 0x7ff0000000000000 + 1 + (t / 2) % (2 ^ 52 - 1) < _
    omega

/-- Words within their width have a form. -/
theorem form {k : FloatKind} (b : Nat) (hb : b < 2 ^ k.format.width) : ∃ (x : Fl k) (t : Nat), b = B x t := by
  cases h : k.format.read b with
  | nan s f => obtain ⟨t, ht⟩ := nan_form h hb; exact ⟨none, t, ht⟩
  | _ => exact ⟨some b, 0, rfl⟩

/-- The opposite. -/
def neg {k : FloatKind} (x : Fl k) : Fl k :=
  match x with
  | some r => some (Op.negFloat k r)
  | none => none
instance {k} : Neg (Fl k) := ⟨neg⟩

theorem neg_B {k : FloatKind} (x : Fl k) (t : Nat) : ∃ s, Op.negFloat k (B x t) = B (neg x) s := by
  cases x with
  | some r => exact ⟨0, rfl⟩
  | none =>
    obtain ⟨r, hr, q, hq, ht⟩ := nanW_signed k t
    have h0 := hq 0
    have h1 := hq 1
    have e : 2 ^ (k.format.exponentBits + k.format.fractionBits) = k.format.signWeight := rfl
    have hx := xor_top (n := k.format.exponentBits + k.format.fractionBits) (r := r) (by rw [e]; exact hr)
    rcases Nat.mod_two_eq_zero_or_one t with h | h
    · refine ⟨2 * q + 1, ?_⟩
      show nanW k t ^^^ _ = nanW k (2 * q + 1)
      rw [ht, h, show nanW k (2 * q + 0) = 0 * k.format.signWeight + r from h0, Nat.zero_mul, Nat.zero_add, hx, e, show nanW k (2 * q + 1) = 1 * k.format.signWeight + r from h1, Nat.one_mul]
    · refine ⟨2 * q, ?_⟩
      show nanW k t ^^^ _ = nanW k (2 * q + 0)
      rw [ht, h, show nanW k (2 * q + 0) = 0 * k.format.signWeight + r from h0, show nanW k (2 * q + 1) = 1 * k.format.signWeight + r from h1, Nat.one_mul, ← e, ← hx, Nat.xor_assoc, Nat.xor_self, Nat.xor_zero, Nat.zero_mul, Nat.zero_add]

/-- The square root. -/
def sqrt (x : F64) : F64 :=
  match x with
  | some r => FloatKind.f64.format.sqrt r
  | none => none

/-- A number made whole. -/
def whole (way : Ieee.Toward) (x : F64) : F64 :=
  match x with
  | some r => match FloatKind.f64.decode r with
    | .nan _ _ => none
    | d => some (FloatKind.f64.encode (d.integral way))
  | none => none

/-- A 32-bit number as a 64-bit one. -/
def widen (x : F32) : F64 :=
  match x with
  | some r => floatToFloatBits .f32 r .f64
  | none => none

/-- A 64-bit number narrowed. -/
def narrow (x : F64) : F32 :=
  match x with
  | some r => match FloatKind.f64.decode r with
    | .nan _ _ => none
    | d => some (FloatKind.f32.encode d)
  | none => none

/-- Narrowing a number does not make it an infinity. -/
def fits (x : F64) : Bool :=
  match x with
  | some r => match FloatKind.f64.decode r with
    | .number s m e => !(FloatKind.f32.decode (FloatKind.f32.encode (.number s m e))).isInfinity
    | _ => true
  | none => true

/-- A number as an integer, and whether it is in the integers' range. -/
def toI (x : F64) (q : IntKind) : Int :=
  match x with
  | some r => (floatToIntVal .f64 r q).getD 0
  | none => 0
def isI (x : F64) (q : IntKind) : Bool :=
  match x with
  | some r => (floatToIntVal .f64 r q).isSome
  | none => false

end Go.Proofs.Ytlpahmefebgdlaa.Fx
/- Rounding to the nearest word: bounds by powers of two, and that it does not depend on how a number is written. No condition. -/
namespace Go.Proofs.Ytlpahmefebgdlaa.Nr
open Ieee

theorem lt_log2 (n : Nat) : n < 2 ^ (n.log2 + 1) := Nat.lt_log2_self

theorem shl (a b : Nat) : a <<< b = a * 2 ^ b := Nat.shiftLeft_eq a b

theorem cut_le {neg : Bool} {n drop c : Nat} (h : n ≤ c * 2 ^ drop) : Toward.even.cut neg n drop ≤ c := by
  unfold Toward.cut
  simp only [shl, Nat.one_mul]
  by_cases hg : drop ≤ n.log2 + 2
  · rw [Nat.min_eq_left hg]
    have hp : 0 < 2 ^ drop := Nat.two_pow_pos _
    have hdm := Nat.div_add_mod n (2 ^ drop)
    have hlt := Nat.mod_lt n hp
    have hle : n / 2 ^ drop ≤ c := Nat.div_le_of_le_mul (by rw [Nat.mul_comm]; exact h)
    by_cases he : n / 2 ^ drop = c
    · have : n % 2 ^ drop = 0 := by
        rw [he, Nat.mul_comm] at hdm; omega
      rw [this, he]
      have : (decide (2 ^ drop < 2 * 0) || (2 ^ drop == 2 * 0) && (c % 2 == 1)) = false := by
        have : (2 ^ drop == 2 * 0) = false := by simp
        rw [this]; simp
      rw [this]; simp
    · have : n / 2 ^ drop + 1 ≤ c := by omega
      refine Nat.le_trans (Nat.add_le_add_left (Bool.toNat_le _) _) this
  · rw [Nat.min_eq_right (by omega)]
    have h1 := lt_log2 n
    have h2 : 2 ^ (n.log2 + 2) = 2 * 2 ^ (n.log2 + 1) := by rw [Nat.pow_succ]; omega
    have h3 : n / 2 ^ (n.log2 + 2) = 0 := Nat.div_eq_of_lt (by omega)
    have h4 : n % 2 ^ (n.log2 + 2) = n := Nat.mod_eq_of_lt (by omega)
    rw [h3, h4]
    have h5 : decide (2 ^ (n.log2 + 2) < 2 * n) = false := by simp; omega
    have h6 : (2 ^ (n.log2 + 2) == 2 * n) = false := by simp; omega
    rw [h5, h6]; simp

theorem log2_mul_pow {x : Nat} (hx : x ≠ 0) (a : Nat) : (x * 2 ^ a).log2 = x.log2 + a := by
  have hpos : x * 2 ^ a ≠ 0 := by
    have := Nat.two_pow_pos a
    exact Nat.mul_ne_zero hx (by omega)
  apply (Nat.log2_eq_iff hpos).2
  have h1 := Nat.log2_self_le hx
  have h2 := lt_log2 x
  constructor
  · rw [Nat.pow_add]; exact Nat.mul_le_mul_right _ h1
  · rw [show x.log2 + a + 1 = (x.log2 + 1) + a by omega, Nat.pow_add]
    exact Nat.mul_lt_mul_of_pos_right h2 (Nat.two_pow_pos _)

theorem cut_mul (way : Toward) (neg : Bool) {x : Nat} (hx : x ≠ 0) (a b : Nat) : way.cut neg (x * 2 ^ a) (b + a) = way.cut neg x b := by
  unfold Toward.cut
  simp only [shl, Nat.one_mul]
  rw [log2_mul_pow hx a]
  have hm : min (b + a) (x.log2 + a + 2) = min b (x.log2 + 2) + a := by omega
  rw [hm]
  generalize min b (x.log2 + 2) = g
  have hp : 0 < 2 ^ a := Nat.two_pow_pos _
  rw [Nat.pow_add, Nat.mul_div_mul_right _ _ hp, Nat.mul_mod_mul_right]
  congr 2
  cases way
  · have h1 : decide (2 ^ g * 2 ^ a < 2 * (x % 2 ^ g * 2 ^ a)) = decide (2 ^ g < 2 * (x % 2 ^ g)) := by
      rw [← Nat.mul_assoc]
      exact decide_eq_decide.2 (Nat.mul_lt_mul_right hp)
    have h2 : (2 ^ g * 2 ^ a == 2 * (x % 2 ^ g * 2 ^ a)) = (2 ^ g == 2 * (x % 2 ^ g)) := by
      rw [← Nat.mul_assoc, Bool.eq_iff_iff]
      simp only [beq_iff_eq]
      exact ⟨fun h => Nat.eq_of_mul_eq_mul_right hp h, fun h => congrArg (· * 2 ^ a) h⟩
    show (decide _ || _ && _) = (decide _ || _ && _)
    rw [h1, h2]
  all_goals
    have h3 : (x % 2 ^ g * 2 ^ a != 0) = (x % 2 ^ g != 0) := by
      rw [Bool.eq_iff_iff]
      simp only [bne_iff_ne, ne_eq, Nat.mul_eq_zero]
      simp
    first
      | rfl
      | (show (_ && _) = (_ && _); rw [h3])

/-- How a number is written does not matter. -/
theorem nearest_scale (f : Format) (neg : Bool) (mag j : Nat) (place : Int) : f.nearest neg (mag * 2 ^ j) (place - j) = f.nearest neg mag place := by
  unfold Format.nearest
  by_cases hm : mag = 0
  · simp [hm]
  · have hm' : mag * 2 ^ j ≠ 0 := Nat.mul_ne_zero hm (by have := Nat.two_pow_pos j; omega)
    rw [if_neg hm, if_neg hm']
    dsimp only
    rw [log2_mul_pow hm j]
    have e : place - (j : Int) + ((mag.log2 + j : Nat) : Int) - (f.fractionBits : Int) = place + (mag.log2 : Int) - (f.fractionBits : Int) := by omega
    rw [e]
    generalize max (place + (mag.log2 : Int) - (f.fractionBits : Int)) f.leastPlace = last
    have key : Toward.even.cut neg ((mag * 2 ^ j) <<< (place - ↑j - last).toNat) (last - (place - ↑j)).toNat = Toward.even.cut neg (mag <<< (place - last).toNat) (last - place).toNat := by
      simp only [shl]
      by_cases h1 : (j : Int) ≤ place - last
      · have a1 : (last - (place - ↑j)).toNat = 0 := by omega
        have a2 : (last - place).toNat = 0 := by omega
        rw [a1, a2, Nat.mul_assoc, ← Nat.pow_add]
        congr 3; omega
      · by_cases h2 : 0 ≤ place - last
        · have a1 : (place - ↑j - last).toNat = 0 := by omega
          have a2 : (last - place).toNat = 0 := by omega
          obtain ⟨d, hd⟩ := Int.eq_ofNat_of_zero_le h2
          have a3 : (last - (place - ↑j)).toNat = 0 + (j - d) := by omega
          have a4 : (place - last).toNat = d := by omega
          rw [a1, a2, a3, a4, Nat.pow_zero, Nat.mul_one]
          rw [show mag * 2 ^ j = mag * 2 ^ d * 2 ^ (j - d) by rw [Nat.mul_assoc, ← Nat.pow_add]; congr 2; omega]
          exact cut_mul _ _ (Nat.mul_ne_zero hm (by have := Nat.two_pow_pos d; omega)) _ _
        · have a1 : (place - ↑j - last).toNat = 0 := by omega
          have a2 : (place - last).toNat = 0 := by omega
          have a3 : (last - (place - ↑j)).toNat = (last - place).toNat + j := by omega
          rw [a1, a2, a3, Nat.pow_zero, Nat.mul_one, Nat.mul_one]
          exact cut_mul _ _ hm _ _
    rw [key]

/-- 'mag * 2 ^ place' is at most '2 ^ E'. -/
def Le2 (mag : Nat) (place E : Int) : Prop := mag = 0 ∨ (place ≤ E ∧ mag ≤ 2 ^ (E - place).toNat)

/-- The rung of '2 ^ E', of a normal number. -/
def rungPow (f : Format) (E : Int) : Nat := (E - f.leastPlace - f.fractionBits + 1).toNat * f.binade

theorem kept_le (f : Format) (neg : Bool) {mag : Nat} {place : Int} :
    Toward.even.cut neg (mag <<< (place - max (place + (mag.log2 : Int) - (f.fractionBits : Int)) f.leastPlace).toNat) (max (place + (mag.log2 : Int) - (f.fractionBits : Int)) f.leastPlace - place).toNat ≤ 2 ^ (f.fractionBits + 1) := by
  have hl : place + (mag.log2 : Int) - (f.fractionBits : Int) ≤ max (place + (mag.log2 : Int) - (f.fractionBits : Int)) f.leastPlace := by omega
  generalize max (place + (mag.log2 : Int) - (f.fractionBits : Int)) f.leastPlace = last at hl
  apply cut_le
  rw [shl, ← Nat.pow_add]
  refine Nat.le_trans (Nat.mul_le_mul_right _ (Nat.le_of_lt (lt_log2 mag))) ?_
  rw [← Nat.pow_add]
  exact Nat.pow_le_pow_right (by decide) (by omega)

theorem nearest_le (f : Format) (neg : Bool) {mag : Nat} {place E : Int} (hE : f.leastPlace + f.fractionBits ≤ E) (h : Le2 mag place E) :
    ∃ r, f.nearest neg mag place = f.word neg r ∧ r ≤ rungPow f E ∧ r ≤ f.infRung := by
  unfold Format.nearest
  by_cases hm : mag = 0
  · rw [if_pos hm]; exact ⟨0, rfl, Nat.zero_le _, Nat.zero_le _⟩
  · rw [if_neg hm]
    dsimp only
    refine ⟨_, rfl, Nat.le_trans (Nat.min_le_left _ _) ?_, Nat.min_le_right _ _⟩
    obtain ⟨hp, hle⟩ := h.resolve_left hm
    have hlog := Nat.log2_self_le hm
    have hb : f.binade = 2 ^ f.fractionBits := rfl
    have hle' : (mag.log2 : Int) ≤ E - place := by
      have : 2 ^ mag.log2 ≤ 2 ^ (E - place).toNat := Nat.le_trans hlog hle
      have := (Nat.pow_le_pow_iff_right (by decide)).1 this
      omega
    by_cases heq : (mag.log2 : Int) = E - place
    · -- a power of two
      have e1 : (E - place).toNat = mag.log2 := by omega
      have hmag : mag = 2 ^ mag.log2 := by rw [e1] at hle; exact Nat.le_antisymm hle hlog
      have hlast : max (place + (mag.log2 : Int) - (f.fractionBits : Int)) f.leastPlace = E - f.fractionBits := by omega
      rw [hlast]
      have hk : Toward.even.cut neg (mag <<< (place - (E - (f.fractionBits : Int))).toNat) (E - (f.fractionBits : Int) - place).toNat ≤ 2 ^ f.fractionBits := by
        apply cut_le
        rw [shl, ← Nat.pow_add]
        have h9 : 2 ^ mag.log2 * 2 ^ (place - (E - (f.fractionBits : Int))).toNat = 2 ^ (mag.log2 + (place - (E - (f.fractionBits : Int))).toNat) := (Nat.pow_add _ _ _).symm
        rw [hmag.symm] at h9
        rw [h9]
        exact Nat.pow_le_pow_right (by decide) (by omega)
      unfold rungPow
      rw [hb]
      have e2 : (E - f.leastPlace - f.fractionBits + 1).toNat = (E - f.fractionBits - f.leastPlace).toNat + 1 := by omega
      rw [e2, Nat.add_mul, Nat.one_mul]
      exact Nat.add_le_add_left hk _
    · by_cases hlow : f.leastPlace ≤ place + (mag.log2 : Int) - (f.fractionBits : Int)
      · have hk := kept_le f neg (mag := mag) (place := place)
        have hlast : max (place + (mag.log2 : Int) - (f.fractionBits : Int)) f.leastPlace = place + (mag.log2 : Int) - (f.fractionBits : Int) := by omega
        rw [hlast] at hk ⊢
        unfold rungPow
        rw [hb]
        refine Nat.le_trans (Nat.add_le_add_left hk _) ?_
        rw [Nat.pow_succ, Nat.mul_comm _ 2, ← Nat.add_mul]
        exact Nat.mul_le_mul_right _ (by omega)
      · have hlast : max (place + (mag.log2 : Int) - (f.fractionBits : Int)) f.leastPlace = f.leastPlace := by omega
        rw [hlast]
        have hk : Toward.even.cut neg (mag <<< (place - f.leastPlace).toNat) (f.leastPlace - place).toNat ≤ 2 ^ f.fractionBits := by
          apply cut_le
          rw [shl, ← Nat.pow_add]
          refine Nat.le_trans (Nat.mul_le_mul_right _ (Nat.le_of_lt (lt_log2 mag))) ?_
          rw [← Nat.pow_add]
          exact Nat.pow_le_pow_right (by decide) (by omega)
        have e0 : (f.leastPlace - f.leastPlace).toNat = 0 := by omega
        rw [e0, Nat.zero_mul, Nat.zero_add]
        unfold rungPow
        rw [hb]
        refine Nat.le_trans hk ?_
        have : 1 ≤ (E - f.leastPlace - f.fractionBits + 1).toNat := by omega
        calc 2 ^ f.fractionBits = 1 * 2 ^ f.fractionBits := (Nat.one_mul _).symm
          _ ≤ _ := Nat.mul_le_mul_right _ this

/-- What a sign and a rung stand for. -/
def readRung (f : Format) (neg : Bool) (r : Nat) : Datum :=
  if r < f.binade then .number neg r f.leastPlace
  else if r < f.infRung then .number neg (f.binade + r % f.binade) (f.leastPlace + (r / f.binade - 1 : Nat))
  else if r = f.infRung then .infinity neg
  else .nan neg (r - f.infRung)

theorem read_word (f : Format) (neg : Bool) {r : Nat} (h : r < f.signWeight) : f.read (f.word neg r) = readRung f neg r := by
  have h1 : f.word neg r / f.signWeight % 2 = neg.toNat := by
    unfold Format.word
    cases neg
    · simp [Nat.div_eq_of_lt h]
    · have hp : 0 < f.signWeight := Nat.two_pow_pos _
      simp only [if_true]
      rw [Nat.add_div_left _ hp, Nat.div_eq_of_lt h]; rfl
  have h2 : f.word neg r % f.signWeight = r := by
    unfold Format.word
    cases neg
    · simp [Nat.mod_eq_of_lt h]
    · simp only [if_true]
      rw [Nat.add_mod_left, Nat.mod_eq_of_lt h]
  unfold Format.read readRung
  simp only [h1, h2]
  cases neg <;> rfl

theorem readRung_le (f : Format) (neg : Bool) {r : Nat} {E : Int} (hE : f.leastPlace + f.fractionBits ≤ E) (h : r ≤ rungPow f E) (hi : r < f.infRung) :
    ∃ m e, readRung f neg r = .number neg m e ∧ Le2 m e E := by
  have hb : f.binade = 2 ^ f.fractionBits := rfl
  have hp : 0 < f.binade := Nat.two_pow_pos _
  unfold readRung
  by_cases h1 : r < f.binade
  · rw [if_pos h1]
    refine ⟨_, _, rfl, Or.inr ⟨by omega, ?_⟩⟩
    rw [hb] at h1
    exact Nat.le_trans (Nat.le_of_lt h1) (Nat.pow_le_pow_right (by decide) (by omega))
  · rw [if_neg h1, if_pos hi]
    refine ⟨_, _, rfl, Or.inr ?_⟩
    obtain ⟨K, hK⟩ : ∃ K, K = (E - f.leastPlace - f.fractionBits + 1).toNat := ⟨_, rfl⟩
    have hr : r ≤ K * f.binade := by rw [hK]; exact h
    have hq : r / f.binade ≤ K := Nat.div_le_of_le_mul (by rw [Nat.mul_comm]; exact hr)
    have hmod := Nat.mod_lt r hp
    have hq1 : 1 ≤ r / f.binade := (Nat.one_le_div_iff hp).2 (by omega)
    have hdm := Nat.div_add_mod r f.binade
    generalize r / f.binade = q at hq hq1 hdm ⊢
    by_cases he : q = K
    · have hz : r % f.binade = 0 := by
        rw [he, Nat.mul_comm] at hdm; omega
      have hplace : f.leastPlace + ((q - 1 : Nat) : Int) = E - f.fractionBits := by clear hb hdm hr hmod; omega
      rw [hz, Nat.add_zero, hb, hplace]
      exact ⟨by omega, Nat.pow_le_pow_right (by decide) (by omega)⟩
    · have hplace : f.leastPlace + ((q - 1 : Nat) : Int) ≤ E - f.fractionBits - 1 := by clear hb hdm hr hmod; omega
      refine ⟨by omega, ?_⟩
      refine Nat.le_trans (show f.binade + r % f.binade ≤ 2 ^ (f.fractionBits + 1) by rw [Nat.pow_succ, ← hb]; omega) ?_
      exact Nat.pow_le_pow_right (by decide) (by omega)

/-- A word's number is below the power of two above its format. -/
theorem read_number {f : Format} {b : Nat} {s : Bool} {m : Nat} {e : Int} (h : f.read b = .number s m e) :
    m < 2 ^ (f.fractionBits + 1) ∧ f.leastPlace ≤ e ∧ e ≤ f.leastPlace + (2 ^ f.exponentBits - 3 : Nat) := by
  have hp : 0 < f.binade := Nat.two_pow_pos _
  have hbin : f.binade = 2 ^ f.fractionBits := rfl
  unfold Format.read at h
  dsimp only at h
  split at h
  · rename_i h1
    cases h
    exact ⟨by rw [Nat.pow_succ, ← hbin]; omega, by omega, by omega⟩
  · split at h
    · rename_i h1 h2
      cases h
      have hmod := Nat.mod_lt (b % f.signWeight) hp
      refine ⟨by rw [Nat.pow_succ, ← hbin]; omega, by omega, ?_⟩
      have h3 : b % f.signWeight / f.binade < 2 ^ f.exponentBits - 1 := (Nat.div_lt_iff_lt_mul hp).2 h2
      have h4 : 1 ≤ b % f.signWeight / f.binade := (Nat.one_le_div_iff hp).2 (by omega)
      have : b % f.signWeight % f.binade = b % f.signWeight % f.binade := rfl
      omega
    · split at h <;> cases h

/-- A 32-bit number is not too great for 64 bits. -/
theorem widen_number {b : Nat} {s : Bool} {m : Nat} {e : Int} (h : single.read b = .number s m e) :
    ∃ m' e', double.read (double.write (.number s m e)) = .number s m' e' := by
  obtain ⟨h1, h2, h3⟩ := read_number h
  have e1 : single.leastPlace = -149 := by decide
  have e2 : single.fractionBits = 23 := rfl
  have e3 : (2 ^ single.exponentBits - 3 : Nat) = 253 := by decide
  rw [e1] at h2 h3
  rw [e2] at h1
  rw [e3] at h3
  have hle : Le2 m e 128 := by
    refine Or.inr ⟨by omega, ?_⟩
    exact Nat.le_trans (Nat.le_of_lt h1) (Nat.pow_le_pow_right (by decide) (by omega))
  obtain ⟨r, hr, hr1, _⟩ := nearest_le double s (E := 128) (by decide) hle
  have hr1' : r ≤ 1151 * 2 ^ 52 := hr1
  have e4 : double.infRung = 2047 * 2 ^ 52 := by decide
  have e5 : double.signWeight = 2048 * 2 ^ 52 := by decide
  obtain ⟨m', e', hm, _⟩ := readRung_le double s (E := 128) (by decide) hr1 (by rw [e4]; omega)
  refine ⟨m', e', ?_⟩
  show double.read (double.nearest s m e) = _
  rw [hr, read_word double s (by rw [e5]; omega), hm]

end Go.Proofs.Ytlpahmefebgdlaa.Nr
/- The model's conversions, roots and roundings of floats, up to the bits of not-a-numbers. No condition. -/
namespace Go.Proofs.Ytlpahmefebgdlaa.Fx
open Go

section
variable {P : Program}

theorem conv_cut (k : FloatKind) (x t : Nat) : Question.cut (.nanConv k x) t = nanW k t := by cases k <;> rfl

theorem run_widen {b : Nat} {x : F32} (h : Is .f32 b x) (w : World) :
    ∃ t n, (Conv.floatToFloat .f32 b .f64).run P w = .ok (.float .f64 (B (widen x) t)) (w.drewN n) := by
  obtain ⟨t, rfl⟩ := h
  have hnan : ∀ s f, FloatKind.f32.decode (B x t) = .nan s f → ∃ t' n, (Conv.floatToFloat .f32 (B x t) .f64).run P w = .ok (.float .f64 (@B .f64 none t')) (w.drewN n) := by
    intro s f hd
    refine ⟨w.tape w.drawn (.nanConv .f64 (B x t)), 1, ?_⟩
    have hn := conv_cut .f64 (B x t)
    simp only [Conv.floatToFloat, hd, reduceCtorEq, if_false, bind, pure, Sem.bind, choose, Sem.run, Question.forced, hn]
    rfl
  cases x with
  | none =>
    obtain ⟨s, f, hd⟩ := read_nanW .f32 t
    exact hnan s f hd
  | some r =>
    cases hd : FloatKind.f32.decode r with
    | nan s f =>
      obtain ⟨t', n, h⟩ := hnan s f hd
      refine ⟨t', n, ?_⟩
      have : widen (some r) = none := by simp only [widen, floatToFloatBits, hd]; rfl
      rw [this]; exact h
    | infinity s =>
      refine ⟨0, 0, ?_⟩
      have h : floatToFloatBits .f32 r .f64 = some (FloatKind.f64.encode (.infinity s)) := by simp [floatToFloatBits, hd]
      have hr := run_floatToFloat (P := P) w h
      have e : widen (some r) = some (FloatKind.f64.encode (.infinity s)) := h
      rw [e]; exact hr
    | number s m e =>
      refine ⟨0, 0, ?_⟩
      obtain ⟨m', e', h'⟩ := Nr.widen_number hd
      have hi : (FloatKind.f64.decode (FloatKind.f64.encode (.number s m e))).isInfinity = false := by
        show (Ieee.double.read (Ieee.double.write (.number s m e))).isInfinity = false
        rw [h']; rfl
      have h : floatToFloatBits .f32 r .f64 = some (FloatKind.f64.encode (.number s m e)) := by simp [floatToFloatBits, hd, hi]
      have hr := run_floatToFloat (P := P) w h
      have e : widen (some r) = some (FloatKind.f64.encode (.number s m e)) := h
      rw [e]; exact hr

theorem run_narrow {b : Nat} {x : F64} (h : Is .f64 b x) (hf : fits x = true) (w : World) :
    ∃ t n, (Conv.floatToFloat .f64 b .f32).run P w = .ok (.float .f32 (B (narrow x) t)) (w.drewN n) := by
  obtain ⟨t, rfl⟩ := h
  have hnan : ∀ s f, FloatKind.f64.decode (B x t) = .nan s f → ∃ t' n, (Conv.floatToFloat .f64 (B x t) .f32).run P w = .ok (.float .f32 (@B .f32 none t')) (w.drewN n) := by
    intro s f hd
    refine ⟨w.tape w.drawn (.nanConv .f32 (B x t)), 1, ?_⟩
    have hn := conv_cut .f32 (B x t)
    simp only [Conv.floatToFloat, hd, reduceCtorEq, if_false, bind, pure, Sem.bind, choose, Sem.run, Question.forced, hn]
    rfl
  cases x with
  | none =>
    obtain ⟨s, f, hd⟩ := read_nanW .f64 t
    exact hnan s f hd
  | some r =>
    cases hd : FloatKind.f64.decode r with
    | nan s f =>
      obtain ⟨t', n, h⟩ := hnan s f hd
      refine ⟨t', n, ?_⟩
      have : narrow (some r) = none := by simp only [narrow, hd]; rfl
      rw [this]; exact h
    | infinity s =>
      refine ⟨0, 0, ?_⟩
      have h : floatToFloatBits .f64 r .f32 = some (FloatKind.f32.encode (.infinity s)) := by simp [floatToFloatBits, hd]
      have hr := run_floatToFloat (P := P) w h
      have e : narrow (some r) = some (FloatKind.f32.encode (.infinity s)) := by simp only [narrow, hd]; rfl
      rw [e]; exact hr
    | number s m e =>
      refine ⟨0, 0, ?_⟩
      have hi : (FloatKind.f32.decode (FloatKind.f32.encode (.number s m e))).isInfinity = false := by simpa [fits, hd] using hf
      have h : floatToFloatBits .f64 r .f32 = some (FloatKind.f32.encode (.number s m e)) := by simp [floatToFloatBits, hd, hi]
      have hr := run_floatToFloat (P := P) w h
      have e : narrow (some r) = some (FloatKind.f32.encode (.number s m e)) := by simp only [narrow, hd]; rfl
      rw [e]; exact hr

theorem B_some {k : FloatKind} (r t : Nat) : @B k (some r) t = r := rfl
theorem B_none {k : FloatKind} (t : Nat) : @B k none t = nanW k t := rfl
theorem sqrt_some (r : Nat) : sqrt (some r) = FloatKind.f64.format.sqrt r := by unfold sqrt; rfl
theorem sqrt_none : sqrt none = none := rfl

theorem run_sqrt {b : Nat} {x : F64} (h : Is .f64 b x) (w : World) :
    ∃ t n, (Extern.MathSqrt.sqrt #[.float .f64 b]).run P w = .ok (.float .f64 (B (sqrt x) t)) (w.drewN n) := by
  obtain ⟨t, rfl⟩ := h
  have hn := nan_cut .f64 (B x t) (B x t)
  have hs : FloatKind.f64.format.sqrt (B x t) = sqrt x := by
    cases x with
    | none =>
      obtain ⟨s, f, hd⟩ := read_nanW .f64 t
      rw [B_none, sqrt_none, Ieee.Format.sqrt, hd, Ieee.Datum.root]; rfl
    | some r => rw [B_some, sqrt_some]
  have hdef : ∀ b, Extern.MathSqrt.sqrt #[.float .f64 b] = (match FloatKind.f64.format.sqrt b with
    | some r => pure (.float .f64 r)
    | none => do pure (.float .f64 (← choose (.nanBits .f64 b b)))) := fun _ => rfl
  rw [hdef, hs]
  cases hx : sqrt x with
  | some r => exact ⟨0, 0, rfl⟩
  | none =>
    refine ⟨w.tape w.drawn (.nanBits .f64 (B x t) (B x t)), 1, ?_⟩
    simp only [bind, pure, Sem.bind, choose, Sem.run, Question.forced, hn]
    rfl

theorem run_whole (name : String) (way : Ieee.Toward) {b : Nat} {x : F64} (hb : b < 2 ^ 64) (h : Is .f64 b x) (w : World) :
    ∃ t n, (Extern.MathFloor.toIntegral name way #[.float .f64 b]).run P w = .ok (.float .f64 (B (whole way x) t)) (w.drewN n) := by
  obtain ⟨t, rfl⟩ := h
  have hdef : ∀ b, Extern.MathFloor.toIntegral name way #[.float .f64 b] = (match FloatKind.f64.decode b with
    | .nan s t =>
      if FloatKind.f64.format.quiet t = t then pure (.float .f64 b) else do
      let kept ← choose (.extern "math.Floor,Ceil,Trunc,RoundToEven.signallingNaN kept" 2)
      pure (.float .f64 (if kept == 1 then b else FloatKind.f64.encode (.nan s (FloatKind.f64.format.quiet t))))
    | d => pure (.float .f64 (FloatKind.f64.encode (d.integral way)))) := fun _ => rfl
  have hnan : ∀ s f, FloatKind.f64.decode (B x t) = .nan s f → ∃ t' n, (Extern.MathFloor.toIntegral name way #[.float .f64 (B x t)]).run P w = .ok (.float .f64 (@B .f64 none t')) (w.drewN n) := by
    intro s f hd
    obtain ⟨t0, h0⟩ := nan_form (k := .f64) (b := B x t) hd hb
    by_cases hq : FloatKind.f64.format.quiet f = f
    · refine ⟨t0, 0, ?_⟩
      rw [hdef]; simp only [hd, hq, if_true]
      rw [h0]; rfl
    · have hlt := FloatKind.f64.format.write_lt (.nan s (FloatKind.f64.format.quiet f))
      have hf : f < 2 ^ 52 := by
        have hd' : FloatKind.f64.format.read (B x t) = .nan s f := hd
        unfold Ieee.Format.read at hd'
        dsimp only at hd'
        have e1 : FloatKind.f64.format.signWeight = 2 ^ 63 := by decide
        have e2 : FloatKind.f64.format.infRung = 0x7ff0000000000000 := by decide
        split at hd'
        · cases hd'
        · split at hd'
          · cases hd'
          · split at hd'
            · cases hd'
            · have := congrArg (fun d => match d with | Ieee.Datum.nan _ f => f | _ => 0) hd'
              dsimp only at this
              rw [e1, e2] at this
              omega
      have hq2 : FloatKind.f64.format.quiet f < 2 ^ 52 := Nat.or_lt_two_pow hf (by decide)
      have hq3 : FloatKind.f64.format.quiet f ≠ 0 := by
        have : (2 : Nat) ^ 51 ≤ FloatKind.f64.format.quiet f := Nat.right_le_or
        omega
      have hread : FloatKind.f64.format.read (FloatKind.f64.encode (.nan s (FloatKind.f64.format.quiet f))) = .nan s (FloatKind.f64.format.quiet f) := by
        have e1 : FloatKind.f64.format.signWeight = 2 ^ 63 := by decide
        have e2 : FloatKind.f64.format.infRung = 0x7ff0000000000000 := by decide
        have e3 : FloatKind.f64.format.binade = 2 ^ 52 := by decide
        show FloatKind.f64.format.read (FloatKind.f64.format.word s (FloatKind.f64.format.infRung + FloatKind.f64.format.quiet f % FloatKind.f64.format.binade)) = _
        rw [Nr.read_word _ _ (by rw [e1, e2, e3]; omega)]
        unfold Nr.readRung
        rw [e2, e3, Nat.mod_eq_of_lt hq2, if_neg (by omega), if_neg (by omega), if_neg (by omega)]
        rw [Nat.add_sub_cancel_left]
      obtain ⟨t1, h1⟩ := nan_form (k := .f64) hread hlt
      have h1' : FloatKind.f64.encode (.nan s (FloatKind.f64.format.quiet f)) = nanW .f64 t1 := h1
      rw [hdef]; simp only [hd, hq, if_false, bind, pure, Sem.bind, choose, Sem.run]
      by_cases hk : (Question.cut (.extern "math.Floor,Ceil,Trunc,RoundToEven.signallingNaN kept" 2) (w.tape w.drawn (.extern "math.Floor,Ceil,Trunc,RoundToEven.signallingNaN kept" 2)) == 1) = true
      · refine ⟨t0, 1, ?_⟩
        simp only [Question.forced, hk, if_true]
        rw [← show B x t = @B .f64 none t0 from h0]; rfl
      · refine ⟨t1, 1, ?_⟩
        simp only [Question.forced, hk]
        rw [← show FloatKind.f64.encode (.nan s (FloatKind.f64.format.quiet f)) = @B .f64 none t1 from h1']; rfl
  cases x with
  | none =>
    obtain ⟨s, f, hd⟩ := read_nanW .f64 t
    exact hnan s f hd
  | some r =>
    cases hd : FloatKind.f64.decode r with
    | nan s f =>
      obtain ⟨t', n, h⟩ := hnan s f hd
      refine ⟨t', n, ?_⟩
      have : whole way (some r) = none := by simp only [whole, hd]; rfl
      rw [this]; exact h
    | infinity s =>
      refine ⟨0, 0, ?_⟩
      have e : whole way (some r) = some (FloatKind.f64.encode ((Ieee.Datum.infinity s).integral way)) := by simp only [whole, hd]; rfl
      rw [e, hdef]
      simp only [B, hd]; rfl
    | number s m e' =>
      refine ⟨0, 0, ?_⟩
      have e : whole way (some r) = some (FloatKind.f64.encode ((Ieee.Datum.number s m e').integral way)) := by simp only [whole, hd]; rfl
      rw [e, hdef]
      simp only [B, hd]; rfl
end

/-- A word is within its width. -/
def Wd (k : FloatKind) (b : Nat) : Prop := b < 2 ^ k.format.width

theorem wd_none (k : FloatKind) (t : Nat) : Wd k (@B k none t) := nanW_lt k t

theorem wd_of {k : FloatKind} {x : Fl k} (h : ∀ r, x = some r → r < 2 ^ k.format.width) (t : Nat) : Wd k (B x t) := by
  cases x with
  | none => exact wd_none k t
  | some r => exact h r rfl

theorem wd_bin {k : FloatKind} (op : BinOp) (x y : Fl k) (t : Nat) : Wd k (B (bin op x y) t) := by
  refine wd_of (fun r hr => ?_) t
  cases x with
  | none => cases hr
  | some a => cases y with
    | none => cases hr
    | some b =>
      have hr' : floatBits op k a b = some r := hr
      unfold floatBits at hr'
      split at hr'
      · exact k.format.add_lt hr'
      · exact k.format.sub_lt hr'
      · exact k.format.mul_lt hr'
      · exact k.format.div_lt hr'
      · cases hr'

theorem width_eq (k : FloatKind) : 2 ^ k.format.width = 2 * 2 ^ (k.format.exponentBits + k.format.fractionBits) := by
  cases k <;> decide

theorem wd_neg {k : FloatKind} {x : Fl k} (h : ∀ t, Wd k (B x t)) (s : Nat) : Wd k (B (neg x) s) := by
  refine wd_of (fun r hr => ?_) s
  cases x with
  | none => cases hr
  | some a =>
    have hr' : Op.negFloat k a = r := Option.some.inj (show some (Op.negFloat k a) = some r from hr)
    have ha : a < 2 ^ k.format.width := h 0
    rw [← hr']
    exact Nat.xor_lt_two_pow ha (by rw [width_eq]; have := Nat.two_pow_pos (k.format.exponentBits + k.format.fractionBits); omega)

theorem wd_all {k : FloatKind} {x : Fl k} {t : Nat} (h : Wd k (B x t)) (s : Nat) : Wd k (B x s) := by
  cases x with
  | none => exact wd_none k s
  | some a => exact h

theorem wd_widen (x : F32) (t : Nat) : Wd .f64 (B (widen x) t) := by
  refine wd_of (fun r hr => ?_) t
  cases x with
  | none => cases hr
  | some a =>
    have hr' : floatToFloatBits .f32 a .f64 = some r := hr
    unfold floatToFloatBits at hr'
    split at hr'
    · rename_i e; cases e
    · split at hr'
      · cases hr'
      · cases hr'; exact FloatKind.f64.format.write_lt _
      · split at hr'
        · cases hr'
        · cases hr'; exact FloatKind.f64.format.write_lt _

theorem wd_narrow (x : F64) (t : Nat) : Wd .f32 (B (narrow x) t) := by
  refine wd_of (fun r hr => ?_) t
  cases x with
  | none => cases hr
  | some a =>
    cases hd : FloatKind.f64.decode a with
    | nan s f => simp only [narrow, hd] at hr; cases hr
    | _ => simp only [narrow, hd] at hr; cases Option.some.inj hr; exact FloatKind.f32.format.write_lt _

theorem wd_sqrt (x : F64) (t : Nat) : Wd .f64 (B (sqrt x) t) := by
  refine wd_of (fun r hr => ?_) t
  cases x with
  | none => cases hr
  | some a => rw [sqrt_some] at hr; exact FloatKind.f64.format.sqrt_lt hr

theorem wd_whole (way : Ieee.Toward) (x : F64) (t : Nat) : Wd .f64 (B (whole way x) t) := by
  refine wd_of (fun r hr => ?_) t
  cases x with
  | none => cases hr
  | some a =>
    cases hd : FloatKind.f64.decode a with
    | nan s f => simp only [whole, hd] at hr; cases hr
    | _ => simp only [whole, hd] at hr; cases Option.some.inj hr; exact FloatKind.f64.format.write_lt _

end Go.Proofs.Ytlpahmefebgdlaa.Fx
/- An executor over floats up to the bits of their not-a-numbers, and the proof that the model's runs answer as it does. No condition. -/
namespace Go.Proofs.Ytlpahmefebgdlaa.Fx
open Go Go.RowKit

/-- A cell's value, with floats up to their not-a-numbers. -/
inductive AC where
  | fl (k : FloatKind) (x : Fl k)
  | cx (k : FloatKind) (x y : Fl k)
  | sb (b : Bool)
  | val (v : Value)
  | ptr (id off : Nat)
  | slc (id len : Nat)
  | sub (id off len : Nat)
  | slw (id len : Nat)
  | two (a b c d : Fl .f32)
  | clo (f : FuncId) (i j : Nat)
  | any

inductive AV where
  | c (x : AC)
  | agg (l : List AC)
  | tup (l : List AC)

def RepC (σ : List (Nat × Nat)) : AC → Value → Prop
  | .fl k x, v => ∃ t, v = .float k (B x t) ∧ Wd k (B x t)
  | .cx k x y, v => ∃ t s, v = .complex k (B x t) (B y s) ∧ Wd k (B x t) ∧ Wd k (B y s)
  | .sb b, v => v = .bool b
  | .val u, v => v = u
  | .ptr id off, v => ∃ b, σ[id]? = some b ∧ v = .pointer (some ⟨b.1, off, none⟩)
  | .slc id n, v => ∃ b, σ[id]? = some b ∧ n ≤ b.2 ∧ v = .slice (some ⟨b.1, 0, none⟩) n b.2
  | .sub id off n, v => ∃ b a c, σ[id]? = some b ∧ v = .slice a n c ∧ (0 < n → a = some ⟨b.1, off, none⟩)
  | .slw id n, v => ∃ b c, σ[id]? = some b ∧ n ≤ c ∧ c * 2 = b.2 ∧ v = .slice (some ⟨b.1, 0, none⟩) n c
  | .two a b c d, v => ∃ t1 t2 t3 t4, v = .agg #[.complex .f32 (B a t1) (B b t2), .complex .f32 (B c t3) (B d t4)] ∧ Wd .f32 (B a t1) ∧ Wd .f32 (B b t2) ∧ Wd .f32 (B c t3) ∧ Wd .f32 (B d t4)
  | .clo f i j, v => ∃ b c, σ[i]? = some b ∧ σ[j]? = some c ∧ v = .func (.func f) #[] #[.pointer (some ⟨b.1, 0, none⟩), .pointer (some ⟨c.1, 0, none⟩)]
  | .any, _ => True

inductive RepL (σ : List (Nat × Nat)) : List AC → List Value → Prop where
  | nil : RepL σ [] []
  | cons {a v l vs} : RepC σ a v → RepL σ l vs → RepL σ (a :: l) (v :: vs)

def Rep (σ : List (Nat × Nat)) : AV → Value → Prop
  | .c x, v => RepC σ x v
  | .agg l, v => ∃ vs : Array Value, v = .agg vs ∧ RepL σ l vs.toList
  | .tup l, v => ∃ vs : Array Value, v = .tuple vs ∧ RepL σ l vs.toList

inductive RepF (σ : List (Nat × Nat)) : List AV → List Value → Prop where
  | nil : RepF σ [] []
  | cons {a v l vs} : Rep σ a v → RepF σ l vs → RepF σ (a :: l) (v :: vs)

/-- A value as the executor sees it. -/
def toC : Value → AC
  | .float k b => if b < 2 ^ k.format.width then .fl k (lit k b) else .any
  | .complex k a b => if a < 2 ^ k.format.width ∧ b < 2 ^ k.format.width then .cx k (lit k a) (lit k b) else .any
  | .bool b => .sb b
  | v => .val v

theorem rep_toC (σ : List (Nat × Nat)) (v : Value) : RepC σ (toC v) v := by
  cases v with
  | float k b =>
    simp only [toC]
    split
    · rename_i h; exact ⟨0, rfl, h⟩
    · trivial
  | complex k a b =>
    simp only [toC]
    split
    · rename_i h; exact ⟨0, 0, rfl, h.1, h.2⟩
    · trivial
  | _ => rfl

theorem RepF.get {σ : List (Nat × Nat)} {F : List AV} {vs : List Value} (h : RepF σ F vs) (i : Nat) (u : Value) : Rep σ (F.getD i (.c .any)) (vs.getD i u) := by
  induction h generalizing i with
  | nil => trivial
  | cons h _ ih => cases i with
    | zero => exact h
    | succ i => exact ih i

theorem RepF.get? {σ : List (Nat × Nat)} {F : List AV} {vs : List Value} (h : RepF σ F vs) {i : Nat} {x : AV} (hx : F[i]? = some x) : ∃ v, vs[i]? = some v ∧ Rep σ x v := by
  induction h generalizing i with
  | nil => cases hx
  | cons h _ ih => cases i with
    | zero => cases hx; exact ⟨_, rfl, h⟩
    | succ i => exact ih hx

theorem RepF.set {σ : List (Nat × Nat)} {F : List AV} {vs : List Value} (h : RepF σ F vs) (i : Nat) {x : AV} {v : Value} (hx : Rep σ x v) : RepF σ (F.set i x) (vs.set i v) := by
  induction h generalizing i with
  | nil => exact .nil
  | cons h t ih => cases i with
    | zero => exact .cons hx t
    | succ i => exact .cons h (ih i)

theorem RepF.length {σ : List (Nat × Nat)} {F : List AV} {vs : List Value} (h : RepF σ F vs) : F.length = vs.length := by
  induction h with
  | nil => rfl
  | cons _ _ ih => simp [ih]

theorem RepL.length {σ : List (Nat × Nat)} {F : List AC} {vs : List Value} (h : RepL σ F vs) : F.length = vs.length := by
  induction h with
  | nil => rfl
  | cons _ _ ih => simp [ih]

theorem RepL.get? {σ : List (Nat × Nat)} {F : List AC} {vs : List Value} (h : RepL σ F vs) {i : Nat} {x : AC} (hx : F[i]? = some x) : ∃ v, vs[i]? = some v ∧ RepC σ x v := by
  induction h generalizing i with
  | nil => cases hx
  | cons h _ ih => cases i with
    | zero => cases hx; exact ⟨_, rfl, h⟩
    | succ i => exact ih hx

theorem RepC.mono {σ : List (Nat × Nat)} (τ : List (Nat × Nat)) {x : AC} {v : Value} (h : RepC σ x v) : RepC (σ ++ τ) x v := by
  cases x with
  | ptr id off => obtain ⟨b, hb, e⟩ := h; exact ⟨b, by rw [List.getElem?_append_left (List.getElem?_eq_some_iff.1 hb).1]; exact hb, e⟩
  | slc id off => obtain ⟨b, hb, e⟩ := h; exact ⟨b, by rw [List.getElem?_append_left (List.getElem?_eq_some_iff.1 hb).1]; exact hb, e⟩
  | sub id off n => obtain ⟨b, a, c, hb, e⟩ := h; exact ⟨b, a, c, by rw [List.getElem?_append_left (List.getElem?_eq_some_iff.1 hb).1]; exact hb, e⟩
  | slw id n => obtain ⟨b, c, hb, e⟩ := h; exact ⟨b, c, by rw [List.getElem?_append_left (List.getElem?_eq_some_iff.1 hb).1]; exact hb, e⟩
  | clo f i j => obtain ⟨b, c, hb, hc, e⟩ := h; exact ⟨b, c, by rw [List.getElem?_append_left (List.getElem?_eq_some_iff.1 hb).1]; exact hb, by rw [List.getElem?_append_left (List.getElem?_eq_some_iff.1 hc).1]; exact hc, e⟩
  | _ => exact h

theorem RepL.mono {σ : List (Nat × Nat)} (τ : List (Nat × Nat)) {l : List AC} {vs : List Value} (h : RepL σ l vs) : RepL (σ ++ τ) l vs := by
  induction h with
  | nil => exact .nil
  | cons h _ ih => exact .cons (h.mono τ) ih

theorem Rep.mono {σ : List (Nat × Nat)} (τ : List (Nat × Nat)) {x : AV} {v : Value} (h : Rep σ x v) : Rep (σ ++ τ) x v := by
  cases x with
  | c x => exact RepC.mono τ h
  | agg l => obtain ⟨vs, e, hl⟩ := h; exact ⟨vs, e, hl.mono τ⟩
  | tup l => obtain ⟨vs, e, hl⟩ := h; exact ⟨vs, e, hl.mono τ⟩

theorem RepF.mono {σ : List (Nat × Nat)} (τ : List (Nat × Nat)) {l : List AV} {vs : List Value} (h : RepF σ l vs) : RepF (σ ++ τ) l vs := by
  induction h with
  | nil => exact .nil
  | cons h _ ih => exact .cons (h.mono τ) ih

/-- The world goes on: what was there is as it was. -/
def Ext (w w' : World) : Prop := Below w.heap.size w w'
theorem Ext.refl (w : World) : Ext w w := Below.refl _ _
theorem Ext.trans {a b c : World} (h : Ext a b) (k : Ext b c) : Ext a c := Below.trans h (Below.mono k h.size)
theorem Ext.drewN (w : World) (n : Nat) : Ext w (w.drewN n) := ⟨rfl, rfl, rfl, Nat.le_refl _, fun _ _ => rfl⟩

/-- A block's cells, of which the first are known. -/
def RepP (σ : List (Nat × Nat)) (cs : List AC) (vs : List Value) : Prop := ∃ k, RepL σ (cs ++ List.replicate k .any) vs

theorem RepL.some_any {σ : List (Nat × Nat)} : ∀ (vs : List Value), RepL σ (List.replicate vs.length .any) vs
  | [] => .nil
  | _ :: vs => .cons trivial (RepL.some_any vs)
theorem RepP.of {σ : List (Nat × Nat)} {cs : List AC} {vs : List Value} (h : RepL σ cs vs) : RepP σ cs vs := ⟨0, by simpa using h⟩
theorem RepP.get? {σ : List (Nat × Nat)} {cs : List AC} {vs : List Value} (h : RepP σ cs vs) {i : Nat} {x : AC} (hx : cs[i]? = some x) : ∃ v, vs[i]? = some v ∧ RepC σ x v := by
  obtain ⟨k, h⟩ := h
  exact h.get? (by rw [List.getElem?_append_left (List.getElem?_eq_some_iff.1 hx).1]; exact hx)
theorem RepP.le {σ : List (Nat × Nat)} {cs : List AC} {vs : List Value} (h : RepP σ cs vs) : cs.length ≤ vs.length := by
  obtain ⟨k, h⟩ := h
  have := h.length
  simp at this
  omega
theorem RepP.mono {σ : List (Nat × Nat)} (τ : List (Nat × Nat)) {cs : List AC} {vs : List Value} (h : RepP σ cs vs) : RepP (σ ++ τ) cs vs := by
  obtain ⟨k, h⟩ := h
  exact ⟨k, h.mono τ⟩

/-- The blocks that the executor knows: of each its place, and its slices' capacity. -/
structure MemOk (σ : List (Nat × Nat)) (M : List (List AC)) (w : World) : Prop where
  len : σ.length = M.length
  nodup : (σ.map (·.1)).Nodup
  at_ : ∀ (id : Nat) (b : Nat × Nat) (cs : List AC), σ[id]? = some b → M[id]? = some cs → ∃ (vs : Array Value) (e : TypeId), w.heap[b.1]? = some (.cells vs e (0, 0)) ∧ RepP σ cs vs.toList ∧ b.2 ≤ vs.size

theorem MemOk.lt {σ : List (Nat × Nat)} {M : List (List AC)} {w : World} (h : MemOk σ M w) {id : Nat} {b : Nat × Nat} (hb : σ[id]? = some b) : b.1 < w.heap.size := by
  have hi : id < M.length := by rw [← h.len]; exact (List.getElem?_eq_some_iff.1 hb).1
  obtain ⟨vs, e, hw, _⟩ := h.at_ id b M[id] hb (List.getElem?_eq_getElem hi)
  exact (Array.getElem?_eq_some_iff.1 hw).1

theorem MemOk.ext {σ : List (Nat × Nat)} {M : List (List AC)} {w w' : World} (h : MemOk σ M w) (he : Ext w w') : MemOk σ M w' :=
  ⟨h.len, h.nodup, fun id b cs hb hc => by
    obtain ⟨vs, e, hw, hr⟩ := h.at_ id b cs hb hc
    exact ⟨vs, e, by rw [he.block b.1 (h.lt hb)]; exact hw, hr⟩⟩

theorem MemOk.nil (w : World) : MemOk [] [] w := ⟨rfl, List.nodup_nil, fun id b cs hb _ => by cases hb⟩

/-- What a call of a function answers. -/
def Gives (P : Program) (f : FuncId) (args : Array Value) (w : World) (R : Value → World → Prop) : Prop :=
  (∃ v w', (callFunc f args).run P w = .ok (.value v) w' ∧ R v w') ∨
  ((callFunc f args).run P w = .ok (.enter f args) w ∧ Calls P f args w fun e w' => ∃ v, e = .returned v ∧ R v w')

/-- A function's answer: of arguments, and of the blocks that they lead to; under a condition. -/
structure Entry (P : Program) where
  f : FuncId
  fn : List AV → List (List AC) → Option (Bool × AV)
  ok : ∀ args M r, fn args M = some (true, r) → ∀ σ vs w, MemOk σ M w → RepF σ args vs → Gives P f vs.toArray w fun v w' => Rep σ r v ∧ Ext w w'

def find {P : Program} : List (Entry P) → FuncId → Option (Entry P)
  | [], _ => none
  | e :: l, f => if e.f == f then some e else find l f

theorem find_f {P : Program} {E : List (Entry P)} {f : FuncId} {e : Entry P} (h : find E f = some e) : e.f = f := by
  induction E with
  | nil => cases h
  | cons a l ih =>
    simp only [find] at h
    split at h
    · rename_i hf; cases h; simpa using hf
    · exact ih h

def evA (F : List AV) : Operand → AV
  | .tmp t => F.getD t (.c .any)
  | .const v => .c (toC v)
  | .func f => .c (.val (.func (.func f) #[] #[]))
  | .global _ => .c .any

def isAggV : Value → Bool
  | .agg _ | .tuple _ => true
  | _ => false

theorem rep_ev {σ : List (Nat × Nat)} {F : List AV} {a : Act} (h : RepF σ F a.tmps.toList) (x : Operand) : Rep σ (evA F x) (a.eval x) := by
  cases x with
  | tmp t => have := h.get t undef; simpa [evA, Act.eval, Array.getD_eq_getD_getElem?, List.getD_eq_getElem?_getD] using this
  | const v => exact rep_toC σ v
  | global g => trivial
  | func f => exact rfl

def flBin {k : FloatKind} (op : BinOp) (x y : Fl k) : Option AC :=
  match op with
  | .add => some (.fl k (x + y))
  | .sub => some (.fl k (x - y))
  | .mul => some (.fl k (x * y))
  | .quo => some (.fl k (x / y))
  | .eql => some (.sb (ord x y == some .eq))
  | .neq => some (.sb (ord x y != some .eq))
  | .lss => some (.sb (ord x y == some .lt))
  | .leq => some (.sb (ord x y == some .lt || ord x y == some .eq))
  | .gtr => some (.sb (ord x y == some .gt))
  | .geq => some (.sb (ord x y == some .gt || ord x y == some .eq))
  | _ => none

def cxBin {k : FloatKind} (op : BinOp) (x y u v : Fl k) : Option AC :=
  match op with
  | .add => some (.cx k (x + u) (y + v))
  | .sub => some (.cx k (x - u) (y - v))
  | .eql => some (.sb (ord x u == some .eq && ord y v == some .eq))
  | .neq => some (.sb (!(ord x u == some .eq && ord y v == some .eq)))
  | _ => none

def intBin (op : BinOp) (k : IntKind) (a b : Int) : Option AC :=
  match op with
  | .add => some (.val (.int k (k.wrap (a + b))))
  | .sub => some (.val (.int k (k.wrap (a - b))))
  | .mul => some (.val (.int k (k.wrap (a * b))))
  | .quo => if b = 0 then none else some (.val (.int k (k.wrap (a.tdiv b))))
  | .rem => if b = 0 then none else some (.val (.int k (a.tmod b)))
  | .eql => some (.sb (a == b))
  | .neq => some (.sb (a != b))
  | .lss => some (.sb (decide (a < b)))
  | .leq => some (.sb (decide (a ≤ b)))
  | .gtr => some (.sb (decide (a > b)))
  | .geq => some (.sb (decide (a ≥ b)))
  | _ => none

def opBin (P : Program) (t : TypeId) (op : BinOp) : AC → AC → Option AC
  | .fl .f32 x, .fl .f32 y => flBin op x y
  | .fl .f64 x, .fl .f64 y => flBin op x y
  | .cx .f32 x y, .cx .f32 u v => cxBin op x y u v
  | .cx .f64 x y, .cx .f64 u v => cxBin op x y u v
  | .sb x, .sb y => match P.underlying t, op with
    | some .bool, .eql => some (.sb (x == y))
    | some .bool, .neq => some (.sb (x != y))
    | _, _ => none
  | .val (.int .i64 a), .val (.int .i64 b) => intBin op .i64 a b
  | .val (.int .u64 a), .val (.int .u64 b) => match op with
    | .andNot => some (.val (.int .u64 (bits .andNot .u64 a b)))
    | _ => none
  | _, _ => none

section
variable {P : Program} {w : World}

theorem run_cx {k : FloatKind} (op : BinOp) (hop : op = .add ∨ op = .sub) {a b c d : Nat} {x y u v : Fl k} (ha : Is k a x) (hb : Is k b y) (hc : Is k c u) (hd : Is k d v) (w : World) :
    ∃ t s n, (Op.complexOp op k a b c d).run P w = .ok (.complex k (B (bin op x u) t) (B (bin op y v) s)) (w.drewN n) := by
  have hop' : op = .add ∨ op = .sub ∨ op = .mul ∨ op = .quo := hop.imp_right .inl
  obtain ⟨t, n, h1⟩ := run_arith (P := P) op hop' ha hc w
  obtain ⟨s, m, h2⟩ := run_arith (P := P) op hop' hb hd (w.drewN n)
  refine ⟨t, s, n + m, ?_⟩
  have e1 : (Op.Complex.arith op k a c).run P w = .ok (B (bin op x u) t) (w.drewN n) := by simp [Op.Complex.arith, h1]
  have e2 : (Op.Complex.arith op k b d).run P (w.drewN n) = .ok (B (bin op y v) s) ((w.drewN n).drewN m) := by simp [Op.Complex.arith, h2]
  rcases hop with rfl | rfl <;> simp [Op.complexOp, e1, e2]

theorem opBin_sound {σ : List (Nat × Nat)} {op : BinOp} {t : TypeId} {x y : Operand} {a b r : AC} {u v : Value} (h : opBin P t op a b = some r) (hu : RepC σ a u) (hv : RepC σ b v) :
    ∃ z w', (do eqGuard op t x y u v; binOp op t u v).run P w = .ok z w' ∧ RepC σ r z ∧ Ext w w' := by
  have fl : ∀ {k : FloatKind} {x1 y1 : Fl k} {r : AC} {t1 t2 : Nat}, flBin op x1 y1 = some r →
      ∃ z w', (do eqGuard op t x y (.float k (B x1 t1)) (.float k (B y1 t2)); binOp op t (.float k (B x1 t1)) (.float k (B y1 t2))).run P w = .ok z w' ∧ RepC σ r z ∧ Ext w w' := by
    intro k x1 y1 r t1 t2 h
    have hord := order_B x1 y1 t1 t2
    have hg : eqGuard op t x y (.float k (B x1 t1)) (.float k (B y1 t2)) = pure () := by unfold eqGuard; cases op <;> rfl
    have ha : ∀ o, o = .add ∨ o = .sub ∨ o = .mul ∨ o = .quo → binOp o t (.float k (B x1 t1)) (.float k (B y1 t2)) = Op.floatArith o k (B x1 t1) (B y1 t2) := by
      intro o ho; rcases ho with rfl | rfl | rfl | rfl <;> cases k <;> rfl
    rw [hg]
    have arith : ∀ o, (ho : o = .add ∨ o = .sub ∨ o = .mul ∨ o = .quo) → ∃ z w', (do pure (); binOp o t (.float k (B x1 t1)) (.float k (B y1 t2))).run P w = .ok z w' ∧ RepC σ (.fl k (bin o x1 y1)) z ∧ Ext w w' := by
      intro o ho
      obtain ⟨s, n, hr⟩ := run_arith (P := P) o ho ⟨t1, rfl⟩ ⟨t2, rfl⟩ w
      exact ⟨_, _, by rw [ha o ho]; simpa using hr, ⟨s, rfl, wd_bin _ _ _ _⟩, Ext.drewN _ _⟩
    cases op <;> simp only [flBin, Option.some.injEq, reduceCtorEq] at h <;> subst h
    case add => exact arith .add (by simp)
    case sub => exact arith .sub (by simp)
    case mul => exact arith .mul (by simp)
    case quo => exact arith .quo (by simp)
    all_goals exact ⟨_, w, by simp [binOp_float_cmp_eql, binOp_float_cmp_neq, binOp_float_cmp_lss, binOp_float_cmp_leq, binOp_float_cmp_gtr, binOp_float_cmp_geq, hord], rfl, Ext.refl _⟩
  have cx : ∀ {k : FloatKind} {x1 y1 x2 y2 : Fl k} {r : AC} {t1 t2 t3 t4 : Nat}, cxBin op x1 y1 x2 y2 = some r →
      ∃ z w', (do eqGuard op t x y (.complex k (B x1 t1) (B y1 t2)) (.complex k (B x2 t3) (B y2 t4)); binOp op t (.complex k (B x1 t1) (B y1 t2)) (.complex k (B x2 t3) (B y2 t4))).run P w = .ok z w' ∧ RepC σ r z ∧ Ext w w' := by
    intro k x1 y1 x2 y2 r t1 t2 t3 t4 h
    have ho1 := order_B x1 x2 t1 t3
    have ho2 := order_B y1 y2 t2 t4
    have hg : eqGuard op t x y (.complex k (B x1 t1) (B y1 t2)) (.complex k (B x2 t3) (B y2 t4)) = pure () := by unfold eqGuard; cases op <;> rfl
    rw [hg]
    have arith : ∀ o, (ho : o = .add ∨ o = .sub) → ∃ z w', (do pure (); binOp o t (.complex k (B x1 t1) (B y1 t2)) (.complex k (B x2 t3) (B y2 t4))).run P w = .ok z w' ∧ RepC σ (.cx k (bin o x1 x2) (bin o y1 y2)) z ∧ Ext w w' := by
      intro o ho
      have hb : binOp o t (.complex k (B x1 t1) (B y1 t2)) (.complex k (B x2 t3) (B y2 t4)) = Op.complexOp o k (B x1 t1) (B y1 t2) (B x2 t3) (B y2 t4) := by
        rcases ho with rfl | rfl <;> cases k <;> rfl
      obtain ⟨s1, s2, n, hr⟩ := run_cx (P := P) o ho ⟨t1, rfl⟩ ⟨t2, rfl⟩ ⟨t3, rfl⟩ ⟨t4, rfl⟩ w
      exact ⟨_, _, by rw [hb]; simpa using hr, ⟨s1, s2, rfl, wd_bin _ _ _ _, wd_bin _ _ _ _⟩, Ext.drewN _ _⟩
    cases op <;> simp only [cxBin, Option.some.injEq, reduceCtorEq] at h <;> subst h
    case add => exact arith .add (by simp)
    case sub => exact arith .sub (by simp)
    all_goals exact ⟨_, w, by simp [run_eql_complex, run_neq_complex, ho1, ho2], rfl, Ext.refl _⟩
  unfold opBin at h
  split at h
  · obtain ⟨t1, rfl, _⟩ := hu; obtain ⟨t2, rfl, _⟩ := hv; exact fl h
  · obtain ⟨t1, rfl, _⟩ := hu; obtain ⟨t2, rfl, _⟩ := hv; exact fl h
  · obtain ⟨t1, t2, rfl, _, _⟩ := hu; obtain ⟨t3, t4, rfl, _, _⟩ := hv; exact cx h
  · obtain ⟨t1, t2, rfl, _, _⟩ := hu; obtain ⟨t3, t4, rfl, _, _⟩ := hv; exact cx h
  · cases hu; cases hv
    rename_i a b
    split at h
    · rename_i ht; cases h
      exact ⟨_, w, by simp [eqGuard, run_eql_bool w t a b ht], rfl, Ext.refl _⟩
    · rename_i ht; cases h
      exact ⟨_, w, by simp [eqGuard, run_neq_bool w t a b ht]; cases a <;> cases b <;> rfl, rfl, Ext.refl _⟩
    · cases h
  · cases hu; cases hv
    rename_i a b
    unfold intBin at h
    cases op
    case quo =>
      simp only at h
      split at h
      · cases h
      · rename_i hb
        cases h
        exact ⟨_, w, by simp [eqGuard, binOp, Op.intDiv, hb], rfl, Ext.refl _⟩
    case rem =>
      simp only at h
      split at h
      · cases h
      · rename_i hb
        cases h
        exact ⟨_, w, by simp [eqGuard, binOp, Op.intDiv, hb], rfl, Ext.refl _⟩
    all_goals
      simp only [Option.some.injEq, reduceCtorEq] at h
    all_goals
      subst h
      exact ⟨_, w, rfl, rfl, Ext.refl _⟩
  · cases hu; cases hv
    split at h
    · cases h; exact ⟨_, w, rfl, rfl, Ext.refl _⟩
    · cases h
  · cases h
end

def opUn (op : UnOp) : AC → Option AC
  | .fl k x => match op with | .neg => some (.fl k (-x)) | _ => none
  | .cx k x y => match op with | .neg => some (.cx k (-x) (-y)) | _ => none
  | .sb b => match op with | .not => some (.sb (!b)) | _ => none
  | _ => none

theorem opUn_sound {P : Program} {w : World} {σ : List (Nat × Nat)} {op : UnOp} {a r : AC} {u : Value} (h : opUn op a = some r) (hu : RepC σ a u) :
    ∃ z, (Op.unary op u).run P w = .ok z w ∧ RepC σ r z := by
  cases a <;> cases op <;> simp only [opUn, Option.some.injEq, reduceCtorEq] at h <;> subst h
  · obtain ⟨t, rfl, hw⟩ := hu
    rename_i k x
    obtain ⟨s, hs⟩ := neg_B x t
    exact ⟨_, rfl, s, by rw [hs]; rfl, wd_neg (wd_all hw) s⟩
  · obtain ⟨t1, t2, rfl, hw1, hw2⟩ := hu
    rename_i k x y
    obtain ⟨s1, hs1⟩ := neg_B x t1
    obtain ⟨s2, hs2⟩ := neg_B y t2
    exact ⟨_, rfl, s1, s2, by rw [hs1, hs2]; rfl, wd_neg (wd_all hw1) s1, wd_neg (wd_all hw2) s2⟩
  · cases hu
    exact ⟨_, rfl, rfl⟩

theorem wd_int (k : FloatKind) (n : Int) : Wd k (B (lit k (floatOfInt k n)) 0) := k.format.write_lt (.number (n < 0) n.natAbs 0)

/-- A conversion; under a condition. -/
def opConv (P : Program) (src dst : TypeId) (a : AC) : Option (Bool × AC) :=
  if (P.underlying src).isSome then
    match P.underlying dst, a with
    | some (.float k), .val (.int _ n) => some (true, .fl k (lit k (floatOfInt k n)))
    | some (.float .f64), .fl .f32 x => some (true, .fl .f64 (widen x))
    | some (.float .f64), .fl .f64 x => some (true, .fl .f64 x)
    | some (.float .f32), .fl .f32 x => some (true, .fl .f32 x)
    | some (.float .f32), .fl .f64 x => some (fits x, .fl .f32 (narrow x))
    | some (.complex .f64), .cx .f32 x y => some (true, .cx .f64 (widen x) (widen y))
    | some (.complex .f32), .cx .f64 x y => some (fits x && fits y, .cx .f32 (narrow x) (narrow y))
    | some (.int .i64), .val (.int _ n) => some (true, .val (.int .i64 (IntKind.i64.wrap n)))
    | some (.int .i64), .fl .f64 x => some (isI x .i64, .val (.int .i64 (toI x .i64)))
    | _, _ => none
  else none

theorem opConv_sound {P : Program} {w : World} {σ : List (Nat × Nat)} {src dst : TypeId} {a r : AC} {u : Value} (h : opConv P src dst a = some (true, r)) (hu : RepC σ a u) :
    ∃ z w', (convert src dst u).run P w = .ok z w' ∧ RepC σ r z ∧ Ext w w' := by
  unfold opConv at h
  split at h
  · rename_i hs
    obtain ⟨d, hs'⟩ := Option.isSome_iff_exists.1 hs
    have conv : ∀ (s k : FloatKind) (b : Nat), P.underlying dst = some (.float k) → (convert src dst (.float s b)).run P w = (Conv.floatToFloat s b k).run P w := by
      intro s k b hd
      cases d <;> simp [convert, run_underlying hs', run_underlying hd]
    have same : ∀ (k : FloatKind) (b : Nat), P.underlying dst = some (.float k) → (convert src dst (.float k b)).run P w = .ok (.float k b) w := by
      intro k b hd
      rw [conv k k b hd]; simp [Conv.floatToFloat]
    split at h
    · rename_i hd; cases h; cases hu
      exact ⟨_, w, run_convert_int_float w src dst _ _ _ hs hd, ⟨0, rfl, wd_int _ _⟩, Ext.refl _⟩
    · rename_i x hd; cases h
      obtain ⟨t, rfl, _⟩ := hu
      obtain ⟨s, n, hr⟩ := run_widen (P := P) (Is.mk x t) w
      exact ⟨_, _, by rw [conv _ _ _ hd]; exact hr, ⟨s, rfl, wd_widen _ _⟩, Ext.drewN _ _⟩
    · rename_i hd; cases h
      obtain ⟨t, rfl, hw⟩ := hu
      exact ⟨_, w, same _ _ hd, ⟨t, rfl, hw⟩, Ext.refl _⟩
    · rename_i hd; cases h
      obtain ⟨t, rfl, hw⟩ := hu
      exact ⟨_, w, same _ _ hd, ⟨t, rfl, hw⟩, Ext.refl _⟩
    · rename_i x hd
      simp only [Option.some.injEq, Prod.mk.injEq] at h
      obtain ⟨hf, rfl⟩ := h
      obtain ⟨t, rfl, _⟩ := hu
      obtain ⟨s, n, hr⟩ := run_narrow (P := P) (Is.mk x t) hf w
      exact ⟨_, _, by rw [conv _ _ _ hd]; exact hr, ⟨s, rfl, wd_narrow _ _⟩, Ext.drewN _ _⟩
    · rename_i x y hd; cases h
      obtain ⟨t1, t2, rfl, _, _⟩ := hu
      obtain ⟨s1, n1, hr1⟩ := run_widen (P := P) (Is.mk x t1) w
      obtain ⟨s2, n2, hr2⟩ := run_widen (P := P) (Is.mk y t2) (w.drewN n1)
      have cc : (convert src dst (.complex .f32 (B x t1) (B y t2))).run P w = (Conv.complexToComplex .f32 (B x t1) (B y t2) .f64).run P w := by
        cases d <;> simp [convert, run_underlying hs', run_underlying hd]
      have cr : (Conv.complexToComplex .f32 (B x t1) (B y t2) .f64).run P w = .ok (.complex .f64 (B (widen x) s1) (B (widen y) s2)) ((w.drewN n1).drewN n2) := by
        simp [Conv.complexToComplex, hr1, hr2]
      exact ⟨_, _, cc.trans cr, ⟨s1, s2, rfl, wd_widen _ _, wd_widen _ _⟩, Ext.trans (Ext.drewN _ _) (Ext.drewN _ _)⟩
    · rename_i x y hd
      simp only [Option.some.injEq, Prod.mk.injEq, Bool.and_eq_true] at h
      obtain ⟨⟨hf1, hf2⟩, rfl⟩ := h
      obtain ⟨t1, t2, rfl, _, _⟩ := hu
      obtain ⟨s1, n1, hr1⟩ := run_narrow (P := P) (Is.mk x t1) hf1 w
      obtain ⟨s2, n2, hr2⟩ := run_narrow (P := P) (Is.mk y t2) hf2 (w.drewN n1)
      have cc : (convert src dst (.complex .f64 (B x t1) (B y t2))).run P w = (Conv.complexToComplex .f64 (B x t1) (B y t2) .f32).run P w := by
        cases d <;> simp [convert, run_underlying hs', run_underlying hd]
      have cr : (Conv.complexToComplex .f64 (B x t1) (B y t2) .f32).run P w = .ok (.complex .f32 (B (narrow x) s1) (B (narrow y) s2)) ((w.drewN n1).drewN n2) := by
        simp [Conv.complexToComplex, hr1, hr2]
      exact ⟨_, _, cc.trans cr, ⟨s1, s2, rfl, wd_narrow _ _, wd_narrow _ _⟩, Ext.trans (Ext.drewN _ _) (Ext.drewN _ _)⟩
    · rename_i k n hd; cases h; cases hu
      have ci : (convert src dst (.int k n)).run P w = .ok (.int .i64 (IntKind.i64.wrap n)) w := by
        cases d <;> simp [convert, run_underlying hs', run_underlying hd, Conv.intToInt]
      exact ⟨_, w, ci, rfl, Ext.refl _⟩
    · rename_i x hd
      simp only [Option.some.injEq, Prod.mk.injEq] at h
      obtain ⟨hf, rfl⟩ := h
      obtain ⟨t, rfl, _⟩ := hu
      cases x with
      | none => cases hf
      | some r' =>
        obtain ⟨n, hn⟩ := Option.isSome_iff_exists.1 (show (floatToIntVal .f64 r' .i64).isSome = true from hf)
        refine ⟨_, w, run_convert_float_int w src dst .f64 .i64 r' n hs hd hn, ?_, Ext.refl _⟩
        show Value.int .i64 n = .int .i64 ((floatToIntVal .f64 r' .i64).getD 0)
        rw [hn]; rfl
    · cases h
  · cases h

end Go.Proofs.Ytlpahmefebgdlaa.Fx
/- The executor, second part: what the operations that only read answer. No condition. -/
namespace Go.Proofs.Ytlpahmefebgdlaa.Fx
open Go Go.RowKit

theorem RepL.append {σ : List (Nat × Nat)} {l l' : List AC} {vs vs' : List Value} (h : RepL σ l vs) (h' : RepL σ l' vs') : RepL σ (l ++ l') (vs ++ vs') := by
  induction h with
  | nil => exact h'
  | cons h _ ih => exact .cons h ih

theorem RepL.take {σ : List (Nat × Nat)} {l : List AC} {vs : List Value} (h : RepL σ l vs) (n : Nat) : RepL σ (l.take n) (vs.take n) := by
  induction h generalizing n with
  | nil => cases n <;> exact .nil
  | cons h _ ih => cases n with
    | zero => exact .nil
    | succ n => exact .cons h (ih n)

theorem RepL.drop {σ : List (Nat × Nat)} {l : List AC} {vs : List Value} (h : RepL σ l vs) (n : Nat) : RepL σ (l.drop n) (vs.drop n) := by
  induction h generalizing n with
  | nil => cases n <;> exact .nil
  | cons h t ih => cases n with
    | zero => exact .cons h t
    | succ n => exact ih n

theorem RepL.set {σ : List (Nat × Nat)} {F : List AC} {vs : List Value} (h : RepL σ F vs) (i : Nat) {x : AC} {v : Value} (hx : RepC σ x v) : RepL σ (F.set i x) (vs.set i v) := by
  induction h generalizing i with
  | nil => exact .nil
  | cons h t ih => cases i with
    | zero => exact .cons hx t
    | succ i => exact .cons h (ih i)

/-- The cells of a block that the executor knows. -/
theorem cell_of {σ : List (Nat × Nat)} {M : List (List AC)} {w : World} (hM : MemOk σ M w) {id o : Nat} {b : Nat × Nat} {cs : List AC} {x : AC} (hb : σ[id]? = some b) (hc : M[id]? = some cs) (hx : cs[o]? = some x) :
    ∃ v, w.cell? ⟨b.1, o, none⟩ = some v ∧ RepC σ x v := by
  obtain ⟨vs, e, hw, hl, _⟩ := hM.at_ id b cs hb hc
  obtain ⟨v, hv, hr⟩ := hl.get? hx
  exact ⟨v, by simp only [World.cell?, hw]; simpa using hv, hr⟩

theorem add_off (b o n : Nat) : (⟨b, o, none⟩ : Addr).add n = ⟨b, o + n, none⟩ := by
  unfold Addr.add; split <;> simp_all

/-- What a load answers. -/
def rdA (P : Program) (M : List (List AC)) (t : TypeId) (id off : Nat) : Option AV :=
  match M[id]? with
  | none => none
  | some cs =>
    match P.underlying t, P.info? t with
    | some (.struct _), some i => if off + i.size ≤ cs.length then some (.agg ((cs.drop off).take i.size)) else none
    | some (.array _ _), some i => if off + i.size ≤ cs.length then some (.agg ((cs.drop off).take i.size)) else none
    | some (.float _), _ => (cs[off]?).map .c
    | some (.complex _), _ => (cs[off]?).map .c
    | some .bool, _ => (cs[off]?).map .c
    | some (.int _), _ => (cs[off]?).map .c
    | _, _ => none

theorem rdA_sound {P : Program} {w : World} {σ : List (Nat × Nat)} {M : List (List AC)} {t : TypeId} {id off : Nat} {b : Nat × Nat} {r : AV} (hM : MemOk σ M w) (hb : σ[id]? = some b) (h : rdA P M t id off = some r) :
    ∃ v, (loadVar t ⟨b.1, off, none⟩).run P w = .ok v w ∧ Rep σ r v := by
  unfold rdA at h
  cases hc : M[id]? with
  | none => simp [hc] at h
  | some cs =>
    simp only [hc] at h
    obtain ⟨vs, e, hw, hP, _⟩ := hM.at_ id b cs hb hc
    have hPl := hP.le
    obtain ⟨kk, hl⟩ := hP
    have many : ∀ i : TypeInfo, P.info? t = some i → (isAgg t).run P w = .ok true w → (if off + i.size ≤ cs.length then some (AV.agg ((cs.drop off).take i.size)) else none) = some r →
        ∃ v, (loadVar t ⟨b.1, off, none⟩).run P w = .ok v w ∧ Rep σ r v := by
      intro i hi ha h
      split at h
      · rename_i hle
        cases h
        have hcells : ((vs.toList.drop off).take i.size).length = i.size := by simp; simp at hPl; omega
        have hld := run_loadCells_list (P := P) w ⟨b.1, off, none⟩ ((vs.toList.drop off).take i.size) (fun j v hj => by
          rw [add_off]
          have hj' : j < i.size := by
            have := (List.getElem?_eq_some_iff.1 hj).1
            rw [hcells] at this; exact this
          rw [List.getElem?_take_of_lt hj', List.getElem?_drop] at hj
          simp only [World.cell?, hw]
          simpa using hj)
        rw [hcells] at hld
        refine ⟨.agg ((vs.toList.drop off).take i.size).toArray, ?_, _, rfl, ?_⟩
        · simp [loadVar, ha, sizeOf, typeInfo, hi, hld]
        · have h9 := (hl.drop off).take i.size
          rw [List.drop_append_of_le_length (by omega), List.take_append_of_le_length (by simp; omega)] at h9
          simpa using h9
      · cases h
    have one : (isAgg t).run P w = .ok false w → (cs[off]?).map AV.c = some r → ∃ v, (loadVar t ⟨b.1, off, none⟩).run P w = .ok v w ∧ Rep σ r v := by
      intro ha h
      cases hx : cs[off]? with
      | none => simp [hx] at h
      | some x =>
        simp only [hx, Option.map_some, Option.some.injEq] at h
        subst h
        obtain ⟨v, hv, hr⟩ := cell_of hM hb hc hx
        exact ⟨v, by simp [loadVar, ha, run_load, hv], hr⟩
    split at h
    · rename_i hu hi; exact many _ hi (by simp [isAgg, run_underlying hu]) h
    · rename_i hu hi; exact many _ hi (by simp [isAgg, run_underlying hu]) h
    · rename_i hu; exact one (by simp [isAgg, run_underlying hu]) h
    · rename_i hu; exact one (by simp [isAgg, run_underlying hu]) h
    · rename_i hu; exact one (by simp [isAgg, run_underlying hu]) h
    · rename_i hu; exact one (by simp [isAgg, run_underlying hu]) h
    · cases h

/-- A field's address. -/
def fldA (P : Program) (s : TypeId) (f : Nat) (x : AV) : Option AV :=
  match x, P.underlying s with
  | .c (.ptr id off), some (.struct fields) =>
    match fields[f]? with
    | some fd => match P.info? fd.type with
      | some i => if i.size = 0 then none else some (.c (.ptr id (off + fd.offset)))
      | none => none
    | none => none
  | _, _ => none

theorem fldA_sound {P : Program} {w : World} {σ : List (Nat × Nat)} {s : TypeId} {f : Nat} {x r : AV} {u : Value} (h : fldA P s f x = some r) (hu : Rep σ x u) :
    ∃ v, (Instr.fieldAt s u f).run P w = .ok v w ∧ Rep σ r v := by
  unfold fldA at h
  split at h
  · rename_i id off fields hs
    obtain ⟨b, hb, rfl⟩ := hu
    split at h
    · rename_i fd hf
      split at h
      · rename_i i hi
        split at h
        · cases h
        · rename_i hz
          cases h
          refine ⟨.pointer (some ⟨b.1, off + fd.offset, none⟩), ?_, b, hb, rfl⟩
          simp [Instr.fieldAt, run_underlying hs, hf, Instr.sureAddr, fieldPlace, sizeOf, typeInfo, hi, hz, add_off]
      · cases h
    · cases h
  · cases h

/-- An element's address. -/
def ixA (P : Program) (t : TypeId) (x y : AV) : Option AV :=
  match x, y, P.underlying t with
  | .c (.ptr id off), .c (.val (.int .i64 n)), some (.array len elem) =>
    match P.info? elem with
    | some i => if 0 ≤ n ∧ n < len then some (.c (.ptr id (off + n.toNat * i.size))) else none
    | none => none
  | .c (.slc id len), .c (.val (.int .i64 n)), some (.slice elem) =>
    match P.info? elem with
    | some i => if 0 ≤ n ∧ n < len then some (.c (.ptr id (n.toNat * i.size))) else none
    | none => none
  | .c (.sub id off len), .c (.val (.int .i64 n)), some (.slice elem) =>
    match P.info? elem with
    | some i => if 0 ≤ n ∧ n < len then some (.c (.ptr id (off + n.toNat * i.size))) else none
    | none => none
  | .c (.slw id len), .c (.val (.int .i64 n)), some (.slice elem) =>
    match P.info? elem with
    | some i => if 0 ≤ n ∧ n < len then some (.c (.ptr id (n.toNat * i.size))) else none
    | none => none
  | _, _, _ => none

theorem ixA_sound {P : Program} {w : World} {σ : List (Nat × Nat)} {t : TypeId} {x y r : AV} {u v : Value} (h : ixA P t x y = some r) (hu : Rep σ x u) (hv : Rep σ y v) :
    ∃ z, (Instr.indexAt t u v).run P w = .ok z w ∧ Rep σ r z := by
  unfold ixA at h
  split at h
  · rename_i id off n len elem ht
    obtain ⟨b, hb, rfl⟩ := hu
    cases hv
    split at h
    · rename_i i hi
      split at h
      · rename_i hn
        cases h
        refine ⟨.pointer (some ⟨b.1, off + n.toNat * i.size, none⟩), ?_, b, hb, rfl⟩
        simp [Instr.indexAt, asIntOf, run_underlying ht, Instr.sureAddr, hn.1, hn.2, sizeOf, typeInfo, hi, add_off]
      · cases h
    · cases h
  · rename_i id len n elem ht
    obtain ⟨b, hb, _, rfl⟩ := hu
    cases hv
    split at h
    · rename_i i hi
      split at h
      · rename_i hn
        cases h
        refine ⟨.pointer (some ⟨b.1, n.toNat * i.size, none⟩), ?_, b, hb, rfl⟩
        simp [Instr.indexAt, asIntOf, run_underlying ht, hn.1, hn.2, sizeOf, typeInfo, hi, add_off]
      · cases h
    · cases h
  · rename_i id off len n elem ht
    obtain ⟨b, a, c, hb, rfl, ha⟩ := hu
    cases hv
    split at h
    · rename_i i hi
      split at h
      · rename_i hn
        cases h
        have ha' := ha (by omega)
        subst ha'
        refine ⟨.pointer (some ⟨b.1, off + n.toNat * i.size, none⟩), ?_, b, hb, rfl⟩
        simp [Instr.indexAt, asIntOf, run_underlying ht, hn.1, hn.2, sizeOf, typeInfo, hi, add_off]
      · cases h
    · cases h
  · rename_i id len n elem ht
    obtain ⟨b, c, hb, _, _, rfl⟩ := hu
    cases hv
    split at h
    · rename_i i hi
      split at h
      · rename_i hn
        cases h
        refine ⟨.pointer (some ⟨b.1, n.toNat * i.size, none⟩), ?_, b, hb, rfl⟩
        simp [Instr.indexAt, asIntOf, run_underlying ht, hn.1, hn.2, sizeOf, typeInfo, hi, add_off]
      · cases h
    · cases h
  · cases h

/-- What is left of a slice from an index on. -/
def slA (P : Program) (t : TypeId) (x y : AV) : Option AV :=
  match x, y, P.underlying t with
  | .c (.slc id len), .c (.val (.int .i64 n)), some (.slice elem) =>
    match P.info? elem with
    | some i => if 0 ≤ n ∧ n ≤ len then some (.c (.sub id (n.toNat * i.size) (len - n.toNat))) else none
    | none => none
  | _, _, _ => none
theorem slA_sound {P : Program} {w : World} {σ : List (Nat × Nat)} {t : TypeId} {x y r : AV} {u v : Value} (h : slA P t x y = some r) (hu : Rep σ x u) (hv : Rep σ y v) :
    ∃ z, (Instr.sliceAt t u (some v) none none).run P w = .ok z w ∧ Rep σ r z := by
  unfold slA at h
  split at h
  · rename_i id len n elem ht
    obtain ⟨b, hb, hle, rfl⟩ := hu
    cases hv
    split at h
    · rename_i i hi
      split at h
      · rename_i hn
        cases h
        have he : P.elem t = elem := by simp [Program.elem, ht]
        have ht' : P.underlying t = some (.slice (P.elem t)) := by rw [he]; exact ht
        refine ⟨sliced (some ⟨b.1, 0, none⟩) n.toNat len b.2 i.size, ?_, b, _, _, hb, rfl, fun h0 => ?_⟩
        · rw [run_sliceAt_slice w t _ _ _ _ ht', run_slice_l w t _ _ _ ht' .i64 n hn.1 hn.2]
          simp [sizeOf, typeInfo, he, hi, Result.andThen]
        · rw [if_neg (by omega)]
          simp [add_off]
      · cases h
    · cases h
  · cases h

/-- An element of an array that is a value, of one cell. -/
def elA (P : Program) (t : TypeId) (x y : AV) : Option AV :=
  match x, y, P.underlying t with
  | .agg l, .c (.val (.int .i64 n)), some (.array len elem) =>
    match P.underlying elem, P.info? elem with
    | some (.float _), some i => if 0 ≤ n ∧ n < len ∧ i.size = 1 then (l[n.toNat]?).map .c else none
    | _, _ => none
  | _, _, _ => none

theorem elA_sound {P : Program} {w : World} {σ : List (Nat × Nat)} {t : TypeId} {x y r : AV} {u v : Value} (h : elA P t x y = some r) (hu : Rep σ x u) (hv : Rep σ y v) :
    ∃ z, (Instr.index t u v).run P w = .ok z w ∧ Rep σ r z := by
  unfold elA at h
  split at h
  · rename_i l n len elem ht
    obtain ⟨vs, rfl, hl⟩ := hu
    cases hv
    split at h
    · rename_i i hk hi
      split at h
      · rename_i hn
        cases hx : l[n.toNat]? with
        | none => simp [hx] at h
        | some x =>
          simp only [hx, Option.map_some, Option.some.injEq] at h
          subst h
          obtain ⟨z, hz, hr⟩ := hl.get? hx
          have hz' : vs[n.toNat]? = some z := by simpa using hz
          refine ⟨z, ?_, hr⟩
          simp [Instr.index, asIntOf, run_underlying ht, hn.1, hn.2.1, sizeOf, typeInfo, hi, hn.2.2, part, isAgg, run_underlying hk, hz']
      · cases h
    · cases h
  · cases h

/-- The cells of a value. -/
def cellsA : AV → Option (List AC)
  | .c x => some [x]
  | .agg l => some l
  | .tup _ => none

theorem cells_one {σ : List (Nat × Nat)} {x : AC} {v : Value} (h : RepC σ x v) (hx : ∀ u, x = .val u → u.cells = #[u]) (hany : x ≠ .any) (htwo : ∀ a b c d, x ≠ .two a b c d) : v.cells = #[v] := by
  cases x with
  | fl k x => obtain ⟨t, rfl, _⟩ := h; rfl
  | cx k x y => obtain ⟨t, s, rfl, _, _⟩ := h; rfl
  | sb b => cases h; rfl
  | val u => cases h; exact hx _ rfl
  | ptr id off => obtain ⟨b, _, rfl⟩ := h; rfl
  | slc id n => obtain ⟨b, _, _, rfl⟩ := h; rfl
  | sub id off n => obtain ⟨b, a, c, _, rfl, _⟩ := h; rfl
  | slw id n => obtain ⟨b, c, _, _, _, rfl⟩ := h; rfl
  | two a b c d => exact (htwo _ _ _ _ rfl).elim
  | clo f i j => obtain ⟨b, c, _, _, rfl⟩ := h; rfl
  | any => exact (hany rfl).elim

/-- Is this surely one cell? -/
def oneA : AC → Bool
  | .fl _ _ | .cx _ _ _ | .sb _ | .ptr _ _ | .slc _ _ | .sub _ _ _ | .slw _ _ => true
  | .val (.int _ _) | .val (.float _ _) => true
  | _ => false

theorem oneA_cells {σ : List (Nat × Nat)} {x : AC} {v : Value} (h : RepC σ x v) (ho : oneA x = true) : v.cells = #[v] ∧ v.oneCell' = true := by
  cases x with
  | fl k x => obtain ⟨t, rfl, _⟩ := h; exact ⟨rfl, rfl⟩
  | cx k x y => obtain ⟨t, s, rfl, _, _⟩ := h; exact ⟨rfl, rfl⟩
  | sb b => cases h; exact ⟨rfl, rfl⟩
  | val u => cases h; cases v <;> first | exact ⟨rfl, rfl⟩ | cases ho
  | ptr id off => obtain ⟨b, _, rfl⟩ := h; exact ⟨rfl, rfl⟩
  | slc id n => obtain ⟨b, _, _, rfl⟩ := h; exact ⟨rfl, rfl⟩
  | sub id off n => obtain ⟨b, a, c, _, rfl, _⟩ := h; exact ⟨rfl, rfl⟩
  | slw id n => obtain ⟨b, c, _, _, _, rfl⟩ := h; exact ⟨rfl, rfl⟩
  | two a b c d => cases ho
  | clo f i j => cases ho
  | any => cases ho

def cellsOk : AV → Option (List AC)
  | .c x => if oneA x then some [x] else none
  | .agg l => if l.all oneA then some l else none
  | .tup _ => none

theorem cellsOk_sound {σ : List (Nat × Nat)} {x : AV} {l : List AC} {v : Value} (h : cellsOk x = some l) (hv : Rep σ x v) : RepL σ l v.cells.toList ∧ ∀ u ∈ v.cells.toList, u.oneCell' = true := by
  have many : ∀ {l : List AC} {vs : List Value}, RepL σ l vs → l.all oneA = true → ∀ u ∈ vs, u.oneCell' = true := by
    intro l vs hl
    induction hl with
    | nil => intro _ u hu; cases hu
    | cons h _ ih =>
      intro ha u hu
      simp only [List.all_cons, Bool.and_eq_true] at ha
      rcases List.mem_cons.1 hu with rfl | hu
      · exact (oneA_cells h ha.1).2
      · exact ih ha.2 u hu
  cases x with
  | c x =>
    simp only [cellsOk] at h
    split at h
    · rename_i ho
      cases h
      have := oneA_cells hv ho
      rw [this.1]
      exact ⟨.cons hv .nil, fun u hu => by simp at hu; subst hu; exact this.2⟩
    · cases h
  | agg l' =>
    simp only [cellsOk] at h
    split at h
    · rename_i ho
      cases h
      obtain ⟨vs, rfl, hl⟩ := hv
      exact ⟨hl, many hl ho⟩
    · cases h
  | tup l => cases h

/-- Cells put over others. -/
def setAt (cs : List AC) (off : Nat) (l : List AC) : List AC := (l.zipIdx 0).foldl (fun cs x => cs.set (off + x.2) x.1) cs

theorem setAt_sound {σ : List (Nat × Nat)} (off : Nat) {l : List AC} {vs : List Value} (hl : RepL σ l vs) : ∀ (i : Nat) {cs : List AC} {zs : Array Value}, RepL σ cs zs.toList →
    RepL σ ((l.zipIdx i).foldl (fun cs x => cs.set (off + x.2) x.1) cs) ((vs.zipIdx i).foldl (fun cs x => cs.setIfInBounds (off + x.2) x.1) zs).toList := by
  induction hl with
  | nil => intro i cs zs h; exact h
  | cons h _ ih =>
    intro i cs zs hz
    simp only [List.zipIdx_cons, List.foldl_cons]
    refine ih (i + 1) ?_
    rw [Array.toList_setIfInBounds]
    exact hz.set _ h

/-- A value built of parts. -/
def fillA (place : Nat → Option (Nat × Nat)) : List AC → List (Nat × List AC) → Option (List AC)
  | cs, [] => some cs
  | cs, (i, l) :: rest =>
    match place i with
    | none => none
    | some (off, size) => if l.length ≠ size || off + l.length > cs.length then none else fillA place (setAt cs off l) rest

theorem fillA_sound {σ : List (Nat × Nat)} (place : Nat → Option (Nat × Nat)) : ∀ (parts : List (Nat × List AC)) (parts' : List (Nat × Value)) (cs : List AC) (zs : Array Value) (r : List AC),
    parts.length = parts'.length → (∀ (j i : Nat) (l : List AC), parts[j]? = some (i, l) → ∃ v : Value, parts'[j]? = some (i, v) ∧ RepL σ l v.cells.toList) →
    RepL σ cs zs.toList → fillA place cs parts = some r → ∃ zs', Instr.fill place zs parts' = some zs' ∧ RepL σ r zs'.toList
  | [], [], cs, zs, r, _, _, hz, h => by cases h; exact ⟨zs, rfl, hz⟩
  | (i, l) :: rest, (i', v) :: rest', cs, zs, r, hlen, hp, hz, h => by
    obtain ⟨v', hv', hl⟩ := hp 0 i l rfl
    simp only [List.getElem?_cons_zero, Option.some.injEq, Prod.mk.injEq] at hv'
    obtain ⟨rfl, rfl⟩ := hv'
    simp only [fillA] at h
    simp only [Instr.fill]
    cases hpl : place i' with
    | none => simp [hpl] at h
    | some os =>
      obtain ⟨off, size⟩ := os
      simp only [hpl] at h ⊢
      have e1 : l.length = v.cells.size := by simpa using hl.length
      have e2 : cs.length = zs.size := by simpa using hz.length
      rw [e1, e2] at h
      split at h
      · cases h
      · rename_i hc
        rw [if_neg hc]
        refine fillA_sound place rest rest' _ _ r (by simpa using hlen) (fun j i l hj => hp (j + 1) i l hj) ?_ h
        have := setAt_sound off hl 0 hz
        have e : v.cells.zipIdx.foldl (fun cs x => cs.setIfInBounds (off + x.2) x.1) zs = (v.cells.toList.zipIdx 0).foldl (fun cs x => cs.setIfInBounds (off + x.2) x.1) zs := by
          rw [← Array.foldl_toList, Array.toList_zipIdx]
        rw [← e] at this
        exact this

/-- The parts of a literal. -/
def partsA (F : List AV) : List (Nat × Operand) → Option (List (Nat × List AC))
  | [] => some []
  | (i, x) :: rest =>
    match cellsOk (evA F x), partsA F rest with
    | some l, some r => some ((i, l) :: r)
    | _, _ => none

theorem partsA_sound {σ : List (Nat × Nat)} {F : List AV} {a : Act} (hF : RepF σ F a.tmps.toList) : ∀ (ps : List (Nat × Operand)) (qs : List (Nat × List AC)), partsA F ps = some qs →
    qs.length = (ps.map fun x => (x.1, a.eval x.2)).length ∧
    ∀ (j i : Nat) (l : List AC), qs[j]? = some (i, l) → ∃ v : Value, (ps.map fun x => (x.1, a.eval x.2))[j]? = some (i, v) ∧ RepL σ l v.cells.toList
  | [], qs, h => by cases h; exact ⟨rfl, fun j i l hj => by cases hj⟩
  | (i, x) :: rest, qs, h => by
    simp only [partsA] at h
    split at h
    · rename_i l r hl hr
      cases h
      obtain ⟨h1, h2⟩ := partsA_sound hF rest r hr
      refine ⟨by simpa using h1, fun j i' l' hj => ?_⟩
      cases j with
      | zero =>
        cases hj
        exact ⟨a.eval x, rfl, (cellsOk_sound hl (rep_ev hF x)).1⟩
      | succ j => exact h2 j i' l' hj
    · cases h

/-- What a literal of a struct or an array answers. -/
def builtA (P : Program) (t : TypeId) (parts : List (Nat × List AC)) : Option (List AC) :=
  match P.info? t, P.underlying t with
  | some it, some (.array _ e) =>
    match it.zero, P.info? e with
    | some z, some ie => fillA (fun i => some (i * ie.size, ie.size)) (z.cells.toList.map toC) parts
    | _, _ => none
  | some it, some (.struct fields) =>
    match it.zero, fields.toList.mapM (fun f => (P.info? f.type).map fun i => (f.offset, i.size)) with
    | some z, some places => fillA (places.toArray[·]?) (z.cells.toList.map toC) parts
    | _, _ => none
  | _, _ => none

theorem rep_map_toC (σ : List (Nat × Nat)) (vs : List Value) : RepL σ (vs.map toC) vs := by
  induction vs with
  | nil => exact .nil
  | cons v vs ih => exact .cons (rep_toC σ v) ih

theorem builtA_sound {P : Program} {σ : List (Nat × Nat)} {t : TypeId} {parts : List (Nat × List AC)} {parts' : List (Nat × Value)} {r : List AC} (hlen : parts.length = parts'.length)
    (hp : ∀ (j i : Nat) (l : List AC), parts[j]? = some (i, l) → ∃ v : Value, parts'[j]? = some (i, v) ∧ RepL σ l v.cells.toList) (h : builtA P t parts = some r) :
    ∃ zs, P.built t parts' = some zs ∧ RepL σ r zs.toList := by
  unfold builtA at h
  unfold Program.built
  split at h
  · rename_i it e hi hu
    split at h
    · rename_i z ie hz hie
      simp only [hi, hu, hz, hie]
      exact fillA_sound _ _ _ _ z.cells _ hlen hp (rep_map_toC σ _) h
    · cases h
  · rename_i it fields hi hu
    split at h
    · rename_i z places hz hpl
      simp only [hi, hu, hz, hpl]
      exact fillA_sound _ _ _ _ z.cells _ hlen hp (rep_map_toC σ _) h
    · cases h
  · cases h

/-- The lesser and the greater of two floats. -/
def pmin (k : FloatKind) (a b : Nat) : Ordering → Nat
  | .lt => a
  | .gt => b
  | .eq => if (k.decode a).neg then a else b
def fmin {k : FloatKind} (x y : Fl k) : Fl k :=
  match x, y with
  | some a, some b => (k.format.order a b).map (pmin k a b)
  | _, _ => none
theorem fmin_some {k : FloatKind} (a b : Nat) : @fmin k (some a) (some b) = (k.format.order a b).map (pmin k a b) := by unfold fmin; rfl
def pmax (k : FloatKind) (a b : Nat) : Ordering → Nat
  | .lt => b
  | .gt => a
  | .eq => if (k.decode a).neg then b else a
def fmax {k : FloatKind} (x y : Fl k) : Fl k :=
  match x, y with
  | some a, some b => (k.format.order a b).map (pmax k a b)
  | _, _ => none
theorem fmax_some {k : FloatKind} (a b : Nat) : @fmax k (some a) (some b) = (k.format.order a b).map (pmax k a b) := by unfold fmax; rfl
theorem ord_two {k : FloatKind} (a b : Nat) : @ord k (some a) (some b) = k.format.order a b := by unfold ord; rfl
theorem mm_cut (k : FloatKind) (m : Bool) (x y t : Nat) : Question.cut (.nanMinMax k m x y) t = nanW k t := by cases k <;> rfl
theorem run_min {P : Program} {k : FloatKind} {x y : Fl k} {t s : Nat} (hx : Wd k (B x t)) (hy : Wd k (B y s)) (w : World) : ∃ u n, (Builtin.min2 (.float k (B x t)) (.float k (B y s))).run P w = .ok (.float k (B (fmin x y) u)) (w.drewN n) ∧ Wd k (B (fmin x y) u) := by
  have ho := order_B x y t s
  have hn := mm_cut k false (B x t) (B y s)
  have no : ord x y = none → fmin x y = none → ∃ u n, (Builtin.min2 (.float k (B x t)) (.float k (B y s))).run P w = .ok (.float k (B (fmin x y) u)) (w.drewN n) ∧ Wd k (B (fmin x y) u) := by
    intro h1 h2
    rw [h2]
    refine ⟨w.tape w.drawn (.nanMinMax k false (B x t) (B y s)), 1, ?_, wd_none _ _⟩
    rw [h1] at ho
    simp only [Builtin.min2, ho, bind, pure, Sem.bind, choose, Sem.run, Question.forced, hn]
    rfl
  cases x with
  | none => exact no (by cases y <;> rfl) (by cases y <;> rfl)
  | some a => cases y with
    | none => exact no (by unfold ord; rfl) (by unfold fmin; rfl)
    | some b =>
      cases hab : k.format.order a b with
      | none => exact no ((ord_two a b).trans hab) (by rw [fmin_some, hab]; rfl)
      | some o =>
        have ho' : k.format.order (@B k (some a) t) (@B k (some b) s) = some o := ho.trans ((ord_two a b).trans hab)
        refine ⟨0, 0, ?_, ?_⟩
        · rw [fmin_some, hab]
          show _ = Result.ok (Value.float k (pmin k a b o)) w
          simp only [Builtin.min2, ho']
          cases o <;> rfl
        · rw [fmin_some, hab]
          cases o
          · exact hx
          · show Wd k (if (k.decode a).neg then a else b)
            split
            · exact hx
            · exact hy
          · exact hy
theorem run_max {P : Program} {k : FloatKind} {x y : Fl k} {t s : Nat} (hx : Wd k (B x t)) (hy : Wd k (B y s)) (w : World) : ∃ u n, (Builtin.max2 (.float k (B x t)) (.float k (B y s))).run P w = .ok (.float k (B (fmax x y) u)) (w.drewN n) ∧ Wd k (B (fmax x y) u) := by
  have ho := order_B x y t s
  have hn := mm_cut k true (B x t) (B y s)
  have no : ord x y = none → fmax x y = none → ∃ u n, (Builtin.max2 (.float k (B x t)) (.float k (B y s))).run P w = .ok (.float k (B (fmax x y) u)) (w.drewN n) ∧ Wd k (B (fmax x y) u) := by
    intro h1 h2
    rw [h2]
    refine ⟨w.tape w.drawn (.nanMinMax k true (B x t) (B y s)), 1, ?_, wd_none _ _⟩
    rw [h1] at ho
    simp only [Builtin.max2, ho, bind, pure, Sem.bind, choose, Sem.run, Question.forced, hn]
    rfl
  cases x with
  | none => exact no (by cases y <;> rfl) (by cases y <;> rfl)
  | some a => cases y with
    | none => exact no (by unfold ord; rfl) (by unfold fmax; rfl)
    | some b =>
      cases hab : k.format.order a b with
      | none => exact no ((ord_two a b).trans hab) (by rw [fmax_some, hab]; rfl)
      | some o =>
        have ho' : k.format.order (@B k (some a) t) (@B k (some b) s) = some o := ho.trans ((ord_two a b).trans hab)
        refine ⟨0, 0, ?_, ?_⟩
        · rw [fmax_some, hab]
          show _ = Result.ok (Value.float k (pmax k a b o)) w
          simp only [Builtin.max2, ho']
          cases o <;> rfl
        · rw [fmax_some, hab]
          cases o
          · exact hy
          · show Wd k (if (k.decode a).neg then b else a)
            split
            · exact hy
            · exact hx
          · exact hx

def mmA (F : List AV) (b : Builtin) (args : List Operand) : Option AV :=
  match b, args with
  | .min, [x, y] => match evA F x, evA F y with
    | .c (.fl .f64 u), .c (.fl .f64 v) => some (.c (.fl .f64 (fmin u v)))
    | .c (.fl .f32 u), .c (.fl .f32 v) => some (.c (.fl .f32 (fmin u v)))
    | _, _ => none
  | .max, [x, y] => match evA F x, evA F y with
    | .c (.fl .f64 u), .c (.fl .f64 v) => some (.c (.fl .f64 (fmax u v)))
    | .c (.fl .f32 u), .c (.fl .f32 v) => some (.c (.fl .f32 (fmax u v)))
    | _, _ => none
  | _, _ => none
theorem mmA_sound {P : Program} {w : World} {σ : List (Nat × Nat)} {F : List AV} {a : Act} {b : Builtin} {ats : Array TypeId} {args : List Operand} {r : AV} {ty : TypeId} (hF : RepF σ F a.tmps.toList) (h : mmA F b args = some r) :
    ∃ v w', (∀ cs : Array Bool, (builtin b ats ty cs (args.map a.eval).toArray).run P w = .ok (.value v) w') ∧ Rep σ r v ∧ Ext w w' := by
  have mn : ∀ {k : FloatKind} {u v : Fl k} {x y : Operand}, evA F x = .c (.fl k u) → evA F y = .c (.fl k v) → ∃ z w', (∀ cs : Array Bool, (builtin .min ats ty cs #[a.eval x, a.eval y]).run P w = .ok (.value z) w') ∧ Rep σ (.c (.fl k (fmin u v))) z ∧ Ext w w' := by
    intro k u v x y ex ey
    have hx := rep_ev hF x
    have hy := rep_ev hF y
    rw [ex] at hx; rw [ey] at hy
    obtain ⟨t, ht, hw1⟩ := hx
    obtain ⟨s, hs, hw2⟩ := hy
    obtain ⟨z, n, hr, hz⟩ := run_min (P := P) hw1 hw2 w
    refine ⟨_, _, fun _ => ?_, ⟨z, rfl, hz⟩, Ext.drewN w n⟩
    simp [builtin, Builtin.min_, ht, hs, hr]
  have mx : ∀ {k : FloatKind} {u v : Fl k} {x y : Operand}, evA F x = .c (.fl k u) → evA F y = .c (.fl k v) → ∃ z w', (∀ cs : Array Bool, (builtin .max ats ty cs #[a.eval x, a.eval y]).run P w = .ok (.value z) w') ∧ Rep σ (.c (.fl k (fmax u v))) z ∧ Ext w w' := by
    intro k u v x y ex ey
    have hx := rep_ev hF x
    have hy := rep_ev hF y
    rw [ex] at hx; rw [ey] at hy
    obtain ⟨t, ht, hw1⟩ := hx
    obtain ⟨s, hs, hw2⟩ := hy
    obtain ⟨z, n, hr, hz⟩ := run_max (P := P) hw1 hw2 w
    refine ⟨_, _, fun _ => ?_, ⟨z, rfl, hz⟩, Ext.drewN w n⟩
    simp [builtin, Builtin.max_, ht, hs, hr]
  unfold mmA at h
  split at h
  · rename_i x y
    split at h
    · rename_i u v ex ey; cases h; exact mn ex ey
    · rename_i u v ex ey; cases h; exact mn ex ey
    · cases h
  · rename_i x y
    split at h
    · rename_i u v ex ey; cases h; exact mx ex ey
    · rename_i u v ex ey; cases h; exact mx ex ey
    · cases h
  · cases h

def biA (F : List AV) (b : Builtin) (argTypes : Array TypeId) (P : Program) (args : List Operand) : Option AV :=
  match b, args with
  | .complex, [x, y] => match evA F x, evA F y with
    | .c (.fl .f32 u), .c (.fl .f32 v) => some (.c (.cx .f32 u v))
    | .c (.fl .f64 u), .c (.fl .f64 v) => some (.c (.cx .f64 u v))
    | _, _ => none
  | .real, [x] => match evA F x with
    | .c (.cx k u _) => some (.c (.fl k u))
    | _ => none
  | .imag, [x] => match evA F x with
    | .c (.cx k _ v) => some (.c (.fl k v))
    | _ => none
  | .len, [x] => match evA F x, argTypes[0]? with
    | .c (.slc _ n), some t => match P.underlying t with
      | some (.slice _) => some (.c (.val (.int .i64 n)))
      | _ => none
    | .c (.val (.slice none 0 0)), some t => match P.underlying t with
      | some (.slice _) => some (.c (.val (.int .i64 0)))
      | _ => none
    | .c (.sub _ _ n), some t => match P.underlying t with
      | some (.slice _) => some (.c (.val (.int .i64 n)))
      | _ => none
    | .c (.slw _ n), some t => match P.underlying t with
      | some (.slice _) => some (.c (.val (.int .i64 n)))
      | _ => none
    | _, _ => none
  | _, _ => none

theorem biA_sound {P : Program} {w : World} {σ : List (Nat × Nat)} {F : List AV} {a : Act} {b : Builtin} {ats : Array TypeId} {args : List Operand} {r : AV} {ty : TypeId} (hF : RepF σ F a.tmps.toList) (h : biA F b ats P args = some r) :
    ∃ v, (∀ cs : Array Bool, (builtin b ats ty cs (args.map a.eval).toArray).run P w = .ok (.value v) w) ∧ Rep σ r v := by
  unfold biA at h
  split at h
  · rename_i x y
    have hx := rep_ev hF x
    have hy := rep_ev hF y
    split at h
    · rename_i u v ex ey
      cases h
      rw [ex] at hx; rw [ey] at hy
      obtain ⟨t, ht, hw1⟩ := hx
      obtain ⟨s, hs, hw2⟩ := hy
      exact ⟨_, fun _ => by simp [builtin, ht, hs, run_complex], t, s, rfl, hw1, hw2⟩
    · rename_i u v ex ey
      cases h
      rw [ex] at hx; rw [ey] at hy
      obtain ⟨t, ht, hw1⟩ := hx
      obtain ⟨s, hs, hw2⟩ := hy
      exact ⟨_, fun _ => by simp [builtin, ht, hs, run_complex], t, s, rfl, hw1, hw2⟩
    · cases h
  · rename_i x
    have hx := rep_ev hF x
    split at h
    · rename_i k u v ex
      cases h
      rw [ex] at hx
      obtain ⟨t, s, ht, hw1, hw2⟩ := hx
      exact ⟨_, fun _ => by simp [builtin, ht, run_real], t, rfl, hw1⟩
    · cases h
  · rename_i x
    have hx := rep_ev hF x
    split at h
    · rename_i k u v ex
      cases h
      rw [ex] at hx
      obtain ⟨t, s, ht, hw1, hw2⟩ := hx
      exact ⟨_, fun _ => by simp [builtin, ht, run_imag], s, rfl, hw2⟩
    · cases h
  · rename_i x
    have hx := rep_ev hF x
    split at h
    · rename_i id n t ex ht
      split at h
      · rename_i e hu
        cases h
        rw [ex] at hx
        obtain ⟨b, hb, _, hv⟩ := hx
        refine ⟨.int .i64 n, fun _ => ?_, rfl⟩
        have hl : (Builtin.len_ ats ty #[a.eval x]).run P w = .ok (.int .i64 n) w := by
          rw [hv]
          simp [Builtin.len_, ht, run_underlying hu, goInt]
        simp [builtin, hl]
      · cases h
    · rename_i t ex ht
      split at h
      · rename_i e hu
        cases h
        rw [ex] at hx
        have hv : a.eval x = .slice none 0 0 := hx
        refine ⟨.int .i64 0, fun _ => ?_, rfl⟩
        have hl : (Builtin.len_ ats ty #[a.eval x]).run P w = .ok (.int .i64 0) w := by
          rw [hv]
          simp [Builtin.len_, ht, run_underlying hu, goInt]
        simp [builtin, hl]
      · cases h
    · rename_i id off n t ex ht
      split at h
      · rename_i e hu
        cases h
        rw [ex] at hx
        obtain ⟨b, a', c', hb, hv, _⟩ := hx
        refine ⟨.int .i64 n, fun _ => ?_, rfl⟩
        have hl : (Builtin.len_ ats ty #[a.eval x]).run P w = .ok (.int .i64 n) w := by
          rw [hv]
          simp [Builtin.len_, ht, run_underlying hu, goInt]
        simp [builtin, hl]
      · cases h
    · rename_i id n t ex ht
      split at h
      · rename_i e hu
        cases h
        rw [ex] at hx
        obtain ⟨b, c', hb, _, _, hv⟩ := hx
        refine ⟨.int .i64 n, fun _ => ?_, rfl⟩
        have hl : (Builtin.len_ ats ty #[a.eval x]).run P w = .ok (.int .i64 n) w := by
          rw [hv]
          simp [Builtin.len_, ht, run_underlying hu, goInt]
        simp [builtin, hl]
      · cases h
    · cases h
  · cases h

/-- A part of a tuple; a struct that is known bit for bit is laid out. -/
def spread : AC → AV
  | .val (.agg ⟨vs⟩) => .agg (vs.map .val)
  | .two a b c d => .agg [.cx .f32 a b, .cx .f32 c d]
  | c => .c c
theorem spread_list {σ : List (Nat × Nat)} : ∀ vs : List Value, RepL σ (vs.map .val) vs
  | [] => .nil
  | _ :: vs => .cons rfl (spread_list vs)
theorem spread_rep {σ : List (Nat × Nat)} {c : AC} {z : Value} (h : RepC σ c z) : Rep σ (spread c) z := by
  unfold spread
  split
  · rename_i vs
    have hz : z = .agg ⟨vs⟩ := h
    exact ⟨⟨vs⟩, hz, spread_list vs⟩
  · obtain ⟨t1, t2, t3, t4, rfl, w1, w2, w3, w4⟩ := h
    exact ⟨_, rfl, .cons ⟨t1, t2, rfl, w1, w2⟩ (.cons ⟨t3, t4, rfl, w3, w4⟩ .nil)⟩
  · exact h

/-- What an operation that only reads answers; under a condition. -/
def opA (P : Program) (E : List (Entry P)) (F : List AV) (M : List (List AC)) (op : Op) : Option (Bool × AV) :=
  match op with
  | .move x | .assign x => some (true, evA F x)
  | .binOp op t x y _ => match evA F x, evA F y with
    | .c a, .c b => (opBin P t op a b).map fun r => (true, .c r)
    | _, _ => none
  | .unOp op _ x => match evA F x with
    | .c a => (opUn op a).map fun r => (true, .c r)
    | _ => none
  | .convert src dst x => match evA F x with
    | .c a => (opConv P src dst a).map fun r => (r.1, .c r.2)
    | _ => none
  | .extract x i => match evA F x with
    | .tup l => (l[i]?).map fun r => (true, spread r)
    | _ => none
  | .load t x => match evA F x with
    | .c (.ptr id off) => (rdA P M t id off).map fun r => (true, r)
    | _ => none
  | .fieldAddr s x f => (fldA P s f (evA F x)).map fun r => (true, r)
  | .nilCheck x => match evA F x with
    | .c (.ptr id off) => some (true, .c (.ptr id off))
    | _ => none
  | .indexAddr t x i => (ixA P t (evA F x) (evA F i)).map fun r => (true, r)
  | .index t x i => (elA P t (evA F x) (evA F i)).map fun r => (true, r)
  | .slice t x (some lo) none none => (slA P t (evA F x) (evA F lo)).map fun r => (true, r)
  | .build t parts => match partsA F parts.toList with
    | some ps => (builtA P t ps).map fun r => (true, .agg r)
    | none => none
  | .call c => match c.callee with
    | .value f => match evA F f with
      | .c (.val (.func (.func id) ⟨[]⟩ ⟨[]⟩)) => match find E id with
        | some e => e.fn (c.args.toList.map (evA F)) M
        | none => none
      | _ => none
    | .builtin b => match mmA F b c.args.toList with
      | some r => some (true, r)
      | none => (biA F b c.argTypes P c.args.toList).map fun r => (true, r)
    | _ => none
  | _ => none

theorem repF_map {σ : List (Nat × Nat)} {F : List AV} {a : Act} (hF : RepF σ F a.tmps.toList) (l : List Operand) : RepF σ (l.map (evA F)) (l.map a.eval) := by
  induction l with
  | nil => exact .nil
  | cons x l ih => exact .cons (rep_ev hF x) ih

theorem run_v {P : Program} {w w' : World} {s : Sem Value} {z : Value} (h : s.run P w = .ok z w') : (s >>= fun v => pure (Next.value v)).run P w = .ok (.value z) w' := by
  simp [h]

/-- What is known where an operation runs. -/
theorem opA_sound {P : Program} {E : List (Entry P)} {F : List AV} {M : List (List AC)} {op : Op} {r : AV} {σ : List (Nat × Nat)} {a : Act} {w : World}
    (h : opA P E F M op = some (true, r)) (hF : RepF σ F a.tmps.toList) (hM : MemOk σ M w)
    {dst : Option Tmp} {ty : TypeId} {pos : String} {after : Array Edge} {gd : Option (Nat × Bool)} {next : Act → World → Prop} {Q : Exit → Act → World → Prop}
    (hn : ∀ v w', Rep σ r v → Ext w w' → next (a.put dst v) w') : Oper.wp P ⟨dst, op, ty, pos, after, gd⟩ a w next Q := by
  have val : ∀ {v w'}, (execOp a.eval ⟨dst, op, ty, pos, after, gd⟩).run P w = .ok (.value v) w' → Rep σ r v → Ext w w' → Oper.wp P ⟨dst, op, ty, pos, after, gd⟩ a w next Q := by
    intro v w' he hr hx
    unfold Oper.wp
    rw [he]
    exact hn v w' hr hx
  have map1 : ∀ {α : Type} {o : Option α} {f : α → Bool × AV}, o.map f = some (true, r) → ∃ x, o = some x ∧ f x = (true, r) := by
    intro α o f h
    cases o with
    | none => cases h
    | some x => exact ⟨x, rfl, by simpa using h⟩
  unfold opA at h
  split at h
  · rename_i x; cases h; exact val rfl (rep_ev hF x) (Ext.refl _)
  · rename_i x; cases h; exact val rfl (rep_ev hF x) (Ext.refl _)
  · rename_i bop t x y t'
    have hx := rep_ev hF x
    have hy := rep_ev hF y
    split at h
    · rename_i u v ex ey
      obtain ⟨c, hc, he⟩ := map1 h
      cases he
      rw [ex] at hx; rw [ey] at hy
      obtain ⟨z, w', hr, hz, hw⟩ := opBin_sound (P := P) (w := w) (x := x) (y := y) hc hx hy
      exact val (run_v hr) hz hw
    · cases h
  · rename_i uop t x
    have hx := rep_ev hF x
    split at h
    · rename_i u ex
      obtain ⟨c, hc, he⟩ := map1 h
      cases he
      rw [ex] at hx
      obtain ⟨z, hr, hz⟩ := opUn_sound (P := P) (w := w) hc hx
      exact val (run_v hr) hz (Ext.refl _)
    · cases h
  · rename_i src dst' x
    have hx := rep_ev hF x
    split at h
    · rename_i u ex
      obtain ⟨⟨c1, c2⟩, hc, he⟩ := map1 h
      cases he
      rw [ex] at hx
      obtain ⟨z, w', hr, hz, hw⟩ := opConv_sound (P := P) (w := w) hc hx
      exact val (run_v hr) hz hw
    · cases h
  · rename_i x i
    have hx := rep_ev hF x
    split at h
    · rename_i l ex
      obtain ⟨c, hc, he⟩ := map1 h
      cases he
      rw [ex] at hx
      obtain ⟨vs, hv, hl⟩ := hx
      obtain ⟨z, hz, hr⟩ := hl.get? hc
      have hz' : vs[i]? = some z := by simpa using hz
      have hrun : (Instr.extract (a.eval x) i).run P w = .ok z w := by rw [hv]; simp [Instr.extract, hz']
      exact val (run_v hrun) (spread_rep hr) (Ext.refl _)
    · cases h
  · rename_i t x
    have hx := rep_ev hF x
    split at h
    · rename_i id off ex
      obtain ⟨c, hc, he⟩ := map1 h
      cases he
      rw [ex] at hx
      obtain ⟨b, hb, hv⟩ := hx
      obtain ⟨z, hr, hz⟩ := rdA_sound (P := P) (w := w) hM hb hc
      have hrun : (Instr.loadAt t (a.eval x)).run P w = .ok z w := by rw [hv]; simp [Instr.loadAt, Instr.sureAddr, hr]
      exact val (run_v hrun) hz (Ext.refl _)
    · cases h
  · rename_i s x f
    obtain ⟨c, hc, he⟩ := map1 h
    cases he
    obtain ⟨z, hr, hz⟩ := fldA_sound (P := P) (w := w) hc (rep_ev hF x)
    exact val (run_v hr) hz (Ext.refl _)
  · rename_i x
    have hx := rep_ev hF x
    split at h
    · rename_i id off ex
      cases h
      rw [ex] at hx
      obtain ⟨b, hb, hv⟩ := hx
      refine val (v := .pointer (some ⟨b.1, off, none⟩)) (w' := w) ?_ ⟨b, hb, rfl⟩ (Ext.refl _)
      simp only [execOp, hv]; rfl
    · cases h
  · rename_i t x i
    obtain ⟨c, hc, he⟩ := map1 h
    cases he
    obtain ⟨z, hr, hz⟩ := ixA_sound (P := P) (w := w) hc (rep_ev hF x) (rep_ev hF i)
    exact val (run_v hr) hz (Ext.refl _)
  · rename_i t x i
    obtain ⟨c, hc, he⟩ := map1 h
    cases he
    obtain ⟨z, hr, hz⟩ := elA_sound (P := P) (w := w) hc (rep_ev hF x) (rep_ev hF i)
    exact val (run_v hr) hz (Ext.refl _)
  · rename_i t x lo
    obtain ⟨c, hc, he⟩ := map1 h
    cases he
    obtain ⟨z, hr, hz⟩ := slA_sound (P := P) (w := w) hc (rep_ev hF x) (rep_ev hF lo)
    exact val (run_v hr) hz (Ext.refl _)
  · rename_i t parts
    split at h
    · rename_i ps hp
      obtain ⟨c, hc, he⟩ := map1 h
      cases he
      obtain ⟨h1, h2⟩ := partsA_sound hF _ _ hp
      obtain ⟨zs, hb, hz⟩ := builtA_sound (P := P) h1 h2 hc
      have hb' : P.built t (parts.map fun (i, x) => (i, a.eval x)).toList = some zs := by rw [Array.toList_map]; exact hb
      exact val (run_v (run_build w t _ _ hb')) ⟨zs, rfl, hz⟩ (Ext.refl _)
    · cases h
  · rename_i c
    split at h
    · rename_i f hcal
      have hf := rep_ev hF f
      split at h
      · rename_i id ef
        rw [ef] at hf
        have hf' : a.eval f = .func (.func id) #[] #[] := hf
        split at h
        · rename_i e hfind
          have hid := find_f hfind
          have hg := e.ok _ _ _ h σ (c.args.toList.map a.eval) w hM (repF_map hF _)
          rw [hid] at hg
          have hargs : (c.args.toList.map a.eval).toArray = c.args.map a.eval := by rw [← Array.toList_map, Array.toArray_toList]
          rw [hargs] at hg
          have hres : ∀ X, (execOp a.eval ⟨dst, .call c, ty, pos, after, gd⟩).run P w = X ↔ (callFunc id (c.args.map a.eval)).run P w = X := by
            intro X
            have : (execOp a.eval ⟨dst, .call c, ty, pos, after, gd⟩).run P w = (callFunc id (c.args.map a.eval)).run P w := by
              simp only [execOp, Go.resolve, hcal, hf', Deferred.ofValue]
              simp [invoke]
            rw [this]
          rcases hg with ⟨v, w', hr, hv, hw⟩ | ⟨hr, hcalls⟩
          · exact val ((hres _).2 hr) hv hw
          · unfold Oper.wp
            rw [(hres _).2 hr]
            exact hcalls.mono fun e w' ⟨v, he, hv, hw⟩ => by subst he; exact hn v w' hv hw
        · cases h
      · cases h
    · rename_i b hcal
      have hargs : (c.args.toList.map a.eval).toArray = c.args.map a.eval := by rw [← Array.toList_map, Array.toArray_toList]
      split at h
      · rename_i r' hmm
        cases h
        obtain ⟨v, w', hr, hz, hx⟩ := mmA_sound (P := P) (w := w) (ats := c.argTypes) (ty := ty) hF hmm
        rw [hargs] at hr
        refine val (v := v) (w' := w') ?_ hz hx
        simp only [execOp, Go.resolve, hcal]
        simp [invoke, hr]
      · obtain ⟨r', hc, he⟩ := map1 h
        cases he
        obtain ⟨v, hr, hz⟩ := biA_sound (P := P) (w := w) (ty := ty) hF hc
        rw [hargs] at hr
        refine val (v := v) (w' := w) ?_ hz (Ext.refl _)
        simp only [execOp, Go.resolve, hcal]
        simp [invoke, hr]
    · cases h
  · cases h

end Go.Proofs.Ytlpahmefebgdlaa.Fx
