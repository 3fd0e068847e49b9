/- Floats up to the bits of their not-a-numbers: the values that the model computes with, and the walk's laws for them. No condition. -/
import Derived.WalkKit
import Derived.Laws.FloatArith
import Derived.Laws.ComplexArith
import Derived.Deep.Draws
namespace Go.Proofs.Ytlpahmefebgdlaa.Fx
open Go

/-- A float of a kind: its bits; none for every not-a-number. -/
def Fl (_ : FloatKind) : Type := Option Nat
abbrev F64 := Fl .f64
abbrev F32 := Fl .f32

/-- The not-a-number with the number t. -/
def nanW : FloatKind → Nat → Nat
  | .f32, t => (t % 2) * 2 ^ 31 + 0x7f800000 + 1 + (t / 2) % (2 ^ 23 - 1)
  | .f64, t => (t % 2) * 2 ^ 63 + 0x7ff0000000000000 + 1 + (t / 2) % (2 ^ 52 - 1)

/-- The bits of a float, where t chooses among the not-a-numbers. -/
def B {k : FloatKind} (x : Fl k) (t : Nat) : Nat :=
  match x with
  | some r => r
  | none => nanW k t

def lit (k : FloatKind) (r : Nat) : Fl k := some r

def bin (op : BinOp) {k : FloatKind} (x y : Fl k) : Fl k :=
  match x, y with
  | some a, some b => floatBits op k a b
  | _, _ => none

def ord {k : FloatKind} (x y : Fl k) : Option Ordering :=
  match x, y with
  | some a, some b => k.format.order a b
  | _, _ => none

instance {k} : Add (Fl k) := ⟨bin .add⟩
instance {k} : Sub (Fl k) := ⟨bin .sub⟩
instance {k} : Mul (Fl k) := ⟨bin .mul⟩
instance {k} : Div (Fl k) := ⟨bin .quo⟩

theorem read_nanW (k : FloatKind) (t : Nat) : ∃ s f, k.format.read (nanW k t) = .nan s f := by
  cases k
  · have h1 : t % 2 < 2 := Nat.mod_lt _ (by decide)
    have h2 : (t / 2) % (2 ^ 23 - 1) < 2 ^ 23 - 1 := Nat.mod_lt _ (by decide)
    have e1 : (nanW .f32 t) % 2 ^ 31 = 0x7f800000 + 1 + (t / 2) % (2 ^ 23 - 1) := by
      show ((t % 2) * 2 ^ 31 + 0x7f800000 + 1 + (t / 2) % (2 ^ 23 - 1)) % 2 ^ 31 = _; omega
    have e : FloatKind.f32.format.signWeight = 2 ^ 31 := by decide
    have eb : FloatKind.f32.format.binade = 2 ^ 23 := by decide
    have ei : FloatKind.f32.format.infRung = 0x7f800000 := by decide
    unfold Ieee.Format.read
    simp only [e, eb, ei, e1]
    rw [if_neg (by omega), if_neg (by omega), if_neg (by omega)]
    exact ⟨_, _, rfl⟩
  · have h1 : t % 2 < 2 := Nat.mod_lt _ (by decide)
    have h2 : (t / 2) % (2 ^ 52 - 1) < 2 ^ 52 - 1 := Nat.mod_lt _ (by decide)
    have e1 : (nanW .f64 t) % 2 ^ 63 = 0x7ff0000000000000 + 1 + (t / 2) % (2 ^ 52 - 1) := by
      show ((t % 2) * 2 ^ 63 + 0x7ff0000000000000 + 1 + (t / 2) % (2 ^ 52 - 1)) % 2 ^ 63 = _; omega
    have e : FloatKind.f64.format.signWeight = 2 ^ 63 := by decide
    have eb : FloatKind.f64.format.binade = 2 ^ 52 := by decide
    have ei : FloatKind.f64.format.infRung = 0x7ff0000000000000 := by decide
    unfold Ieee.Format.read
    simp only [e, eb, ei, e1]
    rw [if_neg (by omega), if_neg (by omega), if_neg (by omega)]
    exact ⟨_, _, rfl⟩

section
variable {k : FloatKind}

theorem floatBits_nanl (op : BinOp) (t b : Nat) : floatBits op k (nanW k t) b = none := by
  obtain ⟨s, f, h⟩ := read_nanW k t
  unfold floatBits
  split <;> simp [Ieee.Format.add, Ieee.Format.sub, Ieee.Format.mul, Ieee.Format.div, h, Ieee.Datum.sum, Ieee.Datum.product, Ieee.Datum.quotient]

theorem floatBits_nanr (op : BinOp) (t b : Nat) : floatBits op k b (nanW k t) = none := by
  obtain ⟨s, f, h⟩ := read_nanW k t
  unfold floatBits
  split
  · simp only [Ieee.Format.add, h]; cases k.format.read b <;> simp [Ieee.Datum.sum]
  · simp only [Ieee.Format.sub, h, Ieee.Datum.opposite]; cases k.format.read b <;> simp [Ieee.Datum.sum]
  · simp only [Ieee.Format.mul, h]; cases k.format.read b <;> simp [Ieee.Datum.product]
  · simp only [Ieee.Format.div, h]; cases k.format.read b <;> simp [Ieee.Datum.quotient]
  · rfl

theorem floatBits_B (op : BinOp) (x y : Fl k) (t s : Nat) : floatBits op k (B x t) (B y s) = bin op x y := by
  cases x with
  | none => simp only [B, floatBits_nanl]; cases y <;> rfl
  | some a => cases y with
    | none => simp only [B, floatBits_nanr]; rfl
    | some b => rfl

theorem order_B (x y : Fl k) (t s : Nat) : k.format.order (B x t) (B y s) = ord x y := by
  cases x with
  | none =>
    obtain ⟨s', f, h⟩ := read_nanW k t
    simp only [B, Ieee.Format.order, h, Ieee.Datum.order]; cases y <;> rfl
  | some a => cases y with
    | none =>
      obtain ⟨s', f, h⟩ := read_nanW k s
      simp only [B, Ieee.Format.order, h]; cases k.format.read a <;> rfl
    | some b => rfl

/-- A word is a float. -/
def Is (k : FloatKind) (b : Nat) (x : Fl k) : Prop := ∃ t, b = B x t
theorem Is.mk (x : Fl k) (t : Nat) : Is k (B x t) x := ⟨t, rfl⟩
theorem Is.lit (r : Nat) : Is k r (Fx.lit k r) := ⟨0, rfl⟩

theorem nan_cut (k : FloatKind) (x y t : Nat) : Question.cut (.nanBits k x y) t = nanW k t := by cases k <;> rfl

variable {P : Program}

theorem run_arith (op : BinOp) (hop : op = .add ∨ op = .sub ∨ op = .mul ∨ op = .quo) {a b : Nat} {x y : Fl k} (ha : Is k a x) (hb : Is k b y) (w : World) :
    ∃ t n, (Op.floatArith op k a b).run P w = .ok (.float k (B (bin op x y) t)) (w.drewN n) := by
  obtain ⟨t, rfl⟩ := ha
  obtain ⟨s, rfl⟩ := hb
  have h := floatBits_B op x y t s
  cases hr : bin op x y with
  | some r =>
    rw [hr] at h
    exact ⟨0, 0, by rw [run_floatArith w h]; rfl⟩
  | none =>
    rw [hr] at h
    refine ⟨w.tape w.drawn (.nanBits k (B x t) (B y s)), 1, ?_⟩
    have hn := nan_cut k (B x t) (B y s)
    rcases hop with rfl | rfl | rfl | rfl <;>
    · simp only [floatBits] at h
      simp only [Op.floatArith, bind, pure, Sem.bind, h, choose, Sem.run, Question.forced, hn]
      rfl
end

theorem xor_top {n r : Nat} (h : r < 2 ^ n) : r ^^^ 2 ^ n = 2 ^ n + r := by
  apply Nat.eq_of_testBit_eq
  intro i
  rw [Nat.testBit_xor, Nat.testBit_two_pow]
  rcases Nat.lt_trichotomy i n with hi | rfl | hi
  · rw [Nat.testBit_two_pow_add_gt hi]
    simp [Nat.ne_of_gt hi]
  · rw [Nat.testBit_two_pow_add_eq, Nat.testBit_lt_two_pow h]; simp
  · have h1 : r.testBit i = false := Nat.testBit_lt_two_pow (Nat.lt_of_lt_of_le h (Nat.pow_le_pow_right (by decide) (Nat.le_of_lt hi)))
    have h2 : (2 ^ n + r).testBit i = false := Nat.testBit_lt_two_pow (Nat.lt_of_lt_of_le (by rw [Nat.pow_succ]; omega) (Nat.pow_le_pow_right (by decide) hi))
    rw [h1, h2]
    simp [Nat.ne_of_lt hi]

/-- The word with a sign and the rest. -/
theorem nanW_signed (k : FloatKind) (t : Nat) : ∃ r, r < k.format.signWeight ∧ ∃ q, (∀ s, nanW k (2 * q + s % 2) = (s % 2) * k.format.signWeight + r) ∧ t = 2 * q + t % 2 := by
  cases k
  · have e : FloatKind.f32.format.signWeight = 2 ^ 31 := by decide
    refine ⟨0x7f800000 + 1 + (t / 2) % (2 ^ 23 - 1), by rw [e]; omega, t / 2, fun s => ?_, by omega⟩
    show (((2 * (t / 2) + s % 2) % 2) * 2 ^ 31 + 0x7f800000 + 1 + ((2 * (t / 2) + s % 2) / 2) % (2 ^ 23 - 1)) = _
    rw [e]; omega
  · have e : FloatKind.f64.format.signWeight = 2 ^ 63 := by decide
    refine ⟨0x7ff0000000000000 + 1 + (t / 2) % (2 ^ 52 - 1), by rw [e]; omega, t / 2, fun s => ?_, by omega⟩
    show (((2 * (t / 2) + s % 2) % 2) * 2 ^ 63 + 0x7ff0000000000000 + 1 + ((2 * (t / 2) + s % 2) / 2) % (2 ^ 52 - 1)) = _
    rw [e]; omega

theorem nan_form {k : FloatKind} {b : Nat} {s : Bool} {f : Nat} (hr : k.format.read b = .nan s f) (hb : b < 2 ^ k.format.width) : ∃ t, b = nanW k t := by
  have hi : ¬ b % k.format.signWeight < k.format.infRung ∧ b % k.format.signWeight ≠ k.format.infRung := by
    unfold Ieee.Format.read at hr
    dsimp only at hr
    split at hr
    · cases hr
    · split at hr
      · cases hr
      · split at hr
        · cases hr
        · rename_i h1 h2 h3; exact ⟨h2, h3⟩
  cases k
  · have e : FloatKind.f32.format.signWeight = 2 ^ 31 := by decide
    have ei : FloatKind.f32.format.infRung = 0x7f800000 := by decide
    have ew : FloatKind.f32.format.width = 32 := by decide
    rw [e, ei] at hi
    rw [ew] at hb
    obtain ⟨m, hm⟩ : ∃ m, b % 2 ^ 31 = 0x7f800000 + 1 + m := ⟨b % 2 ^ 31 - 0x7f800000 - 1, by omega⟩
    obtain ⟨g, hg⟩ : ∃ g, b / 2 ^ 31 = g := ⟨_, rfl⟩
    have hg2 : g < 2 := by omega
    have hm2 : m < 2 ^ 23 - 1 := by omega
    refine ⟨2 * m + g, ?_⟩
    show b = ((2 * m + g) % 2) * 2 ^ 31 + 0x7f800000 + 1 + ((2 * m + g) / 2) % (2 ^ 23 - 1)
    rw [show (2 * m + g) % 2 = g by omega, show (2 * m + g) / 2 = m by omega, Nat.mod_eq_of_lt hm2]
    omega
  · have e : FloatKind.f64.format.signWeight = 2 ^ 63 := by decide
    have ei : FloatKind.f64.format.infRung = 0x7ff0000000000000 := by decide
    have ew : FloatKind.f64.format.width = 64 := by decide
    rw [e, ei] at hi
    rw [ew] at hb
    obtain ⟨m, hm⟩ : ∃ m, b % 2 ^ 63 = 0x7ff0000000000000 + 1 + m := ⟨b % 2 ^ 63 - 0x7ff0000000000000 - 1, by omega⟩
    obtain ⟨g, hg⟩ : ∃ g, b / 2 ^ 63 = g := ⟨_, rfl⟩
    have hg2 : g < 2 := by omega
    have hm2 : m < 2 ^ 52 - 1 := by omega
    refine ⟨2 * m + g, ?_⟩
    show b = ((2 * m + g) % 2) * 2 ^ 63 + 0x7ff0000000000000 + 1 + ((2 * m + g) / 2) % (2 ^ 52 - 1)
    rw [show (2 * m + g) % 2 = g by omega, show (2 * m + g) / 2 = m by omega, Nat.mod_eq_of_lt hm2]
    omega

theorem nanW_lt (k : FloatKind) (t : Nat) : nanW k t < 2 ^ k.format.width := by
  cases k
  · have ew : FloatKind.f32.format.width = 32 := by decide
    rw [ew]
    show (t % 2) * 2 ^ 31 + 0x7f800000 + 1 + (t / 2) % (2 ^ 23 - 1) < _
    omega
  · have ew : FloatKind.f64.format.width = 64 := by decide
    rw [ew]
    show (t % 2) * 2 ^ 63 + 0x7ff0000000000000 + 1 + (t / 2) % (2 ^ 52 - 1) < _
    omega

/-- Words within their width have a form. -/
theorem form {k : FloatKind} (b : Nat) (hb : b < 2 ^ k.format.width) : ∃ (x : Fl k) (t : Nat), b = B x t := by
  cases h : k.format.read b with
  | nan s f => obtain ⟨t, ht⟩ := nan_form h hb; exact ⟨none, t, ht⟩
  | _ => exact ⟨some b, 0, rfl⟩

/-- The opposite. -/
def neg {k : FloatKind} (x : Fl k) : Fl k :=
  match x with
  | some r => some (Op.negFloat k r)
  | none => none
instance {k} : Neg (Fl k) := ⟨neg⟩

theorem neg_B {k : FloatKind} (x : Fl k) (t : Nat) : ∃ s, Op.negFloat k (B x t) = B (neg x) s := by
  cases x with
  | some r => exact ⟨0, rfl⟩
  | none =>
    obtain ⟨r, hr, q, hq, ht⟩ := nanW_signed k t
    have h0 := hq 0
    have h1 := hq 1
    have e : 2 ^ (k.format.exponentBits + k.format.fractionBits) = k.format.signWeight := rfl
    have hx := xor_top (n := k.format.exponentBits + k.format.fractionBits) (r := r) (by rw [e]; exact hr)
    rcases Nat.mod_two_eq_zero_or_one t with h | h
    · refine ⟨2 * q + 1, ?_⟩
      show nanW k t ^^^ _ = nanW k (2 * q + 1)
      rw [ht, h, show nanW k (2 * q + 0) = 0 * k.format.signWeight + r from h0, Nat.zero_mul, Nat.zero_add, hx, e, show nanW k (2 * q + 1) = 1 * k.format.signWeight + r from h1, Nat.one_mul]
    · refine ⟨2 * q, ?_⟩
      show nanW k t ^^^ _ = nanW k (2 * q + 0)
      rw [ht, h, show nanW k (2 * q + 0) = 0 * k.format.signWeight + r from h0, show nanW k (2 * q + 1) = 1 * k.format.signWeight + r from h1, Nat.one_mul, ← e, ← hx, Nat.xor_assoc, Nat.xor_self, Nat.xor_zero, Nat.zero_mul, Nat.zero_add]

/-- The square root. -/
def sqrt (x : F64) : F64 :=
  match x with
  | some r => FloatKind.f64.format.sqrt r
  | none => none

/-- A number made whole. -/
def whole (way : Ieee.Toward) (x : F64) : F64 :=
  match x with
  | some r => match FloatKind.f64.decode r with
    | .nan _ _ => none
    | d => some (FloatKind.f64.encode (d.integral way))
  | none => none

/-- A 32-bit number as a 64-bit one. -/
def widen (x : F32) : F64 :=
  match x with
  | some r => floatToFloatBits .f32 r .f64
  | none => none

/-- A 64-bit number narrowed. -/
def narrow (x : F64) : F32 :=
  match x with
  | some r => match FloatKind.f64.decode r with
    | .nan _ _ => none
    | d => some (FloatKind.f32.encode d)
  | none => none

/-- Narrowing a number does not make it an infinity. -/
def fits (x : F64) : Bool :=
  match x with
  | some r => match FloatKind.f64.decode r with
    | .number s m e => !(FloatKind.f32.decode (FloatKind.f32.encode (.number s m e))).isInfinity
    | _ => true
  | none => true

/-- A number as an integer, and whether it is in the integers' range. -/
def toI (x : F64) (q : IntKind) : Int :=
  match x with
  | some r => (floatToIntVal .f64 r q).getD 0
  | none => 0
def isI (x : F64) (q : IntKind) : Bool :=
  match x with
  | some r => (floatToIntVal .f64 r q).isSome
  | none => false

end Go.Proofs.Ytlpahmefebgdlaa.Fx
