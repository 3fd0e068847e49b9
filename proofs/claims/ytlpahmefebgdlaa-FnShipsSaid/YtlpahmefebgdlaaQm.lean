/- Texts put together: Xb, Xo, Xc, Xa, Xd, Wa. No condition. -/
import Derived.Test.YtlpahmefebgdlaaQk
import Derived.Test.YtlpahmefebgdlaaQj
import Derived.Test.YtlpahmefebgdlaaQi
import Derived.Test.YtlpahmefebgdlaaQl
import Derived.Test.YtlpahmefebgdlaaProg
import Derived.WalkKit
import Derived.KernelRfl
import Derived.Lib.Hide
import Derived.IntWalk
/- Small distances; gaps; the constant's worth. No condition. -/
namespace Go.Proofs.Ytlpahmefebgdlaa.Fx
open Go Nr Ieee

theorem mul_sq {x : F64} {a : Rat} {E : Int} (hx : Has x a) (h1 : a * a ≤ (2 : Rat) ^ E) (h3 : -1022 ≤ E) (h4 : E ≤ 1023) :
    ∃ v, Has (x * x) v ∧ 0 ≤ v ∧ v ≤ a * a + (2 : Rat) ^ (E - 53) ∧ a * a ≤ v + (2 : Rat) ^ (E - 53) := by
  obtain ⟨s, m, i, ⟨r, rfl, hr⟩, rfl⟩ := hx
  rw [mul_some, hr]
  have e0 : val s m i * val s m i = wo (m * m) (i + i) := by
    unfold val; rw [wo_mul]
    cases s <;> simp only [cond_true, cond_false] <;> grind
  rw [e0] at h1 ⊢
  have e1 : ((Datum.number s m i).product (Datum.number s m i)).map double.write = (some (double.nearest (s ^^ s) (m * m) (i + i)) : Option Nat) := rfl
  rw [e1, Bool.xor_self]
  obtain ⟨m', e', g1, -, g3, g4⟩ := num_round false (le2_of h1) h3 h4
  exact ⟨wo m' e', ⟨false, m', e', g1, rfl⟩, wo_nonneg _ _, g3, g4⟩
theorem zero_sgn (s : Bool) (e : Int) : Has (bx (double.nearest s 0 e)) 0 := by
  rw [nearest_zero]
  have h1 : ∀ e : Int, wo 0 e = 0 := by intro e; unfold wo; grind
  have h0 : val s 0 (-1074) = 0 := by unfold val; rw [h1]; cases s <;> simp only [cond_true, cond_false] <;> grind
  cases s
  · exact ⟨false, 0, -1074, ⟨_, rfl, by decide⟩, h0.symm⟩
  · exact ⟨true, 0, -1074, ⟨_, rfl, by decide⟩, h0.symm⟩
theorem add_nn {x y : F64} {a b : Rat} {E : Int} (hx : Has x a) (hy : Has y b) (a0 : 0 ≤ a) (b0 : 0 ≤ b) (h1 : a + b ≤ (2 : Rat) ^ E) (h3 : -1022 ≤ E) (h4 : E ≤ 1023) :
    ∃ v, Has (x + y) v ∧ 0 ≤ v ∧ v ≤ a + b + (2 : Rat) ^ (E - 53) ∧ a + b ≤ v + (2 : Rat) ^ (E - 53) := by
  obtain ⟨s, m, i, hx, rfl⟩ := hx
  obtain ⟨t, n, j, hy, rfl⟩ := hy
  rw [hx.add hy]
  unfold addW
  have e1 : val s m i = wi (signed s m (i - min i j).toNat) (min i j) := by rw [wi_signed]; congr 1; omega
  have e2 : val t n j = wi (signed t n (j - min i j).toNat) (min i j) := by rw [wi_signed]; congr 1; omega
  have hab : 0 ≤ val s m i + val t n j := by grind
  rw [e1, e2, ← wi_add] at h1 hab ⊢
  generalize signed s m (i - min i j).toNat + signed t n (j - min i j).toNat = z at h1 hab ⊢
  have hp := two_pos (E - 53)
  by_cases hz : z = 0
  · subst hz
    refine ⟨0, zero_sgn _ _, Rat.le_refl, ?_⟩
    have : wi 0 (min i j) = 0 := by unfold wi; simp
    rw [this]
    constructor <;> grind
  · have hzn : ¬z < 0 := by
      intro hlt
      have := (wi_lt (min i j)).2 hlt
      have h0 : wi 0 (min i j) = 0 := by unfold wi; simp
      rw [h0] at this
      grind
    rw [if_neg hz, decide_eq_false hzn]
    have hv : val false z.natAbs (min i j) = wi z (min i j) := wi_val z _ fun _ => (decide_eq_false hzn).symm
    have hv' : wo z.natAbs (min i j) = wi z (min i j) := hv
    rw [← hv'] at h1 ⊢
    obtain ⟨m', e', g1, -, g3, g4⟩ := num_round false (le2_of h1) h3 h4
    exact ⟨wo m' e', ⟨false, m', e', g1, rfl⟩, wo_nonneg _ _, g3, g4⟩
theorem sqrt_nn {x : F64} {v : Rat} {E : Int} (hx : Has x v) (h0 : 0 ≤ v) (h1 : v ≤ (2 : Rat) ^ (2 * E)) (h3 : -500 ≤ E) (h4 : E ≤ 500) :
    ∃ w, Has (Fx.sqrt x) w ∧ 0 ≤ w ∧ w * w ≤ v + (2 : Rat) ^ (2 * E - 49) := by
  by_cases hv : v = 0
  · subst hv
    obtain ⟨s, m, i, ⟨r, rfl, hr⟩, h⟩ := hx
    have hm : m = 0 := by
      refine Nat.eq_zero_of_not_pos fun hm => ?_
      have := wo_pos hm i
      unfold val at h
      cases s <;> simp only [cond_true, cond_false] at h <;> grind
    subst hm
    have hs : Fx.sqrt (bx r) = bx (double.nearest s 0 i) := by
      show (((double.read r).root 54).map double.write : Option Nat) = _
      rw [hr]; rfl
    rw [hs]
    refine ⟨0, zero_sgn _ _, Rat.le_refl, ?_⟩
    have := two_pos (2 * E - 49)
    grind
  · obtain ⟨w, g1, g2, g3, g4⟩ := sqrt_has hx (by grind) h1 h3 h4
    exact ⟨w, g1, g2, g3⟩
/-- A small distance. -/
theorem long_up {x y : F32} {a b B : Rat} (hx : HasS x a) (hy : HasS y b) (a1 : -(1 / 64) ≤ a) (a2 : a ≤ 1 / 64) (b1 : -(1 / 64) ≤ b) (b2 : b ≤ 1 / 64) (h0 : 0 ≤ B) (h : a * a + b * b + 1 / 1000000000 ≤ B * B) :
    fits (longF x y) = true ∧ ∃ R, HasS (long x y) R ∧ R ≤ B + 1 / 268435456 ∧ -(1 / 268435456) ≤ R := by
  obtain ⟨s1, s2⟩ := sq_le a1 a2
  obtain ⟨t1, t2⟩ := sq_le b1 b2
  have e1 : (2 : Rat) ^ (-12 : Int) = 1 / 4096 := by decide +kernel
  have e2 : (2 : Rat) ^ ((-12 : Int) - 53) = 1 / 36893488147419103232 := by decide +kernel
  have e3 : (2 : Rat) ^ (-10 : Int) = 1 / 1024 := by decide +kernel
  have e4 : (2 : Rat) ^ ((-10 : Int) - 53) = 1 / 9223372036854775808 := by decide +kernel
  obtain ⟨p, hp, p0, p1, p2⟩ := mul_sq (E := -12) (widen_has hx) (by rw [e1]; grind) (by decide) (by decide)
  obtain ⟨q, hq, q0, q1, q2⟩ := mul_sq (E := -12) (widen_has hy) (by rw [e1]; grind) (by decide) (by decide)
  rw [e2] at p1 p2 q1 q2
  generalize a * a = A at *
  generalize b * b = C at *
  obtain ⟨r, hr, r0, r1, r2⟩ := add_nn (E := -10) hp hq p0 q0 (by rw [e3]; grind) (by decide) (by decide)
  rw [e4] at r1 r2
  have e5 : (2 : Rat) ^ (2 * (-5 : Int)) = 1 / 1024 := by decide +kernel
  have e6 : (2 : Rat) ^ (2 * (-5 : Int) - 49) = 1 / 576460752303423488 := by decide +kernel
  obtain ⟨w, hw, w0, w1⟩ := sqrt_nn (E := -5) hr r0 (by rw [e5]; grind) (by decide) (by decide)
  rw [e6] at w1
  have w3 : w ≤ 1 / 32 := sq_le_sq (by grind) (by grind)
  have e7 : (2 : Rat) ^ (-4 : Int) = 1 / 16 := by decide +kernel
  have e8 : (2 : Rat) ^ ((-4 : Int) - 24) = 1 / 268435456 := by decide +kernel
  obtain ⟨hf, R, hR, R1, R2⟩ := narrow_has (E := -4) hw (by rw [e7]; grind) (by rw [e7]; grind) (by decide) (by decide)
  rw [e8] at R1 R2
  have w4 : w ≤ B := sq_le_sq h0 (by grind)
  exact ⟨hf, R, hR, by grind, by grind⟩
-- gaps
def gapN (a b : F64) : F64 := fmax (a - b) (b - a)
theorem fmax_has {x y : F64} {A B : Rat} (hx : Has x A) (hy : Has y B) : ∃ v, Has (fmax x y) v ∧ A ≤ v ∧ B ≤ v ∧ (v = A ∨ v = B) := by
  obtain ⟨z, w, e, ho, rfl, rfl⟩ := ord_has hx hy
  cases x with
  | none => obtain ⟨_, _, _, ⟨r, h, _⟩, _⟩ := hx; cases h
  | some a =>
    cases y with
    | none => obtain ⟨_, _, _, ⟨r, h, _⟩, _⟩ := hy; cases h
    | some b =>
      rw [ord_two] at ho
      rw [fmax_some, ho]
      rcases Int.lt_trichotomy z w with h | h | h
      · have hl := (wi_lt e).2 h
        rw [show compare z w = .lt from Int.compare_eq_lt.2 h]
        exact ⟨_, hy, by grind, by grind, .inr rfl⟩
      · subst h
        rw [show compare z z = .eq from Int.compare_eq_eq.2 rfl]
        show ∃ v, Has (some (if (FloatKind.f64.decode a).neg then b else a)) v ∧ _
        split
        · exact ⟨_, hy, by grind, by grind, .inl rfl⟩
        · exact ⟨_, hx, by grind, by grind, .inl rfl⟩
      · have hl := (wi_lt e).2 h
        rw [show compare z w = .gt from Int.compare_eq_gt.2 h]
        exact ⟨_, hx, by grind, by grind, .inl rfl⟩
/-- A gap of two numbers that are not great. -/
theorem gap_has {x y : F64} {a b : Rat} (hx : Has x a) (hy : Has y b) (h1 : a - b ≤ 128) (h2 : -128 ≤ a - b) : ∃ v, Has (gapN x y) v ∧ a - b - 1 / 70000000000000 ≤ v ∧ b - a - 1 / 70000000000000 ≤ v ∧ (v ≤ a - b + 1 / 70000000000000 ∨ v ≤ b - a + 1 / 70000000000000) := by
  have e1 : (2 : Rat) ^ (7 : Int) = 128 := by decide +kernel
  have e2 : (2 : Rat) ^ ((7 : Int) - 53) = 1 / 70368744177664 := by decide +kernel
  obtain ⟨p, hp, p1, p2⟩ := sub_has (E := 7) hx hy (by rw [e1]; exact h1) (by rw [e1]; grind) (by decide) (by decide)
  obtain ⟨q, hq, q1, q2⟩ := sub_has (E := 7) hy hx (by rw [e1]; grind) (by rw [e1]; grind) (by decide) (by decide)
  rw [e2] at p1 p2 q1 q2
  obtain ⟨v, hv, v1, v2, v3⟩ := fmax_has hp hq
  exact ⟨v, hv, by grind, by grind, by rcases v3 with rfl | rfl; exact .inl (by grind); exact .inr (by grind)⟩
/-- The constant's float against its worth. -/
theorem const_has {s x y u v : F32} {m X Y U V d e z R1 q1 R2 q2 : Rat} (hs : Shr s m) (hP : Pl s x y m X Y d e z R1 q1 R2 q2) (hf : frFit s x y = true) (hx : HasS x X) (hy : HasS y Y) (hu : HasS u U) (hv : HasS v V)
    (x1 : -3 ≤ X) (x2 : X ≤ 3) (y1 : -8 ≤ Y) (y2 : Y ≤ 8) (u1 : -7 ≤ U) (u2 : U ≤ 7) (v1 : -7 ≤ V) (v2 : V ≤ 7) :
    (potFit s x y && fits (powerW u v)) = true ∧ coOk s x y u v = true ∧ ∃ C, HasS (coW s x y u v) C ∧ C - enV m q1 q2 ⟨X, Y, U, V⟩ ≤ 1 / 10000 ∧ -(1 / 10000) ≤ C - enV m q1 q2 ⟨X, Y, U, V⟩ := by
  have m0 := hs.lo
  have m1 := hs.hi
  -- powers
  have pow : ∀ {x y : F32} {a b : Rat}, HasS x a → HasS y b → -8 ≤ a → a ≤ 8 → -8 ≤ b → b ≤ 8 → a * a + b * b ≤ 100 → fits (powerW x y) = true ∧ ∃ P, HasS (powN x y) P ∧ P ≤ a * a + b * b + 1 / 100000 ∧ a * a + b * b ≤ P + 1 / 100000 := by
    intro x y a b hx hy a1 a2 b1 b2 h
    obtain ⟨s1, s2⟩ := sq_le a1 a2
    obtain ⟨t1, t2⟩ := sq_le b1 b2
    have e1 : (2 : Rat) ^ (7 : Int) = 128 := by decide +kernel
    have e2 : (2 : Rat) ^ ((7 : Int) - 53) = 1 / 70368744177664 := by decide +kernel
    have e5 : (2 : Rat) ^ ((7 : Int) - 24) = 1 / 131072 := by decide +kernel
    obtain ⟨p, hp, p1, p2⟩ := mul_has (E := 7) (widen_has hx) (widen_has hx) (by rw [e1]; grind) (by rw [e1]; grind) (by decide) (by decide)
    obtain ⟨q, hq, q1, q2⟩ := mul_has (E := 7) (widen_has hy) (widen_has hy) (by rw [e1]; grind) (by rw [e1]; grind) (by decide) (by decide)
    rw [e2] at p1 p2 q1 q2
    generalize a * a = A at *
    generalize b * b = C at *
    obtain ⟨r, hr, r1, r2⟩ := add_has (E := 7) hp hq (by rw [e1]; grind) (by rw [e1]; grind) (by decide) (by decide)
    rw [e2] at r1 r2
    obtain ⟨hf, R, hR, R1, R2⟩ := narrow_has (E := 7) hr (by rw [e1]; grind) (by rw [e1]; grind) (by decide) (by decide)
    rw [e5] at R1 R2
    exact ⟨hf, R, hR, by grind, by grind⟩
  obtain ⟨sx, sx'⟩ := sq_le x1 x2
  obtain ⟨sy, sy'⟩ := sq_le y1 y2
  obtain ⟨su, su'⟩ := sq_le u1 u2
  obtain ⟨sv, sv'⟩ := sq_le v1 v2
  obtain ⟨hf1, A, hA, a1, a2⟩ := pow hx hy (by grind) (by grind) y1 y2 (by grind)
  obtain ⟨hf2, W, hW, w1, w2⟩ := pow hu hv (by grind) (by grind) (by grind) (by grind) (by grind)
  have half : HasS (c32 1056964608) (1 / 2) := ⟨false, 2 ^ 23, -24, ⟨1056964608, rfl, by decide⟩, by decide +kernel⟩
  have g1 := inv_nonneg hP.i1 hP.p1
  have g2 := inv_nonneg hP.i2 hP.p2
  have k1 : q1 ≤ 1002 / 1000 := by have := Rat.mul_le_mul_of_nonneg_left hP.p1 g1; have := hP.i1; grind
  have k2 : q2 ≤ 1002 / 1000 := by have := Rat.mul_le_mul_of_nonneg_left hP.p2 g2; have := hP.i2; grind
  have n1 := mul_bd (a := 1 - m) (b := q1) (A := 1) (B := 1002 / 1000) (by grind) (by grind) (by grind) k1
  have n2 := mul_bd (a := m) (b := q2) (A := 1) (B := 1002 / 1000) (by grind) (by grind) (by grind) k2
  have i1 := hP.i1
  have i2 := hP.i2
  have p1 := hP.p1
  have p2 := hP.p2
  have d1 : 1 - m = (1 - m) * q1 * R1 := by
    have : (1 - m) * q1 * R1 = (1 - m) * (q1 * R1) := by grind
    rw [this, i1]; grind
  have d2 : m = m * q2 * R2 := by
    have : m * q2 * R2 = m * (q2 * R2) := by grind
    rw [this, i2]; grind
  obtain ⟨B, hB, b1, b2⟩ := divE 1 2 (1 / 2097152) (by decide +kernel) (by decide +kernel) (by decide) (by decide) hs.ho hP.h1 (c := (1 - m) * q1) (by grind) d1 (by grind) (by grind)
  obtain ⟨D, hD, c1, c2⟩ := divE 1 2 (1 / 2097152) (by decide +kernel) (by decide +kernel) (by decide) (by decide) hs.hs hP.h2 (c := m * q2) (by grind) d2 (by grind) (by grind)
  have hen : enV m q1 q2 ⟨X, Y, U, V⟩ = X * X + Y * Y - U * U - V * V + 2 * ((1 - m) * q1 + m * q2) := rfl
  rw [hen]
  clear d1 d2 hen i1 i2 p1 p2 k1 k2 g1 g2 pow
  generalize (1 - m) * q1 = M1 at *
  generalize m * q2 = M2 at *
  generalize X * X = XX at *
  generalize Y * Y = YY at *
  generalize U * U = UU at *
  generalize V * V = VV at *
  obtain ⟨H, hH, h1, h2⟩ := mulE 6 64 (1 / 262144) (by decide +kernel) (by decide +kernel) (by decide) (by decide) half hA (by grind) (by grind)
  obtain ⟨S, hS, s1, s2⟩ := addE 6 64 (1 / 262144) (by decide +kernel) (by decide +kernel) (by decide) (by decide) hH hB (by grind) (by grind)
  obtain ⟨T, hT, t1, t2⟩ := addE 6 64 (1 / 262144) (by decide +kernel) (by decide +kernel) (by decide) (by decide) hS hD (by grind) (by grind)
  obtain ⟨O, hO, o1, o2⟩ := mulE 7 128 (1 / 131072) (by decide +kernel) (by decide +kernel) (by decide) (by decide) two_hasS hT (by grind) (by grind)
  obtain ⟨C, hC, f1, f2⟩ := subE 7 128 (1 / 131072) (by decide +kernel) (by decide +kernel) (by decide) (by decide) hO hW (by grind) (by grind)
  have hC' : HasS (coW s x y u v) C := hC
  refine ⟨?_, ?_, C, hC', by grind, by grind⟩
  · unfold potFit
    rw [hf, hf1, hf2]; rfl
  · unfold coOk vShip cfin
    rw [hs.is, hasS_fin hx, hasS_fin hy, hasS_fin hu, hasS_fin hv]; rfl
end Go.Proofs.Ytlpahmefebgdlaa.Fx
/- The law FnShips: shares, the tick, ships in blocks. No condition. -/
namespace Go.Proofs.Ytlpahmefebgdlaa.Fx
open Go

def spI (n : Int) : F32 := lit .f32 (floatOfInt .f32 n)
def spShare (a : Int) : F32 := spI (IntKind.i64.wrap (1 + a)) / c32 1107296256
def spH : F32 := c32 1023410176
def shCel (p : Sh) : List AC := [.cx .f32 p.x p.y, .cx .f32 p.u p.v]
theorem sp_tick : Tick spH := ⟨⟨false, 8388608, -28, ⟨1023410176, rfl, by decide⟩, by decide +kernel⟩, ⟨false, 8388608, -29, ⟨1015021568, by kernel_rfl, by decide⟩, by decide +kernel⟩, ⟨false, 11184811, -31, ⟨1001040555, by kernel_rfl, by decide⟩, by decide +kernel⟩⟩
theorem sp_shr0 : Shr (spShare 0) (1 / 32) := ⟨⟨false, 8388608, -28, ⟨1023410176, by kernel_rfl, by decide⟩, by decide +kernel⟩, ⟨true, 8388608, -28, ⟨3170893824, by kernel_rfl, by decide⟩, by decide +kernel⟩, ⟨false, 16252928, -24, ⟨1064828928, by kernel_rfl, by decide⟩, by decide +kernel⟩, by decide +kernel, by decide +kernel, by kernel_rfl⟩
theorem sp_shr1 : Shr (spShare 1) (1 / 16) := ⟨⟨false, 8388608, -27, ⟨1031798784, by kernel_rfl, by decide⟩, by decide +kernel⟩, ⟨true, 8388608, -27, ⟨3179282432, by kernel_rfl, by decide⟩, by decide +kernel⟩, ⟨false, 15728640, -24, ⟨1064304640, by kernel_rfl, by decide⟩, by decide +kernel⟩, by decide +kernel, by decide +kernel, by kernel_rfl⟩
theorem sp_shr2 : Shr (spShare 2) (3 / 32) := ⟨⟨false, 12582912, -27, ⟨1035993088, by kernel_rfl, by decide⟩, by decide +kernel⟩, ⟨true, 12582912, -27, ⟨3183476736, by kernel_rfl, by decide⟩, by decide +kernel⟩, ⟨false, 15204352, -24, ⟨1063780352, by kernel_rfl, by decide⟩, by decide +kernel⟩, by decide +kernel, by decide +kernel, by kernel_rfl⟩
theorem sp_shr3 : Shr (spShare 3) (1 / 8) := ⟨⟨false, 8388608, -26, ⟨1040187392, by kernel_rfl, by decide⟩, by decide +kernel⟩, ⟨true, 8388608, -26, ⟨3187671040, by kernel_rfl, by decide⟩, by decide +kernel⟩, ⟨false, 14680064, -24, ⟨1063256064, by kernel_rfl, by decide⟩, by decide +kernel⟩, by decide +kernel, by decide +kernel, by kernel_rfl⟩
theorem sp_shr4 : Shr (spShare 4) (5 / 32) := ⟨⟨false, 10485760, -26, ⟨1042284544, by kernel_rfl, by decide⟩, by decide +kernel⟩, ⟨true, 10485760, -26, ⟨3189768192, by kernel_rfl, by decide⟩, by decide +kernel⟩, ⟨false, 14155776, -24, ⟨1062731776, by kernel_rfl, by decide⟩, by decide +kernel⟩, by decide +kernel, by decide +kernel, by kernel_rfl⟩
theorem sp_shr5 : Shr (spShare 5) (3 / 16) := ⟨⟨false, 12582912, -26, ⟨1044381696, by kernel_rfl, by decide⟩, by decide +kernel⟩, ⟨true, 12582912, -26, ⟨3191865344, by kernel_rfl, by decide⟩, by decide +kernel⟩, ⟨false, 13631488, -24, ⟨1062207488, by kernel_rfl, by decide⟩, by decide +kernel⟩, by decide +kernel, by decide +kernel, by kernel_rfl⟩
theorem sp_shr6 : Shr (spShare 6) (7 / 32) := ⟨⟨false, 14680064, -26, ⟨1046478848, by kernel_rfl, by decide⟩, by decide +kernel⟩, ⟨true, 14680064, -26, ⟨3193962496, by kernel_rfl, by decide⟩, by decide +kernel⟩, ⟨false, 13107200, -24, ⟨1061683200, by kernel_rfl, by decide⟩, by decide +kernel⟩, by decide +kernel, by decide +kernel, by kernel_rfl⟩
theorem sp_shr7 : Shr (spShare 7) (1 / 4) := ⟨⟨false, 8388608, -25, ⟨1048576000, by kernel_rfl, by decide⟩, by decide +kernel⟩, ⟨true, 8388608, -25, ⟨3196059648, by kernel_rfl, by decide⟩, by decide +kernel⟩, ⟨false, 12582912, -24, ⟨1061158912, by kernel_rfl, by decide⟩, by decide +kernel⟩, by decide +kernel, by decide +kernel, by kernel_rfl⟩
theorem sp_shr8 : Shr (spShare 8) (9 / 32) := ⟨⟨false, 9437184, -25, ⟨1049624576, by kernel_rfl, by decide⟩, by decide +kernel⟩, ⟨true, 9437184, -25, ⟨3197108224, by kernel_rfl, by decide⟩, by decide +kernel⟩, ⟨false, 12058624, -24, ⟨1060634624, by kernel_rfl, by decide⟩, by decide +kernel⟩, by decide +kernel, by decide +kernel, by kernel_rfl⟩
theorem sp_shr9 : Shr (spShare 9) (5 / 16) := ⟨⟨false, 10485760, -25, ⟨1050673152, by kernel_rfl, by decide⟩, by decide +kernel⟩, ⟨true, 10485760, -25, ⟨3198156800, by kernel_rfl, by decide⟩, by decide +kernel⟩, ⟨false, 11534336, -24, ⟨1060110336, by kernel_rfl, by decide⟩, by decide +kernel⟩, by decide +kernel, by decide +kernel, by kernel_rfl⟩
theorem sp_shr10 : Shr (spShare 10) (11 / 32) := ⟨⟨false, 11534336, -25, ⟨1051721728, by kernel_rfl, by decide⟩, by decide +kernel⟩, ⟨true, 11534336, -25, ⟨3199205376, by kernel_rfl, by decide⟩, by decide +kernel⟩, ⟨false, 11010048, -24, ⟨1059586048, by kernel_rfl, by decide⟩, by decide +kernel⟩, by decide +kernel, by decide +kernel, by kernel_rfl⟩
theorem sp_shr11 : Shr (spShare 11) (3 / 8) := ⟨⟨false, 12582912, -25, ⟨1052770304, by kernel_rfl, by decide⟩, by decide +kernel⟩, ⟨true, 12582912, -25, ⟨3200253952, by kernel_rfl, by decide⟩, by decide +kernel⟩, ⟨false, 10485760, -24, ⟨1059061760, by kernel_rfl, by decide⟩, by decide +kernel⟩, by decide +kernel, by decide +kernel, by kernel_rfl⟩
theorem sp_shr12 : Shr (spShare 12) (13 / 32) := ⟨⟨false, 13631488, -25, ⟨1053818880, by kernel_rfl, by decide⟩, by decide +kernel⟩, ⟨true, 13631488, -25, ⟨3201302528, by kernel_rfl, by decide⟩, by decide +kernel⟩, ⟨false, 9961472, -24, ⟨1058537472, by kernel_rfl, by decide⟩, by decide +kernel⟩, by decide +kernel, by decide +kernel, by kernel_rfl⟩
theorem sp_shr13 : Shr (spShare 13) (7 / 16) := ⟨⟨false, 14680064, -25, ⟨1054867456, by kernel_rfl, by decide⟩, by decide +kernel⟩, ⟨true, 14680064, -25, ⟨3202351104, by kernel_rfl, by decide⟩, by decide +kernel⟩, ⟨false, 9437184, -24, ⟨1058013184, by kernel_rfl, by decide⟩, by decide +kernel⟩, by decide +kernel, by decide +kernel, by kernel_rfl⟩
theorem sp_shr14 : Shr (spShare 14) (15 / 32) := ⟨⟨false, 15728640, -25, ⟨1055916032, by kernel_rfl, by decide⟩, by decide +kernel⟩, ⟨true, 15728640, -25, ⟨3203399680, by kernel_rfl, by decide⟩, by decide +kernel⟩, ⟨false, 8912896, -24, ⟨1057488896, by kernel_rfl, by decide⟩, by decide +kernel⟩, by decide +kernel, by decide +kernel, by kernel_rfl⟩
theorem sp_shr15 : Shr (spShare 15) (1 / 2) := ⟨⟨false, 8388608, -24, ⟨1056964608, by kernel_rfl, by decide⟩, by decide +kernel⟩, ⟨true, 8388608, -24, ⟨3204448256, by kernel_rfl, by decide⟩, by decide +kernel⟩, ⟨false, 8388608, -24, ⟨1056964608, by kernel_rfl, by decide⟩, by decide +kernel⟩, by decide +kernel, by decide +kernel, by kernel_rfl⟩
theorem sp_shr (a : Int) (h0 : 0 ≤ a) (h1 : a < 16) : ∃ m : Rat, Shr (spShare a) m := by
  have h' : a = 0 ∨ a = 1 ∨ a = 2 ∨ a = 3 ∨ a = 4 ∨ a = 5 ∨ a = 6 ∨ a = 7 ∨ a = 8 ∨ a = 9 ∨ a = 10 ∨ a = 11 ∨ a = 12 ∨ a = 13 ∨ a = 14 ∨ a = 15 := by omega
  rcases h' with rfl | rfl | rfl | rfl | rfl | rfl | rfl | rfl | rfl | rfl | rfl | rfl | rfl | rfl | rfl | rfl
  · exact ⟨_, sp_shr0⟩
  · exact ⟨_, sp_shr1⟩
  · exact ⟨_, sp_shr2⟩
  · exact ⟨_, sp_shr3⟩
  · exact ⟨_, sp_shr4⟩
  · exact ⟨_, sp_shr5⟩
  · exact ⟨_, sp_shr6⟩
  · exact ⟨_, sp_shr7⟩
  · exact ⟨_, sp_shr8⟩
  · exact ⟨_, sp_shr9⟩
  · exact ⟨_, sp_shr10⟩
  · exact ⟨_, sp_shr11⟩
  · exact ⟨_, sp_shr12⟩
  · exact ⟨_, sp_shr13⟩
  · exact ⟨_, sp_shr14⟩
  · exact ⟨_, sp_shr15⟩
end Go.Proofs.Ytlpahmefebgdlaa.Fx
/- The law FnShips: what its run asks of the numbers, the flights. No condition. -/
namespace Go.Proofs.Ytlpahmefebgdlaa.Fx
open Go

theorem eqS_true {x y : F32} {a : Rat} (hx : HasS x a) (hy : HasS y a) : eq x y = true ∧ ne x y = false := by
  obtain ⟨z, w, e, ho, g1, g2⟩ := ordS_has hx hy
  have : z = w := by
    have h := g1.symm.trans g2
    rcases Int.lt_trichotomy z w with h1 | h1 | h1
    · have := (wi_lt e).2 h1; grind
    · exact h1
    · have := (wi_lt e).2 h1; grind
  subst this
  unfold eq ne
  rw [ho, show compare z z = .eq from Int.compare_eq_eq.2 rfl]
  exact ⟨rfl, rfl⟩
def mirS (p : Sh) : Sh := ⟨p.x, -p.y, -p.u, p.v⟩
theorem mir_hasG {p : Sh} {P : V4} (h : HasG 1 p P) : HasG (-1) (mirS p) P := by
  have y := negS_has h.y
  have u := negS_has h.u
  rw [show -(1 * P.y) = -1 * P.y by grind] at y
  rw [show -(1 * P.u) = -1 * P.u by grind] at u
  exact ⟨h.x, y, u, h.v⟩
theorem hasG_fin {g : Rat} {p : Sh} {P : V4} (h : HasG g p P) : p.fin = true := by
  unfold Sh.fin vShip cfin
  rw [hasS_fin h.x, hasS_fin h.y, hasS_fin h.u, hasS_fin h.v]; rfl
theorem flS_add (s h : F32) (p : Sh) (n : Nat) : ∀ m : Nat, flS s h m (flS s h n p) = flS s h (n + m) p
  | 0 => rfl
  | m + 1 => by
    show stp s (flS s h m (flS s h n p)) h = stp s (flS s h (n + m) p) h
    rw [flS_add s h p n m]
theorem flAllOf (s h : F32) (p : Sh) : ∀ n : Nat, (∀ k, k < n → stQ s (flS s h k p) h = true) → flAll s h p n = true
  | 0, _ => rfl
  | n + 1, hq => by
    unfold flAll
    rw [flAllOf s h p n fun k hk => hq k (by omega), hq n (by omega)]; rfl
/-- Two places that are near. -/
theorem near_long {x y x' y' : F32} {a b a' b' dx dy : Rat} (hx : HasS x a) (hy : HasS y b) (hx' : HasS x' a') (hy' : HasS y' b') (x1 : a - a' ≤ dx) (x2 : -dx ≤ a - a') (y1 : b - b' ≤ dy) (y2 : -dy ≤ b - b') (h : dx * dx + dy * dy ≤ 9 / 100000) :
    fits (longF (x - x') (y - y')) = true ∧ lt (widen (long (x - x') (y - y'))) (c64 4576918229304087675) = true := by
  have dx0 : 0 ≤ dx := by grind
  have dy0 : 0 ≤ dy := by grind
  have sx := sq_nonneg dx
  have sy := sq_nonneg dy
  have bx : dx ≤ 95 / 10000 := sq_le_sq (by grind) (by grind)
  have by' : dy ≤ 95 / 10000 := sq_le_sq (by grind) (by grind)
  obtain ⟨c, hc, c1, c2⟩ := subE (-5) (1 / 32) (1 / 536870912) (by decide +kernel) (by decide +kernel) (by decide) (by decide) hx hx' (by grind) (by grind)
  obtain ⟨d, hd, d1, d2⟩ := subE (-5) (1 / 32) (1 / 536870912) (by decide +kernel) (by decide +kernel) (by decide) (by decide) hy hy' (by grind) (by grind)
  have s1 := (sq_le (a := c) (B := dx + 1 / 536870912) (by grind) (by grind)).2
  have s2 := (sq_le (a := d) (B := dy + 1 / 536870912) (by grind) (by grind)).2
  obtain ⟨hf, R, hR, R1, R2⟩ := long_up (B := 96 / 10000) hc hd (by grind) (by grind) (by grind) (by grind) (by grind) (by
    have e1 : (dx + 1 / 536870912) * (dx + 1 / 536870912) = dx * dx + 1 / 268435456 * dx + 1 / 288230376151711744 := by grind
    have e2 : (dy + 1 / 536870912) * (dy + 1 / 536870912) = dy * dy + 1 / 268435456 * dy + 1 / 288230376151711744 := by grind
    rw [e1] at s1
    rw [e2] at s2
    generalize dx * dx = DX at *
    generalize dy * dy = DY at *
    generalize c * c = CC at *
    generalize d * d = DD at *
    grind)
  have hcc : Has (c64 4576918229304087675) (5764607523034235 / 576460752303423488) := ⟨false, 5764607523034235, -59, ⟨4576918229304087675, rfl, by decide⟩, by decide +kernel⟩
  refine ⟨hf, ?_⟩
  rw [lt_has (widen_has hR) hcc]
  exact decide_eq_true (by grind)
/-- The constants' gap. -/
theorem const_near {a b : F32} {A B e l : Rat} (ha : HasS a A) (hb : HasS b B) (h1 : A - B ≤ e) (h2 : -e ≤ A - B) (hl : l ≤ A) (a1 : A ≤ 100) (a2 : -100 ≤ A) (e1 : e ≤ 20) (h : e + 1 / 10000 ≤ 1 / 100 * (1 + l)) :
    lt (gapN (widen a) (widen b)) (c64 4576918229304087675 * (one + gapN (widen a) zero)) = true := by
  obtain ⟨g, hg, g1, g2, g3⟩ := gap_has (widen_has ha) (widen_has hb) (by grind) (by grind)
  obtain ⟨k, hk, k1, k2, k3⟩ := gap_has (widen_has ha) zero_has (by grind) (by grind)
  have e7 : (2 : Rat) ^ (7 : Int) = 128 := by decide +kernel
  have e8 : (2 : Rat) ^ ((7 : Int) - 53) = 1 / 70368744177664 := by decide +kernel
  have e9 : (2 : Rat) ^ (1 : Int) = 2 := by decide +kernel
  have e10 : (2 : Rat) ^ ((1 : Int) - 53) = 1 / 4503599627370496 := by decide +kernel
  have hcc : Has (c64 4576918229304087675) (5764607523034235 / 576460752303423488) := ⟨false, 5764607523034235, -59, ⟨4576918229304087675, rfl, by decide⟩, by decide +kernel⟩
  obtain ⟨o, ho, o1, o2⟩ := add_has (E := 7) one_has hk (by rw [e7]; rcases k3 with k3 | k3 <;> grind) (by rw [e7]; grind) (by decide) (by decide)
  rw [e8] at o1 o2
  obtain ⟨m, hm, m1, m2⟩ := mul_has (E := 1) hcc ho (by rw [e9]; rcases k3 with k3 | k3 <;> grind) (by rw [e9]; rcases k3 with k3 | k3 <;> grind) (by decide) (by decide)
  rw [e10] at m1 m2
  rw [lt_has hg hm]
  exact decide_eq_true (by rcases g3 with g3 | g3 <;> grind)
/-- All that the law's run asks of a flight. -/
structure ShOk (s : F32) (p : Sh) : Prop where
  is : isShare s = true
  fin : p.fin = true
  fl : ∀ n m : Nat, n + m ≤ 10 → flQ s spH (flS s spH n p) m = true
  hasS : ∀ n : Nat, n ≤ 10 → ∃ P, HasG 1 (flS s spH n p) P
  back : ∀ n : Nat, n ≤ 10 → flQ s spH (mirS (flS s spH n p)) n = true
  at_ : ∀ n : Nat, n ≤ 10 → fits (longF ((flS s spH n (mirS (flS s spH n p))).x - (mirS p).x) ((flS s spH n (mirS (flS s spH n p))).y - (mirS p).y)) = true ∧ lt (widen (long ((flS s spH n (mirS (flS s spH n p))).x - (mirS p).x) ((flS s spH n (mirS (flS s spH n p))).y - (mirS p).y))) (c64 4576918229304087675) = true
  sp : ∀ n : Nat, n ≤ 10 → fits (longF ((flS s spH n (mirS (flS s spH n p))).u - (mirS p).u) ((flS s spH n (mirS (flS s spH n p))).v - (mirS p).v)) = true ∧ lt (widen (long ((flS s spH n (mirS (flS s spH n p))).u - (mirS p).u) ((flS s spH n (mirS (flS s spH n p))).v - (mirS p).v))) (c64 4576918229304087675) = true
  co : ∀ n : Nat, n ≤ 10 → (potFit s (flS s spH n p).x (flS s spH n p).y && fits (powerW (flS s spH n p).u (flS s spH n p).v)) = true ∧ coOk s (flS s spH n p).x (flS s spH n p).y (flS s spH n p).u (flS s spH n p).v = true ∧ finS (coW s (flS s spH n p).x (flS s spH n p).y (flS s spH n p).u (flS s spH n p).v) = true
  gap : ∀ n : Nat, n ≤ 10 → lt (gapN (widen (coW s p.x p.y p.u p.v)) (widen (coW s (flS s spH n p).x (flS s spH n p).y (flS s spH n p).u (flS s spH n p).v))) (c64 4576918229304087675 * (one + gapN (widen (coW s p.x p.y p.u p.v)) zero)) = true
theorem ship_ok {s : F32} {m : Rat} {p : Sh} {P : V4} (hs : Shr s m) (ht : Tick spH) (hf : finS spH = true) (hp : HasG 1 p P) (x1 : -2 ≤ P.x) (x2 : P.x ≤ 2) (y1 : 2 ≤ P.y) (y2 : P.y ≤ 6) (u1 : -1 ≤ P.u) (u2 : P.u ≤ 1) (v1 : -1 ≤ P.v) (v2 : P.v ≤ 1) : ShOk s p := by
  obtain ⟨ya, k, gh, c, bx, D, E, hB, hb⟩ := ship_box P x1 x2 y1 y2 u1 u2 v1 v2
  have hok := hB.ok
  unfold sbOk at hok
  simp only [Bool.and_eq_true, decide_eq_true_eq] at hok
  obtain ⟨o1, o2, o3, o4, o5, o6, o7, o8, o9, o10, o11⟩ := hok
  have hz := zone_y hs.lo hs.hi o1 o2 o3 o4
  obtain ⟨Q, q0, hQ, hF⟩ := flight_fst hs hz o5 ht hf hp hb 10 hB.f
  have hst : ∀ j, j < 10 → stQ s (flS s spH j p) spH = true := fun j hj => (hF j hj).1
  have hFs : ∀ j, j < 10 → ∃ K P2 L P3 M P4 N, Fst s m (-3) 3 ya 8 (-gh) gh c k k (flS s spH j p) spH (bx j) (Q j) (Q (j + 1)) K P2 L P3 M P4 N := fun j hj => (hF j hj).2
  -- the inner box
  have hC : ∀ j, j ≤ 10 → In (zC (-3) 3 ya 8) (Q j) := by
    intro j hj
    by_cases h : j < 10
    · obtain ⟨K, P2, L, P3, M, P4, N, hS⟩ := hFs j h
      exact hS.z1
    · have : j = 9 + 1 := by omega
      subst this
      obtain ⟨K, P2, L, P3, M, P4, N, hS⟩ := hFs 9 (by omega)
      exact hS.zq
  have hR : ∀ j, j ≤ 10 → InR (-3) 3 ya 8 (Q j) := by
    intro j hj
    obtain ⟨h1, h2, h3, h4, h5, h6, h7, h8⟩ := hC j hj
    unfold zC at h1 h2 h3 h4 h5 h6 h7 h8
    dsimp only at h1 h2 h3 h4 h5 h6 h7 h8
    constructor <;> grind
  have hb' := hB.b
  have he' := hB.e
  have hd' := hB.d
  have hm' := hB.m
  rw [List.all_eq_true] at hb' he' hd' hm'
  -- places and constants
  have pl : ∀ j, j ≤ 10 → ∃ d e z R1 q1 R2 q2, Pl s (flS s spH j p).x (flS s spH j p).y m (Q j).x (1 * (Q j).y) d e z R1 q1 R2 q2 ∧ frFit s (flS s spH j p).x (flS s spH j p).y = true := by
    intro j hj
    obtain ⟨h1, h2, h3, h4, -, -, -, -⟩ := hR j hj
    have hg := (hQ j hj).1
    obtain ⟨hfit, d, e, z, R1, q1, R2, q2, hP⟩ := place_has hs hg.x hg.y (by grind) (by grind) (by grind) (by grind) (by rw [Rat.one_mul]; exact hz.f1 _ _ h1 h2 h3 h4) (by rw [Rat.one_mul]; exact hz.f2 _ _ h1 h2 h3 h4)
    exact ⟨d, e, z, R1, q1, R2, q2, hP, hfit⟩
  have co : ∀ j, j ≤ 10 → ∀ {d e z R1 q1 R2 q2 : Rat}, Pl s (flS s spH j p).x (flS s spH j p).y m (Q j).x (1 * (Q j).y) d e z R1 q1 R2 q2 → frFit s (flS s spH j p).x (flS s spH j p).y = true →
      (potFit s (flS s spH j p).x (flS s spH j p).y && fits (powerW (flS s spH j p).u (flS s spH j p).v)) = true ∧ coOk s (flS s spH j p).x (flS s spH j p).y (flS s spH j p).u (flS s spH j p).v = true ∧ ∃ C, HasS (coW s (flS s spH j p).x (flS s spH j p).y (flS s spH j p).u (flS s spH j p).v) C ∧ C - enV m q1 q2 (Q j) ≤ 1 / 10000 ∧ -(1 / 10000) ≤ C - enV m q1 q2 (Q j) := by
    intro j hj d e z R1 q1 R2 q2 hP hfit
    obtain ⟨h1, h2, h3, h4, h5, h6, h7, h8⟩ := hC j hj
    unfold zC at h1 h2 h3 h4 h5 h6 h7 h8
    dsimp only at h1 h2 h3 h4 h5 h6 h7 h8
    have hg := (hQ j hj).1
    have hy := hg.y
    have hu := hg.u
    rw [Rat.one_mul] at hP hy hu
    exact const_has hs hP hfit hg.x hy hu hg.v (by grind) (by grind) (by grind) (by grind) (by grind) (by grind) (by grind) (by grind)
  -- the way back
  have hback : ∀ n, n ≤ 10 → ∃ R, HasG (-1) (flS s spH n (mirS (flS s spH n p))) R ∧ Df (D 0) R (Q 0) ∧ ∀ i, i < n → stQ s (flS s spH i (mirS (flS s spH n p))) spH = true := by
    intro n hn
    have hD : Df (D n) (Q n) (Q n) := by
      refine df_in (hd' n (List.mem_range.2 (by omega))) ?_
      unfold zV
      constructor <;> dsimp only <;> grind
    obtain ⟨R, h1, h2, h3⟩ := home_back hs hz o5 ht hf (n := n) (fun j hj => hFs j (by omega)) (fun j hj => hb' j (List.mem_range.2 (by omega))) (mir_hasG (hQ n hn).1) hD n (Nat.le_refl n)
    rw [Nat.sub_self] at h2
    exact ⟨R, h1, h2, h3⟩
  have hw := mir_hasG hp
  rw [← q0] at hw
  have flq : ∀ n l : Nat, n + l ≤ 10 → flQ s spH (flS s spH n p) l = true := by
    intro n l hn
    unfold flQ
    rw [hs.is, hasG_fin (hQ n (by omega)).1, hf, flAllOf s spH _ l fun i hi => by rw [flS_add]; exact hst (n + i) (by omega)]; rfl
  refine ⟨hs.is, hasG_fin hp, flq, fun n hn => ⟨_, (hQ n hn).1⟩, ?_, ?_, ?_, ?_, ?_⟩
  · intro n hn
    obtain ⟨R, h1, h2, h3⟩ := hback n hn
    unfold flQ
    rw [hs.is, hasG_fin (mir_hasG (hQ n hn).1), hf, flAllOf s spH _ n h3]; rfl
  · intro n hn
    obtain ⟨R, h1, ⟨d1, d2, d3, d4, d5, d6, d7, d8⟩, h3⟩ := hback n hn
    exact near_long h1.x h1.y hw.x hw.y d1 d2 (by grind) (by grind) o8
  · intro n hn
    obtain ⟨R, h1, ⟨d1, d2, d3, d4, d5, d6, d7, d8⟩, h3⟩ := hback n hn
    exact near_long h1.u h1.v hw.u hw.v (by grind) (by grind) d7 d8 o9
  · intro n hn
    obtain ⟨d, e, z, R1, q1, R2, q2, hP, hfit⟩ := pl n hn
    obtain ⟨g1, g2, C, hC', -, -⟩ := co n hn hP hfit
    exact ⟨g1, g2, hasS_fin hC'⟩
  · intro n hn
    obtain ⟨d, e, z, R1, q1, R2, q2, hP, hfit⟩ := pl n hn
    obtain ⟨-, -, C, hC', c1, c2⟩ := co n hn hP hfit
    obtain ⟨d', e', z', R1', q1', R2', q2', hP', hfit'⟩ := pl 0 (by omega)
    obtain ⟨-, -, C', hC'', c3, c4⟩ := co 0 (by omega) hP' hfit'
    have hE := energy_flight (E := E) hs hz o5 o6 hQ hFs hR (fun j hj => he' j (List.mem_range.2 (by omega))) o7 hP' n hn hP
    have hEn : E n ≤ E 10 := by have := hm' n (List.mem_range.2 (by omega)); simpa using this
    have i1 := inv_nonneg hP'.i1 hP'.p1
    have i2 := inv_nonneg hP'.i2 hP'.p2
    have j1 : q1' ≤ 1002 / 1000 := by have := Rat.mul_le_mul_of_nonneg_left hP'.p1 i1; have := hP'.i1; grind
    have j2 : q2' ≤ 1002 / 1000 := by have := Rat.mul_le_mul_of_nonneg_left hP'.p2 i2; have := hP'.i2; grind
    have lo := hs.lo
    have hi := hs.hi
    have n1 := mul_bd (a := 1 - m) (b := q1') (A := 1) (B := 1002 / 1000) (by grind) (by grind) (by grind) j1
    have n2 := mul_bd (a := m) (b := q2') (A := 1) (B := 1002 / 1000) (by grind) (by grind) (by grind) j2
    have n3 := Rat.mul_nonneg (show 0 ≤ 1 - m by grind) i1
    have n4 := Rat.mul_nonneg (show 0 ≤ m by grind) i2
    obtain ⟨w1, w2⟩ := sq_le x1 x2
    obtain ⟨w3, w4⟩ := sq_le (a := P.y) (B := 6) (by grind) y2
    obtain ⟨w5, w6⟩ := sq_le u1 u2
    obtain ⟨w7, w8⟩ := sq_le v1 v2
    have w9 : (bx 0).yl * (bx 0).yl ≤ P.y * P.y := by
      have := hb.y1
      have t1 := Rat.mul_le_mul_of_nonneg_left this (show 0 ≤ (bx 0).yl by grind)
      have t2 := Rat.mul_le_mul_of_nonneg_right this (show 0 ≤ P.y by grind)
      grind
    have en0 : enV m q1' q2' (Q 0) ≤ 60 ∧ (bx 0).yl * (bx 0).yl - 2 ≤ enV m q1' q2' (Q 0) := by
      rw [q0]
      unfold enV
      constructor <;> grind
    have e20 : E 10 ≤ 1 := by grind
    refine const_near (e := E 10 + 2 / 10000) (l := (bx 0).yl * (bx 0).yl - 2 - 1 / 10000) hC'' hC' ?_ ?_ ?_ ?_ ?_ ?_ ?_
    all_goals (clear hF hFs hC hR hb' he' hd' hm' hback pl co flq; grind)
end Go.Proofs.Ytlpahmefebgdlaa.Fx
/- Contracts: phasors at the law's turns, frames that are turned, mirrors, same ships. No condition. -/
namespace Go.Proofs.Ytlpahmefebgdlaa.Fx
open Go Go.RowKit

def phTab : List (Nat × Nat × Nat) := [
  (0, 1065353216, 0),
  (4581391382316318720, 1065222315, 1040143735),
  (4585894981943689216, 1064831653, 1048401782),
  (4588762062666072064, 1064187327, 1052477459),
  (4590398581571059712, 1063299392, 1056274243),
  (4591832121932251136, 1062181704, 1058392303),
  (4593265662293442560, 1060851702, 1060012001),
  (4594185411286269952, 1059330143, 1061453243),
  (4594902181198430208, 1057640769, 1062693540),
  (4595618951647461376, 1054655275, 1063713538),
  (4596335721559621632, 1050767856, 1064497320),
  (4597052491471781888, 1044854664, 1065032654),
  (4597769261920813056, 1032904364, 1065311189),
  (4598330625957560320, 3177048291, 1065328576),
  (4598689010913640448, 3191244322, 1065084545),
  (4599047395869720576, 3197721715, 1064582903),
  (4599405780825800704, 3201634608, 1063831480),
  (4599764165781880832, 3204888930, 1062842000),
  (4600122551274831872, 3206598653, 1061629902),
  (4600480936230912000, 3208143915, 1060214104),
  (4600839321186992128, 3209500607, 1058616697),
  (4601197706143072256, 3210647557, 1056760610),
  (4601556091099152384, 3211566868, 1052993814),
  (4601914476592103424, 3212244195, 1049027172),
  (4602272861548183552, 3212668966, 1041269189),
  (4602631246504263680, 3212834555, 1015540701),
  (4602834225584930816, 3212738376, 3185415540),
  (4603013418062970880, 3212381932, 3194804300),
  (4603192610541010944, 3211770784, 3199441372),
  (4603371803019051008, 3210914469, 3203267098),
  (4603550995497091072, 3209826350, 3205648855),
  (4603730187975131136, 3208523407, 3207290396),
  (4603909380453171200, 3207025970, 3208756685),
  (9223372036854775808, 1065353216, 2147483648),
  (13804763419171094528, 1065222315, 3187627383),
  (13809267018798465024, 1064831653, 3195885430),
  (13812134099520847872, 1064187327, 3199961107),
  (13813770618425835520, 1063299392, 3203757891),
  (13815204158787026944, 1062181704, 3205875951),
  (13816637699148218368, 1060851702, 3207495649),
  (13817557448141045760, 1059330143, 3208936891),
  (13818274218053206016, 1057640769, 3210177188),
  (13818990988502237184, 1054655275, 3211197186),
  (13819707758414397440, 1050767856, 3211980968),
  (13820424528326557696, 1044854664, 3212516302),
  (13821141298775588864, 1032904364, 3212794837),
  (13821702662812336128, 3177048291, 3212812224),
  (13822061047768416256, 3191244322, 3212568193),
  (13822419432724496384, 3197721715, 3212066551),
  (13822777817680576512, 3201634608, 3211315128),
  (13823136202636656640, 3204888930, 3210325648),
  (13823494588129607680, 3206598653, 3209113550),
  (13823852973085687808, 3208143915, 3207697752),
  (13824211358041767936, 3209500607, 3206100345),
  (13824569742997848064, 3210647557, 3204244258),
  (13824928127953928192, 3211566868, 3200477462),
  (13825286513446879232, 3212244195, 3196510820),
  (13825644898402959360, 3212668966, 3188752837),
  (13826003283359039488, 3212834555, 3163024349),
  (13826206262439706624, 3212738376, 1037931892),
  (13826385454917746688, 3212381932, 1047320652),
  (13826564647395786752, 3211770784, 1051957724),
  (13826743839873826816, 3210914469, 1055783450),
  (13826923032351866880, 3209826350, 1058165207),
  (13827102224829906944, 3208523407, 1059806748),
  (13827281417307947008, 3207025970, 1061273037)]
def phLook (x : F64) : Option (Nat × Nat) := match x with
  | some n => (phTab.find? fun e => e.1 == n).map fun e => e.2
  | none => none
def phX (x : F64) : F32 := match phLook x with
  | some p => some p.1
  | none => none
def phY (x : F64) : F32 := match phLook x with
  | some p => some p.2
  | none => none
def phIn (x : F64) : Bool := (phLook x).isSome
theorem ph_run0 : runKM Try.prog [eFinite, eAbs, eBehind, eSine, eNaN] [] [] (G := anyW) [] noRule Try.f104 [.c (.fl .f64 (some 0))] [] = some (.c (.cx .f32 (some 1065353216) (some 0))) := by kernel_rfl
theorem ph_run1 : runKM Try.prog [eFinite, eAbs, eBehind, eSine, eNaN] [] [] (G := anyW) [] noRule Try.f104 [.c (.fl .f64 (some 4581391382316318720))] [] = some (.c (.cx .f32 (some 1065222315) (some 1040143735))) := by kernel_rfl
theorem ph_run2 : runKM Try.prog [eFinite, eAbs, eBehind, eSine, eNaN] [] [] (G := anyW) [] noRule Try.f104 [.c (.fl .f64 (some 4585894981943689216))] [] = some (.c (.cx .f32 (some 1064831653) (some 1048401782))) := by kernel_rfl
theorem ph_run3 : runKM Try.prog [eFinite, eAbs, eBehind, eSine, eNaN] [] [] (G := anyW) [] noRule Try.f104 [.c (.fl .f64 (some 4588762062666072064))] [] = some (.c (.cx .f32 (some 1064187327) (some 1052477459))) := by kernel_rfl
theorem ph_run4 : runKM Try.prog [eFinite, eAbs, eBehind, eSine, eNaN] [] [] (G := anyW) [] noRule Try.f104 [.c (.fl .f64 (some 4590398581571059712))] [] = some (.c (.cx .f32 (some 1063299392) (some 1056274243))) := by kernel_rfl
theorem ph_run5 : runKM Try.prog [eFinite, eAbs, eBehind, eSine, eNaN] [] [] (G := anyW) [] noRule Try.f104 [.c (.fl .f64 (some 4591832121932251136))] [] = some (.c (.cx .f32 (some 1062181704) (some 1058392303))) := by kernel_rfl
theorem ph_run6 : runKM Try.prog [eFinite, eAbs, eBehind, eSine, eNaN] [] [] (G := anyW) [] noRule Try.f104 [.c (.fl .f64 (some 4593265662293442560))] [] = some (.c (.cx .f32 (some 1060851702) (some 1060012001))) := by kernel_rfl
theorem ph_run7 : runKM Try.prog [eFinite, eAbs, eBehind, eSine, eNaN] [] [] (G := anyW) [] noRule Try.f104 [.c (.fl .f64 (some 4594185411286269952))] [] = some (.c (.cx .f32 (some 1059330143) (some 1061453243))) := by kernel_rfl
theorem ph_run8 : runKM Try.prog [eFinite, eAbs, eBehind, eSine, eNaN] [] [] (G := anyW) [] noRule Try.f104 [.c (.fl .f64 (some 4594902181198430208))] [] = some (.c (.cx .f32 (some 1057640769) (some 1062693540))) := by kernel_rfl
theorem ph_run9 : runKM Try.prog [eFinite, eAbs, eBehind, eSine, eNaN] [] [] (G := anyW) [] noRule Try.f104 [.c (.fl .f64 (some 4595618951647461376))] [] = some (.c (.cx .f32 (some 1054655275) (some 1063713538))) := by kernel_rfl
theorem ph_run10 : runKM Try.prog [eFinite, eAbs, eBehind, eSine, eNaN] [] [] (G := anyW) [] noRule Try.f104 [.c (.fl .f64 (some 4596335721559621632))] [] = some (.c (.cx .f32 (some 1050767856) (some 1064497320))) := by kernel_rfl
theorem ph_run11 : runKM Try.prog [eFinite, eAbs, eBehind, eSine, eNaN] [] [] (G := anyW) [] noRule Try.f104 [.c (.fl .f64 (some 4597052491471781888))] [] = some (.c (.cx .f32 (some 1044854664) (some 1065032654))) := by kernel_rfl
theorem ph_run12 : runKM Try.prog [eFinite, eAbs, eBehind, eSine, eNaN] [] [] (G := anyW) [] noRule Try.f104 [.c (.fl .f64 (some 4597769261920813056))] [] = some (.c (.cx .f32 (some 1032904364) (some 1065311189))) := by kernel_rfl
theorem ph_run13 : runKM Try.prog [eFinite, eAbs, eBehind, eSine, eNaN] [] [] (G := anyW) [] noRule Try.f104 [.c (.fl .f64 (some 4598330625957560320))] [] = some (.c (.cx .f32 (some 3177048291) (some 1065328576))) := by kernel_rfl
theorem ph_run14 : runKM Try.prog [eFinite, eAbs, eBehind, eSine, eNaN] [] [] (G := anyW) [] noRule Try.f104 [.c (.fl .f64 (some 4598689010913640448))] [] = some (.c (.cx .f32 (some 3191244322) (some 1065084545))) := by kernel_rfl
theorem ph_run15 : runKM Try.prog [eFinite, eAbs, eBehind, eSine, eNaN] [] [] (G := anyW) [] noRule Try.f104 [.c (.fl .f64 (some 4599047395869720576))] [] = some (.c (.cx .f32 (some 3197721715) (some 1064582903))) := by kernel_rfl
theorem ph_run16 : runKM Try.prog [eFinite, eAbs, eBehind, eSine, eNaN] [] [] (G := anyW) [] noRule Try.f104 [.c (.fl .f64 (some 4599405780825800704))] [] = some (.c (.cx .f32 (some 3201634608) (some 1063831480))) := by kernel_rfl
theorem ph_run17 : runKM Try.prog [eFinite, eAbs, eBehind, eSine, eNaN] [] [] (G := anyW) [] noRule Try.f104 [.c (.fl .f64 (some 4599764165781880832))] [] = some (.c (.cx .f32 (some 3204888930) (some 1062842000))) := by kernel_rfl
theorem ph_run18 : runKM Try.prog [eFinite, eAbs, eBehind, eSine, eNaN] [] [] (G := anyW) [] noRule Try.f104 [.c (.fl .f64 (some 4600122551274831872))] [] = some (.c (.cx .f32 (some 3206598653) (some 1061629902))) := by kernel_rfl
theorem ph_run19 : runKM Try.prog [eFinite, eAbs, eBehind, eSine, eNaN] [] [] (G := anyW) [] noRule Try.f104 [.c (.fl .f64 (some 4600480936230912000))] [] = some (.c (.cx .f32 (some 3208143915) (some 1060214104))) := by kernel_rfl
theorem ph_run20 : runKM Try.prog [eFinite, eAbs, eBehind, eSine, eNaN] [] [] (G := anyW) [] noRule Try.f104 [.c (.fl .f64 (some 4600839321186992128))] [] = some (.c (.cx .f32 (some 3209500607) (some 1058616697))) := by kernel_rfl
theorem ph_run21 : runKM Try.prog [eFinite, eAbs, eBehind, eSine, eNaN] [] [] (G := anyW) [] noRule Try.f104 [.c (.fl .f64 (some 4601197706143072256))] [] = some (.c (.cx .f32 (some 3210647557) (some 1056760610))) := by kernel_rfl
theorem ph_run22 : runKM Try.prog [eFinite, eAbs, eBehind, eSine, eNaN] [] [] (G := anyW) [] noRule Try.f104 [.c (.fl .f64 (some 4601556091099152384))] [] = some (.c (.cx .f32 (some 3211566868) (some 1052993814))) := by kernel_rfl
theorem ph_run23 : runKM Try.prog [eFinite, eAbs, eBehind, eSine, eNaN] [] [] (G := anyW) [] noRule Try.f104 [.c (.fl .f64 (some 4601914476592103424))] [] = some (.c (.cx .f32 (some 3212244195) (some 1049027172))) := by kernel_rfl
theorem ph_run24 : runKM Try.prog [eFinite, eAbs, eBehind, eSine, eNaN] [] [] (G := anyW) [] noRule Try.f104 [.c (.fl .f64 (some 4602272861548183552))] [] = some (.c (.cx .f32 (some 3212668966) (some 1041269189))) := by kernel_rfl
theorem ph_run25 : runKM Try.prog [eFinite, eAbs, eBehind, eSine, eNaN] [] [] (G := anyW) [] noRule Try.f104 [.c (.fl .f64 (some 4602631246504263680))] [] = some (.c (.cx .f32 (some 3212834555) (some 1015540701))) := by kernel_rfl
theorem ph_run26 : runKM Try.prog [eFinite, eAbs, eBehind, eSine, eNaN] [] [] (G := anyW) [] noRule Try.f104 [.c (.fl .f64 (some 4602834225584930816))] [] = some (.c (.cx .f32 (some 3212738376) (some 3185415540))) := by kernel_rfl
theorem ph_run27 : runKM Try.prog [eFinite, eAbs, eBehind, eSine, eNaN] [] [] (G := anyW) [] noRule Try.f104 [.c (.fl .f64 (some 4603013418062970880))] [] = some (.c (.cx .f32 (some 3212381932) (some 3194804300))) := by kernel_rfl
theorem ph_run28 : runKM Try.prog [eFinite, eAbs, eBehind, eSine, eNaN] [] [] (G := anyW) [] noRule Try.f104 [.c (.fl .f64 (some 4603192610541010944))] [] = some (.c (.cx .f32 (some 3211770784) (some 3199441372))) := by kernel_rfl
theorem ph_run29 : runKM Try.prog [eFinite, eAbs, eBehind, eSine, eNaN] [] [] (G := anyW) [] noRule Try.f104 [.c (.fl .f64 (some 4603371803019051008))] [] = some (.c (.cx .f32 (some 3210914469) (some 3203267098))) := by kernel_rfl
theorem ph_run30 : runKM Try.prog [eFinite, eAbs, eBehind, eSine, eNaN] [] [] (G := anyW) [] noRule Try.f104 [.c (.fl .f64 (some 4603550995497091072))] [] = some (.c (.cx .f32 (some 3209826350) (some 3205648855))) := by kernel_rfl
theorem ph_run31 : runKM Try.prog [eFinite, eAbs, eBehind, eSine, eNaN] [] [] (G := anyW) [] noRule Try.f104 [.c (.fl .f64 (some 4603730187975131136))] [] = some (.c (.cx .f32 (some 3208523407) (some 3207290396))) := by kernel_rfl
theorem ph_run32 : runKM Try.prog [eFinite, eAbs, eBehind, eSine, eNaN] [] [] (G := anyW) [] noRule Try.f104 [.c (.fl .f64 (some 4603909380453171200))] [] = some (.c (.cx .f32 (some 3207025970) (some 3208756685))) := by kernel_rfl
theorem ph_run33 : runKM Try.prog [eFinite, eAbs, eBehind, eSine, eNaN] [] [] (G := anyW) [] noRule Try.f104 [.c (.fl .f64 (some 9223372036854775808))] [] = some (.c (.cx .f32 (some 1065353216) (some 2147483648))) := by kernel_rfl
theorem ph_run34 : runKM Try.prog [eFinite, eAbs, eBehind, eSine, eNaN] [] [] (G := anyW) [] noRule Try.f104 [.c (.fl .f64 (some 13804763419171094528))] [] = some (.c (.cx .f32 (some 1065222315) (some 3187627383))) := by kernel_rfl
theorem ph_run35 : runKM Try.prog [eFinite, eAbs, eBehind, eSine, eNaN] [] [] (G := anyW) [] noRule Try.f104 [.c (.fl .f64 (some 13809267018798465024))] [] = some (.c (.cx .f32 (some 1064831653) (some 3195885430))) := by kernel_rfl
theorem ph_run36 : runKM Try.prog [eFinite, eAbs, eBehind, eSine, eNaN] [] [] (G := anyW) [] noRule Try.f104 [.c (.fl .f64 (some 13812134099520847872))] [] = some (.c (.cx .f32 (some 1064187327) (some 3199961107))) := by kernel_rfl
theorem ph_run37 : runKM Try.prog [eFinite, eAbs, eBehind, eSine, eNaN] [] [] (G := anyW) [] noRule Try.f104 [.c (.fl .f64 (some 13813770618425835520))] [] = some (.c (.cx .f32 (some 1063299392) (some 3203757891))) := by kernel_rfl
theorem ph_run38 : runKM Try.prog [eFinite, eAbs, eBehind, eSine, eNaN] [] [] (G := anyW) [] noRule Try.f104 [.c (.fl .f64 (some 13815204158787026944))] [] = some (.c (.cx .f32 (some 1062181704) (some 3205875951))) := by kernel_rfl
theorem ph_run39 : runKM Try.prog [eFinite, eAbs, eBehind, eSine, eNaN] [] [] (G := anyW) [] noRule Try.f104 [.c (.fl .f64 (some 13816637699148218368))] [] = some (.c (.cx .f32 (some 1060851702) (some 3207495649))) := by kernel_rfl
theorem ph_run40 : runKM Try.prog [eFinite, eAbs, eBehind, eSine, eNaN] [] [] (G := anyW) [] noRule Try.f104 [.c (.fl .f64 (some 13817557448141045760))] [] = some (.c (.cx .f32 (some 1059330143) (some 3208936891))) := by kernel_rfl
theorem ph_run41 : runKM Try.prog [eFinite, eAbs, eBehind, eSine, eNaN] [] [] (G := anyW) [] noRule Try.f104 [.c (.fl .f64 (some 13818274218053206016))] [] = some (.c (.cx .f32 (some 1057640769) (some 3210177188))) := by kernel_rfl
theorem ph_run42 : runKM Try.prog [eFinite, eAbs, eBehind, eSine, eNaN] [] [] (G := anyW) [] noRule Try.f104 [.c (.fl .f64 (some 13818990988502237184))] [] = some (.c (.cx .f32 (some 1054655275) (some 3211197186))) := by kernel_rfl
theorem ph_run43 : runKM Try.prog [eFinite, eAbs, eBehind, eSine, eNaN] [] [] (G := anyW) [] noRule Try.f104 [.c (.fl .f64 (some 13819707758414397440))] [] = some (.c (.cx .f32 (some 1050767856) (some 3211980968))) := by kernel_rfl
theorem ph_run44 : runKM Try.prog [eFinite, eAbs, eBehind, eSine, eNaN] [] [] (G := anyW) [] noRule Try.f104 [.c (.fl .f64 (some 13820424528326557696))] [] = some (.c (.cx .f32 (some 1044854664) (some 3212516302))) := by kernel_rfl
theorem ph_run45 : runKM Try.prog [eFinite, eAbs, eBehind, eSine, eNaN] [] [] (G := anyW) [] noRule Try.f104 [.c (.fl .f64 (some 13821141298775588864))] [] = some (.c (.cx .f32 (some 1032904364) (some 3212794837))) := by kernel_rfl
theorem ph_run46 : runKM Try.prog [eFinite, eAbs, eBehind, eSine, eNaN] [] [] (G := anyW) [] noRule Try.f104 [.c (.fl .f64 (some 13821702662812336128))] [] = some (.c (.cx .f32 (some 3177048291) (some 3212812224))) := by kernel_rfl
theorem ph_run47 : runKM Try.prog [eFinite, eAbs, eBehind, eSine, eNaN] [] [] (G := anyW) [] noRule Try.f104 [.c (.fl .f64 (some 13822061047768416256))] [] = some (.c (.cx .f32 (some 3191244322) (some 3212568193))) := by kernel_rfl
theorem ph_run48 : runKM Try.prog [eFinite, eAbs, eBehind, eSine, eNaN] [] [] (G := anyW) [] noRule Try.f104 [.c (.fl .f64 (some 13822419432724496384))] [] = some (.c (.cx .f32 (some 3197721715) (some 3212066551))) := by kernel_rfl
theorem ph_run49 : runKM Try.prog [eFinite, eAbs, eBehind, eSine, eNaN] [] [] (G := anyW) [] noRule Try.f104 [.c (.fl .f64 (some 13822777817680576512))] [] = some (.c (.cx .f32 (some 3201634608) (some 3211315128))) := by kernel_rfl
theorem ph_run50 : runKM Try.prog [eFinite, eAbs, eBehind, eSine, eNaN] [] [] (G := anyW) [] noRule Try.f104 [.c (.fl .f64 (some 13823136202636656640))] [] = some (.c (.cx .f32 (some 3204888930) (some 3210325648))) := by kernel_rfl
theorem ph_run51 : runKM Try.prog [eFinite, eAbs, eBehind, eSine, eNaN] [] [] (G := anyW) [] noRule Try.f104 [.c (.fl .f64 (some 13823494588129607680))] [] = some (.c (.cx .f32 (some 3206598653) (some 3209113550))) := by kernel_rfl
theorem ph_run52 : runKM Try.prog [eFinite, eAbs, eBehind, eSine, eNaN] [] [] (G := anyW) [] noRule Try.f104 [.c (.fl .f64 (some 13823852973085687808))] [] = some (.c (.cx .f32 (some 3208143915) (some 3207697752))) := by kernel_rfl
theorem ph_run53 : runKM Try.prog [eFinite, eAbs, eBehind, eSine, eNaN] [] [] (G := anyW) [] noRule Try.f104 [.c (.fl .f64 (some 13824211358041767936))] [] = some (.c (.cx .f32 (some 3209500607) (some 3206100345))) := by kernel_rfl
theorem ph_run54 : runKM Try.prog [eFinite, eAbs, eBehind, eSine, eNaN] [] [] (G := anyW) [] noRule Try.f104 [.c (.fl .f64 (some 13824569742997848064))] [] = some (.c (.cx .f32 (some 3210647557) (some 3204244258))) := by kernel_rfl
theorem ph_run55 : runKM Try.prog [eFinite, eAbs, eBehind, eSine, eNaN] [] [] (G := anyW) [] noRule Try.f104 [.c (.fl .f64 (some 13824928127953928192))] [] = some (.c (.cx .f32 (some 3211566868) (some 3200477462))) := by kernel_rfl
theorem ph_run56 : runKM Try.prog [eFinite, eAbs, eBehind, eSine, eNaN] [] [] (G := anyW) [] noRule Try.f104 [.c (.fl .f64 (some 13825286513446879232))] [] = some (.c (.cx .f32 (some 3212244195) (some 3196510820))) := by kernel_rfl
theorem ph_run57 : runKM Try.prog [eFinite, eAbs, eBehind, eSine, eNaN] [] [] (G := anyW) [] noRule Try.f104 [.c (.fl .f64 (some 13825644898402959360))] [] = some (.c (.cx .f32 (some 3212668966) (some 3188752837))) := by kernel_rfl
theorem ph_run58 : runKM Try.prog [eFinite, eAbs, eBehind, eSine, eNaN] [] [] (G := anyW) [] noRule Try.f104 [.c (.fl .f64 (some 13826003283359039488))] [] = some (.c (.cx .f32 (some 3212834555) (some 3163024349))) := by kernel_rfl
theorem ph_run59 : runKM Try.prog [eFinite, eAbs, eBehind, eSine, eNaN] [] [] (G := anyW) [] noRule Try.f104 [.c (.fl .f64 (some 13826206262439706624))] [] = some (.c (.cx .f32 (some 3212738376) (some 1037931892))) := by kernel_rfl
theorem ph_run60 : runKM Try.prog [eFinite, eAbs, eBehind, eSine, eNaN] [] [] (G := anyW) [] noRule Try.f104 [.c (.fl .f64 (some 13826385454917746688))] [] = some (.c (.cx .f32 (some 3212381932) (some 1047320652))) := by kernel_rfl
theorem ph_run61 : runKM Try.prog [eFinite, eAbs, eBehind, eSine, eNaN] [] [] (G := anyW) [] noRule Try.f104 [.c (.fl .f64 (some 13826564647395786752))] [] = some (.c (.cx .f32 (some 3211770784) (some 1051957724))) := by kernel_rfl
theorem ph_run62 : runKM Try.prog [eFinite, eAbs, eBehind, eSine, eNaN] [] [] (G := anyW) [] noRule Try.f104 [.c (.fl .f64 (some 13826743839873826816))] [] = some (.c (.cx .f32 (some 3210914469) (some 1055783450))) := by kernel_rfl
theorem ph_run63 : runKM Try.prog [eFinite, eAbs, eBehind, eSine, eNaN] [] [] (G := anyW) [] noRule Try.f104 [.c (.fl .f64 (some 13826923032351866880))] [] = some (.c (.cx .f32 (some 3209826350) (some 1058165207))) := by kernel_rfl
theorem ph_run64 : runKM Try.prog [eFinite, eAbs, eBehind, eSine, eNaN] [] [] (G := anyW) [] noRule Try.f104 [.c (.fl .f64 (some 13827102224829906944))] [] = some (.c (.cx .f32 (some 3208523407) (some 1059806748))) := by kernel_rfl
theorem ph_run65 : runKM Try.prog [eFinite, eAbs, eBehind, eSine, eNaN] [] [] (G := anyW) [] noRule Try.f104 [.c (.fl .f64 (some 13827281417307947008))] [] = some (.c (.cx .f32 (some 3207025970) (some 1061273037))) := by kernel_rfl
theorem ph_run (x : F64) (h : phIn x = true) : runKM Try.prog [eFinite, eAbs, eBehind, eSine, eNaN] [] [] (G := anyW) [] noRule Try.f104 [.c (.fl .f64 x)] [] = some (.c (.cx .f32 (phX x) (phY x))) := by
  cases x with
  | none => cases h
  | some n =>
    have h1 : ∃ e ∈ phTab, (e.1 == n) = true := by
      have h2 : ((phTab.find? fun e => e.1 == n).map fun e => e.2).isSome = true := h
      rw [Option.isSome_map, List.find?_isSome] at h2
      exact h2
    obtain ⟨e, he, hn⟩ := h1
    have hn' : e.1 = n := by simpa using hn
    subst hn'
    unfold phTab at he
    simp only [List.mem_cons, List.not_mem_nil, or_false] at he
    rcases he with rfl | rfl | rfl | rfl | rfl | rfl | rfl | rfl | rfl | rfl | rfl | rfl | rfl | rfl | rfl | rfl | rfl | rfl | rfl | rfl | rfl | rfl | rfl | rfl | rfl | rfl | rfl | rfl | rfl | rfl | rfl | rfl | rfl | rfl | rfl | rfl | rfl | rfl | rfl | rfl | rfl | rfl | rfl | rfl | rfl | rfl | rfl | rfl | rfl | rfl | rfl | rfl | rfl | rfl | rfl | rfl | rfl | rfl | rfl | rfl | rfl | rfl | rfl | rfl | rfl | rfl
    · exact ph_run0
    · exact ph_run1
    · exact ph_run2
    · exact ph_run3
    · exact ph_run4
    · exact ph_run5
    · exact ph_run6
    · exact ph_run7
    · exact ph_run8
    · exact ph_run9
    · exact ph_run10
    · exact ph_run11
    · exact ph_run12
    · exact ph_run13
    · exact ph_run14
    · exact ph_run15
    · exact ph_run16
    · exact ph_run17
    · exact ph_run18
    · exact ph_run19
    · exact ph_run20
    · exact ph_run21
    · exact ph_run22
    · exact ph_run23
    · exact ph_run24
    · exact ph_run25
    · exact ph_run26
    · exact ph_run27
    · exact ph_run28
    · exact ph_run29
    · exact ph_run30
    · exact ph_run31
    · exact ph_run32
    · exact ph_run33
    · exact ph_run34
    · exact ph_run35
    · exact ph_run36
    · exact ph_run37
    · exact ph_run38
    · exact ph_run39
    · exact ph_run40
    · exact ph_run41
    · exact ph_run42
    · exact ph_run43
    · exact ph_run44
    · exact ph_run45
    · exact ph_run46
    · exact ph_run47
    · exact ph_run48
    · exact ph_run49
    · exact ph_run50
    · exact ph_run51
    · exact ph_run52
    · exact ph_run53
    · exact ph_run54
    · exact ph_run55
    · exact ph_run56
    · exact ph_run57
    · exact ph_run58
    · exact ph_run59
    · exact ph_run60
    · exact ph_run61
    · exact ph_run62
    · exact ph_run63
    · exact ph_run64
    · exact ph_run65
def ePhasor : Entry Try.prog := { f := 104, fn := shD fun x => (phIn x, .c (.cx .f32 (phX x) (phY x))), ok := okMD Try.func104 (by kernel_rfl) noRule_far (loopsOk_none 0 _) fun x h => ph_run x h }
-- products
def mRe (x y c d : F32) : F64 := widen x * widen c - widen y * widen d
def mIm (x y c d : F32) : F64 := widen x * widen d + widen y * widen c
def mFit (x y c d : F32) : Bool := fits (mRe x y c d) && fits (mIm x y c d)
theorem mul_raw (x y c d : F32) : runKM Try.prog [eParts] [137] [] (G := anyW) [] noRule Try.f106 [.c (.cx .f32 x y), .c (.cx .f32 c d)] [] = bif fits (mRe x y c d) then bif fits (mIm x y c d) then some (.c (.cx .f32 (narrow (mRe x y c d)) (narrow (mIm x y c d)))) else none else none := by kernel_rfl
theorem mul_run (x y c d : F32) (h : mFit x y c d = true) : runKM Try.prog [eParts] [137] [] (G := anyW) [] noRule Try.f106 [.c (.cx .f32 x y), .c (.cx .f32 c d)] [] = some (.c (.cx .f32 (narrow (mRe x y c d)) (narrow (mIm x y c d)))) := by
  unfold mFit at h
  rw [Bool.and_eq_true] at h
  rw [mul_raw, h.1, h.2]; rfl
theorem okMCC {P : Program} {E : List (Entry P)} {I : List FuncId} {N : List (EntryN P)} {lp : LoopRule} {f : FuncId} {fn : Func} {g : F32 → F32 → F32 → F32 → Bool × AV} (hf : P.funcs[f]? = some fn) (hn : (fn.name == "runtime.NumGoroutine") = false)
    (hfar : ∀ j, farOff ≤ j → ∀ F M, lp j F M = none) (hl : LoopsOk P 0 anyW lp 0 (fn.body.getD .skip))
    (h : ∀ x y c d, (g x y c d).1 = true → runKM P E I N (G := anyW) [] lp fn [.c (.cx .f32 x y), .c (.cx .f32 c d)] [] = some (g x y c d).2) : EOk P f (shCC g) := okMG hf hn hfar hl (by
  intro args M q h'
  unfold shCC at h'
  split at h'
  · rename_i x y c d
    have h1 := Option.some.inj h'
    have h2 := h x y c d (by rw [h1])
    rw [h1] at h2
    exact ⟨rfl, h2⟩
  · cases h')
def eMulC : Entry Try.prog := { f := 106, fn := shCC fun x y c d => (mFit x y c d, .c (.cx .f32 (narrow (mRe x y c d)) (narrow (mIm x y c d)))), ok := okMCC (E := [eParts]) (I := [137]) Try.func106 (by kernel_rfl) noRule_far (loopsOk_none 0 _) fun x y c d h => mul_run x y c d h }
-- frames
def eCarried : Entry Try.prog := { f := 107, fn := shC fun x y => rC (-y) x, ok := okC (E := []) Try.func107 (by kernel_rfl) fun x y _ => by kernel_rfl }
def shShS (g : Sh → F32 → Bool × AV) : List AV → List (List AC) → Option (Bool × AV)
  | [.agg [.cx .f32 x y, .cx .f32 u v], .c (.fl .f32 t)], _ => some (g ⟨x, y, u, v⟩ t)
  | _, _ => none
def tau32 : F32 := c32 1086918619
def argI (t : F32) : F64 := widen (-(t / tau32))
def argO (t : F32) : F64 := widen (t / tau32)
/-- A ship turned by c, d; its speed in the frame is a, b. -/
def trS (p : Sh) (a b c d : F32) : Sh := ⟨narrow (mRe p.x p.y c d), narrow (mIm p.x p.y c d), narrow (mRe a b c d), narrow (mIm a b c d)⟩
def tiS (p : Sh) (t : F32) : Sh := trS p (p.u - (-p.y)) (p.v - p.x) (phX (argI t)) (phY (argI t))
def toS (p : Sh) (t : F32) : Sh := trS p (p.u + (-p.y)) (p.v + p.x) (phX (argO t)) (phY (argO t))
def tiQ (p : Sh) (t : F32) : Bool := p.fin && (finS t && (phIn (argI t) && (mFit p.x p.y (phX (argI t)) (phY (argI t)) && (mFit (p.u - (-p.y)) (p.v - p.x) (phX (argI t)) (phY (argI t)) && (tiS p t).fin))))
def toQ (p : Sh) (t : F32) : Bool := p.fin && (finS t && (phIn (argO t) && (mFit p.x p.y (phX (argO t)) (phY (argO t)) && (mFit (p.u + (-p.y)) (p.v + p.x) (phX (argO t)) (phY (argO t)) && (toS p t).fin))))
theorem turnIn_raw (p : Sh) (t : F32) : runKM Try.prog [eVShip, eIsFinite, ePhasor, eMulC, eLess, eCarried, eToldShip] [] [] (G := anyW) [] noRule Try.f50 [p.agg, .c (.fl .f32 t)] [] =
    bif !p.fin then some (.tup [.two (c32 0) (c32 0) (c32 0) (c32 0), .sb false]) else bif !(isFinite t) then some (.tup [.two (c32 0) (c32 0) (c32 0) (c32 0), .sb false]) else
    bif phIn (argI t) then bif mFit p.x p.y (phX (argI t)) (phY (argI t)) then bif mFit (p.u - (-p.y)) (p.v - p.x) (phX (argI t)) (phY (argI t)) then bif (tiS p t).fin then some (.tup [(tiS p t).two, .sb true]) else none else none else none else none := by kernel_rfl
theorem turnOut_raw (p : Sh) (t : F32) : runKM Try.prog [eVShip, eIsFinite, ePhasor, eMulC, ePlus, eCarried, eToldShip] [] [] (G := anyW) [] noRule Try.f51 [p.agg, .c (.fl .f32 t)] [] =
    bif !p.fin then some (.tup [.two (c32 0) (c32 0) (c32 0) (c32 0), .sb false]) else bif !(isFinite t) then some (.tup [.two (c32 0) (c32 0) (c32 0) (c32 0), .sb false]) else
    bif phIn (argO t) then bif mFit p.x p.y (phX (argO t)) (phY (argO t)) then bif mFit (p.u + (-p.y)) (p.v + p.x) (phX (argO t)) (phY (argO t)) then bif (toS p t).fin then some (.tup [(toS p t).two, .sb true]) else none else none else none else none := by kernel_rfl
theorem turnIn_run (p : Sh) (t : F32) (h : tiQ p t = true) : runKM Try.prog [eVShip, eIsFinite, ePhasor, eMulC, eLess, eCarried, eToldShip] [] [] (G := anyW) [] noRule Try.f50 [p.agg, .c (.fl .f32 t)] [] = some (.tup [(tiS p t).two, .sb true]) := by
  unfold tiQ at h
  simp only [Bool.and_eq_true] at h
  obtain ⟨h1, h2, h3, h4, h5, h6⟩ := h
  rw [turnIn_raw, h1, fin_isFinite, h2, h3, h4, h5, h6]; rfl
def eTurnIn : Entry Try.prog := { f := 50, fn := shShS fun p t => (tiQ p t, .tup [(tiS p t).two, .sb true]), ok := okMG (E := [eVShip, eIsFinite, ePhasor, eMulC, eLess, eCarried, eToldShip]) Try.func50 (by kernel_rfl) noRule_far (loopsOk_none 0 _) (by
  intro args M q h
  unfold shShS at h
  split at h
  · rename_i x y u v t
    simp only [Option.some.injEq, Prod.mk.injEq] at h
    obtain ⟨h1, rfl⟩ := h
    exact ⟨rfl, turnIn_run ⟨x, y, u, v⟩ t h1⟩
  · cases h) }
theorem turnOut_run (p : Sh) (t : F32) (h : toQ p t = true) : runKM Try.prog [eVShip, eIsFinite, ePhasor, eMulC, ePlus, eCarried, eToldShip] [] [] (G := anyW) [] noRule Try.f51 [p.agg, .c (.fl .f32 t)] [] = some (.tup [(toS p t).two, .sb true]) := by
  unfold toQ at h
  simp only [Bool.and_eq_true] at h
  obtain ⟨h1, h2, h3, h4, h5, h6⟩ := h
  rw [turnOut_raw, h1, fin_isFinite, h2, h3, h4, h5, h6]; rfl
def eTurnOut : Entry Try.prog := { f := 51, fn := shShS fun p t => (toQ p t, .tup [(toS p t).two, .sb true]), ok := okMG (E := [eVShip, eIsFinite, ePhasor, eMulC, ePlus, eCarried, eToldShip]) Try.func51 (by kernel_rfl) noRule_far (loopsOk_none 0 _) (by
  intro args M q h
  unfold shShS at h
  split at h
  · rename_i x y u v t
    simp only [Option.some.injEq, Prod.mk.injEq] at h
    obtain ⟨h1, rfl⟩ := h
    exact ⟨rfl, turnOut_run ⟨x, y, u, v⟩ t h1⟩
  · cases h) }
-- mirrors
def mir (p : Sh) : Sh := ⟨p.x, -p.y, -p.u, p.v⟩
theorem mirror_raw (p : Sh) : runKM Try.prog [eConj, eToldShip] [] [] (G := anyW) [] noRule Try.f52 [p.agg] [] = bif (mir p).fin then some (.tup [(mir p).two, .sb true]) else none := by kernel_rfl
theorem mirror_run (p : Sh) (h : (mir p).fin = true) : runKM Try.prog [eConj, eToldShip] [] [] (G := anyW) [] noRule Try.f52 [p.agg] [] = some (.tup [(mir p).two, .sb true]) := by rw [mirror_raw, h]; rfl
def eMirror : Entry Try.prog := { f := 52, fn := shSh1 fun p => ((mir p).fin, .tup [(mir p).two, .sb true]), ok := okMG (E := [eConj, eToldShip]) Try.func52 (by kernel_rfl) noRule_far (loopsOk_none 0 _) (by
  intro args M q h
  unfold shSh1 at h
  split at h
  · rename_i x y u v
    simp only [Option.some.injEq, Prod.mk.injEq] at h
    obtain ⟨h1, rfl⟩ := h
    exact ⟨rfl, mirror_run ⟨x, y, u, v⟩ h1⟩
  · cases h) }
-- same ships
def sgB (x : F64) : Bool := match x with
  | some r => decide (IntKind.i64.wrap (r : Int) < 0)
  | none => false
theorem sign_raw (b : Nat) : run Try.prog [eBitsV] Try.f143 [.c (.val (.float .f64 b))] [] = some (.c (.sb (decide (IntKind.i64.wrap (b : Int) < 0)))) := by kernel_rfl
theorem eSign_ok : EOk Try.prog 143 (shD fun x => (x.isSome, .c (.sb (sgB x)))) := by
  intro args M q hr σ vs w _ ha
  unfold shD at hr
  split at hr
  · rename_i x
    simp only [Option.some.injEq, Prod.mk.injEq] at hr
    obtain ⟨h1, rfl⟩ := hr
    cases x with
    | none => cases h1
    | some r =>
      cases ha with
      | cons h2 h3 =>
        cases h3
        obtain ⟨t, rfl, hw⟩ := h2
        exact gives0 (E := [eBitsV]) Try.func143 (by kernel_rfl) rfl (sign_raw r) (vs := [.float .f64 (B (some r : F64) t)]) (.cons rfl .nil)
  · cases hr
def eSign : Entry Try.prog := { f := 143, fn := shD fun x => (x.isSome, .c (.sb (sgB x))), ok := eSign_ok }
def smN (a b : F32) : Bool := bif (ne a a || ne b b) then (ne a a && ne b b) else (eq a b && (sgB (widen a) == sgB (widen b)))
def smQ (a b : F32) : Bool := (widen a).isSome && (widen b).isSome
theorem smN_raw (a b : F32) : runKM Try.prog [eSign] [] [] (G := anyW) [] noRule Try.f138 [.c (.fl .f32 a), .c (.fl .f32 b)] [] =
    bif ne a a then (bif ne a a then some (.c (.sb (ne b b))) else some (.c (.sb false))) else bif ne b b then (bif ne a a then some (.c (.sb (ne b b))) else some (.c (.sb false))) else bif eq a b then bif (widen a).isSome then bif (widen b).isSome then some (.c (.sb (sgB (widen a) == sgB (widen b)))) else none else none else some (.c (.sb false)) := by kernel_rfl
theorem smN_run (a b : F32) (h : smQ a b = true) : runKM Try.prog [eSign] [] [] (G := anyW) [] noRule Try.f138 [.c (.fl .f32 a), .c (.fl .f32 b)] [] = some (.c (.sb (smN a b))) := by
  unfold smQ at h
  rw [Bool.and_eq_true] at h
  rw [smN_raw, h.1, h.2]
  unfold smN
  cases ne a a <;> cases ne b b <;> cases eq a b <;> rfl
def eSmN : Entry Try.prog := { f := 138, fn := shSS fun a b => (smQ a b, .c (.sb (smN a b))), ok := okMG (E := [eSign]) Try.func138 (by kernel_rfl) noRule_far (loopsOk_none 0 _) (by
  intro args M q h
  unfold shSS at h
  split at h
  · rename_i a b
    simp only [Option.some.injEq, Prod.mk.injEq] at h
    obtain ⟨h1, rfl⟩ := h
    exact ⟨rfl, smN_run a b h1⟩
  · cases h) }
theorem smC_raw (a b c d : F32) : runKM Try.prog [eSmN] [] [] (G := anyW) [] noRule Try.f112 [.c (.cx .f32 a b), .c (.cx .f32 c d)] [] = bif smQ a c then bif smN a c then bif smQ b d then some (.c (.sb (smN b d))) else none else some (.c (.sb false)) else none := by kernel_rfl
theorem smC_run (a b c d : F32) (h : (smQ a c && smQ b d) = true) : runKM Try.prog [eSmN] [] [] (G := anyW) [] noRule Try.f112 [.c (.cx .f32 a b), .c (.cx .f32 c d)] [] = some (.c (.sb (smN a c && smN b d))) := by
  rw [Bool.and_eq_true] at h
  rw [smC_raw, h.1, h.2]
  cases smN a c <;> rfl
def eSmC : Entry Try.prog := { f := 112, fn := shCC fun a b c d => (smQ a c && smQ b d, .c (.sb (smN a c && smN b d))), ok := okMCC (E := [eSmN]) Try.func112 (by kernel_rfl) noRule_far (loopsOk_none 0 _) fun a b c d h => smC_run a b c d h }
def smSh (p q : Sh) : Bool := (smN p.x q.x && smN p.y q.y) && (smN p.u q.u && smN p.v q.v)
def smShQ (p q : Sh) : Bool := (smQ p.x q.x && smQ p.y q.y) && (smQ p.u q.u && smQ p.v q.v)
theorem smSh_raw (p q : Sh) : runKM Try.prog [eSmC] [] [] (G := anyW) [] noRule Try.f55 [p.agg, q.agg] [] = bif smQ p.x q.x && smQ p.y q.y then bif smN p.x q.x && smN p.y q.y then bif smQ p.u q.u && smQ p.v q.v then some (.c (.sb (smN p.u q.u && smN p.v q.v))) else none else some (.c (.sb false)) else none := by kernel_rfl
theorem smSh_run (p q : Sh) (h : smShQ p q = true) : runKM Try.prog [eSmC] [] [] (G := anyW) [] noRule Try.f55 [p.agg, q.agg] [] = some (.c (.sb (smSh p q))) := by
  unfold smShQ at h
  rw [Bool.and_eq_true] at h
  rw [smSh_raw, h.1, h.2]
  unfold smSh
  cases (smN p.x q.x && smN p.y q.y) <;> rfl
def eSameShip : Entry Try.prog := { f := 55, fn := shShSh fun p q => (smShQ p q, .c (.sb (smSh p q))), ok := okMG (E := [eSmC]) Try.func55 (by kernel_rfl) noRule_far (loopsOk_none 0 _) (by
  intro args M q h
  unfold shShSh at h
  split at h
  · rename_i x y u v a b c d
    simp only [Option.some.injEq, Prod.mk.injEq] at h
    obtain ⟨h1, rfl⟩ := h
    exact ⟨rfl, smSh_run ⟨x, y, u, v⟩ ⟨a, b, c, d⟩ h1⟩
  · cases h) }
end Go.Proofs.Ytlpahmefebgdlaa.Fx
/- The law FnShips: turned frames; a step without a tick. No condition. -/
namespace Go.Proofs.Ytlpahmefebgdlaa.Fx
open Go Nr Ieee

/-- A product of complex numbers. -/
theorem mulc_has {x y c d : F32} {X Y C S : Rat} (hx : HasS x X) (hy : HasS y Y) (hc : HasS c C) (hd : HasS d S) (x1 : -5 ≤ X) (x2 : X ≤ 5) (y1 : -5 ≤ Y) (y2 : Y ≤ 5) (c1 : -(101 / 100) ≤ C) (c2 : C ≤ 101 / 100) (d1 : -(101 / 100) ≤ S) (d2 : S ≤ 101 / 100) (hA : X * C - Y * S ≤ 7) (hA' : -7 ≤ X * C - Y * S) (hB : X * S + Y * C ≤ 7) (hB' : -7 ≤ X * S + Y * C) :
    mFit x y c d = true ∧ ∃ A B, HasS (narrow (mRe x y c d)) A ∧ HasS (narrow (mIm x y c d)) B ∧ A - (X * C - Y * S) ≤ 1 / 1000000 ∧ -(1 / 1000000) ≤ A - (X * C - Y * S) ∧ B - (X * S + Y * C) ≤ 1 / 1000000 ∧ -(1 / 1000000) ≤ B - (X * S + Y * C) := by
  have e3 : (2 : Rat) ^ (3 : Int) = 8 := by decide +kernel
  have e4 : (2 : Rat) ^ ((3 : Int) - 53) = 1 / 1125899906842624 := by decide +kernel
  have e5 : (2 : Rat) ^ ((3 : Int) - 24) = 1 / 2097152 := by decide +kernel
  have m1 := ab_mul x1 x2 c1 c2
  have m2 := ab_mul y1 y2 d1 d2
  have m3 := ab_mul x1 x2 d1 d2
  have m4 := ab_mul y1 y2 c1 c2
  obtain ⟨p1, h1, a1, b1⟩ := mul_has (E := 3) (widen_has hx) (widen_has hc) (by rw [e3]; grind) (by rw [e3]; grind) (by decide) (by decide)
  obtain ⟨p2, h2, a2, b2⟩ := mul_has (E := 3) (widen_has hy) (widen_has hd) (by rw [e3]; grind) (by rw [e3]; grind) (by decide) (by decide)
  obtain ⟨p3, h3, a3, b3⟩ := mul_has (E := 3) (widen_has hx) (widen_has hd) (by rw [e3]; grind) (by rw [e3]; grind) (by decide) (by decide)
  obtain ⟨p4, h4, a4, b4⟩ := mul_has (E := 3) (widen_has hy) (widen_has hc) (by rw [e3]; grind) (by rw [e3]; grind) (by decide) (by decide)
  rw [e4] at a1 b1 a2 b2 a3 b3 a4 b4
  generalize X * C = XC at *
  generalize Y * S = YS at *
  generalize X * S = XS at *
  generalize Y * C = YC at *
  obtain ⟨p, hp, p5, p6⟩ := sub_has (E := 3) h1 h2 (by rw [e3]; grind) (by rw [e3]; grind) (by decide) (by decide)
  obtain ⟨q, hq, q5, q6⟩ := add_has (E := 3) h3 h4 (by rw [e3]; grind) (by rw [e3]; grind) (by decide) (by decide)
  rw [e4] at p5 p6 q5 q6
  obtain ⟨f1, A, hA, A1, A2⟩ := narrow_has (E := 3) hp (by rw [e3]; grind) (by rw [e3]; grind) (by decide) (by decide)
  obtain ⟨f2, B, hB, B1, B2⟩ := narrow_has (E := 3) hq (by rw [e3]; grind) (by rw [e3]; grind) (by decide) (by decide)
  rw [e5] at A1 A2 B1 B2
  refine ⟨?_, A, B, hA, hB, by grind, by grind, by grind, by grind⟩
  unfold mFit
  have : fits (mRe x y c d) = true := f1
  rw [this]
  have : fits (mIm x y c d) = true := f2
  rw [this]; rfl
/-- What is turned and turned back. -/
theorem rot_back {X Y C S C' S' A B t : Rat} (x1 : -4 ≤ X) (x2 : X ≤ 4) (y1 : -4 ≤ Y) (y2 : Y ≤ 4) (c1 : -(101 / 100) ≤ C) (c2 : C ≤ 101 / 100) (d1 : -(101 / 100) ≤ S) (d2 : S ≤ 101 / 100) (g1 : -6 ≤ A) (g2 : A ≤ 6) (g3 : -6 ≤ B) (g4 : B ≤ 6)
    (a1 : A - (X * C - Y * S) ≤ t) (a2 : -t ≤ A - (X * C - Y * S)) (b1 : B - (X * S + Y * C) ≤ t) (b2 : -t ≤ B - (X * S + Y * C)) (e1 : C * C + S * S - 1 ≤ 1 / 1000000) (e2 : -(1 / 1000000) ≤ C * C + S * S - 1)
    (f1 : C' - C ≤ 1 / 1000000) (f2 : -(1 / 1000000) ≤ C' - C) (f3 : S' + S ≤ 1 / 1000000) (f4 : -(1 / 1000000) ≤ S' + S) :
    A * C' - B * S' - X ≤ 1 / 50000 + 3 * t ∧ -(1 / 50000 + 3 * t) ≤ A * C' - B * S' - X ∧ A * S' + B * C' - Y ≤ 1 / 50000 + 3 * t ∧ -(1 / 50000 + 3 * t) ≤ A * S' + B * C' - Y := by
  have t0 : 0 ≤ t := by grind
  have m1 := ab_mul x1 x2 e2 e1
  have m2 := ab_mul y1 y2 e2 e1
  have m3 := ab_mul a2 a1 c1 c2
  have m4 := ab_mul b2 b1 d1 d2
  have m5 := ab_mul a2 a1 d1 d2
  have m6 := ab_mul b2 b1 c1 c2
  have m7 := ab_mul g1 g2 f2 f1
  have m8 := ab_mul g3 g4 f4 f3
  have m9 := ab_mul g1 g2 f4 f3
  have m10 := ab_mul g3 g4 f2 f1
  have i1 : A * C' - B * S' - X = X * (C * C + S * S - 1) + (A - (X * C - Y * S)) * C + (B - (X * S + Y * C)) * S + A * (C' - C) - B * (S' + S) := by grind
  have i2 : A * S' + B * C' - Y = Y * (C * C + S * S - 1) - (A - (X * C - Y * S)) * S + (B - (X * S + Y * C)) * C + A * (S' + S) + B * (C' - C) := by grind
  rw [i1, i2]
  generalize X * (C * C + S * S - 1) = n1 at *
  generalize Y * (C * C + S * S - 1) = n2 at *
  generalize (A - (X * C - Y * S)) * C = n3 at *
  generalize (B - (X * S + Y * C)) * S = n4 at *
  generalize (A - (X * C - Y * S)) * S = n5 at *
  generalize (B - (X * S + Y * C)) * C = n6 at *
  generalize A * (C' - C) = n7 at *
  generalize B * (S' + S) = n8 at *
  generalize A * (S' + S) = n9 at *
  generalize B * (C' - C) = n10 at *
  clear a1 a2 b1 b2 e1 e2 i1 i2
  refine ⟨by grind, by grind, by grind, by grind⟩
/-- A phasor's worth, and the opposite one's. -/
structure Ph (t : F32) (C S C' S' : Rat) : Prop where
  fin : finS t = true
  i1 : phIn (argI t) = true
  i2 : phIn (argO t) = true
  c : HasS (phX (argI t)) C
  s : HasS (phY (argI t)) S
  c' : HasS (phX (argO t)) C'
  s' : HasS (phY (argO t)) S'
  e1 : C * C + S * S - 1 ≤ 1 / 1000000
  e2 : -(1 / 1000000) ≤ C * C + S * S - 1
  f1 : C' - C ≤ 1 / 1000000
  f2 : -(1 / 1000000) ≤ C' - C
  f3 : S' + S ≤ 1 / 1000000
  f4 : -(1 / 1000000) ≤ S' + S
theorem near_small {x y x' y' : F32} {a b a' b' : Rat} (hx : HasS x a) (hy : HasS y b) (hx' : HasS x' a') (hy' : HasS y' b') (x1 : a - a' ≤ 1 / 20000) (x2 : -(1 / 20000) ≤ a - a') (y1 : b - b' ≤ 1 / 20000) (y2 : -(1 / 20000) ≤ b - b') :
    fits (longF (x - x') (y - y')) = true ∧ gt (widen (long (x - x') (y - y'))) (c64 4562254508917369340) = false := by
  obtain ⟨c, hc, c1, c2⟩ := subE (-5) (1 / 32) (1 / 536870912) (by decide +kernel) (by decide +kernel) (by decide) (by decide) hx hx' (by grind) (by grind)
  obtain ⟨d, hd, d1, d2⟩ := subE (-5) (1 / 32) (1 / 536870912) (by decide +kernel) (by decide +kernel) (by decide) (by decide) hy hy' (by grind) (by grind)
  have s1 := (sq_le (a := c) (B := 51 / 1000000) (by grind) (by grind)).2
  have s2 := (sq_le (a := d) (B := 51 / 1000000) (by grind) (by grind)).2
  obtain ⟨hf, R, hR, R1, R2⟩ := long_up (B := 1 / 10000) hc hd (by grind) (by grind) (by grind) (by grind) (by grind) (by grind)
  have hcc : Has (c64 4562254508917369340) (1152921504606847 / 1152921504606846976) := ⟨false, 4611686018427388, -62, ⟨4562254508917369340, rfl, by decide⟩, by decide +kernel⟩
  refine ⟨hf, ?_⟩
  rw [gt_has (widen_has hR) hcc]
  exact decide_eq_false (by grind)
/-- A distance that is not small. -/
theorem long_mid {x y : F32} {a b : Rat} (hx : HasS x a) (hy : HasS y b) (a1 : -4 ≤ a) (a2 : a ≤ 4) (b1 : -4 ≤ b) (b2 : b ≤ 4) (h1 : 1 / 100 ≤ a * a + b * b) (h2 : a * a + b * b ≤ 16) :
    fits (longF x y) = true ∧ ∃ R, HasS (long x y) R ∧ 9 / 100 ≤ R ∧ R ≤ 5 ∧ R * R ≤ a * a + b * b + 1 / 100000 ∧ a * a + b * b ≤ R * R + 1 / 100000 := by
  obtain ⟨s1, s2⟩ := sq_le a1 a2
  obtain ⟨t1, t2⟩ := sq_le b1 b2
  have e1 : (2 : Rat) ^ (5 : Int) = 32 := by decide +kernel
  have e2 : (2 : Rat) ^ ((5 : Int) - 53) = 1 / 281474976710656 := by decide +kernel
  obtain ⟨p, hp, p1, p2⟩ := mul_has (E := 5) (widen_has hx) (widen_has hx) (by rw [e1]; grind) (by rw [e1]; grind) (by decide) (by decide)
  obtain ⟨q, hq, q1, q2⟩ := mul_has (E := 5) (widen_has hy) (widen_has hy) (by rw [e1]; grind) (by rw [e1]; grind) (by decide) (by decide)
  rw [e2] at p1 p2 q1 q2
  generalize a * a = A at *
  generalize b * b = C at *
  obtain ⟨r, hr, r1, r2⟩ := add_has (E := 5) hp hq (by rw [e1]; grind) (by rw [e1]; grind) (by decide) (by decide)
  rw [e2] at r1 r2
  have e5 : (2 : Rat) ^ (2 * (3 : Int)) = 64 := by decide +kernel
  have e6 : (2 : Rat) ^ (2 * (3 : Int) - 49) = 1 / 8796093022208 := by decide +kernel
  obtain ⟨w, hw, w0, w1, w2⟩ := sqrt_has (E := 3) hr (by grind) (by rw [e5]; grind) (by decide) (by decide)
  rw [e6] at w1 w2
  have w3 : w ≤ 41 / 10 := sq_le_sq (by grind) (by grind)
  have w4 : 91 / 1000 ≤ w := sq_le_sq w0 (by grind)
  have e7 : (2 : Rat) ^ (3 : Int) = 8 := by decide +kernel
  have e8 : (2 : Rat) ^ ((3 : Int) - 24) = 1 / 2097152 := by decide +kernel
  obtain ⟨hf, R, hR, R1, R2⟩ := narrow_has (E := 3) hw (by rw [e7]; grind) (by rw [e7]; grind) (by decide) (by decide)
  rw [e8] at R1 R2
  refine ⟨hf, R, hR, by grind, by grind, ?_, ?_⟩
  · have k : (R - w) * (R + w) ≤ 1 / 2097152 * (R + w) := Rat.mul_le_mul_of_nonneg_right (by grind) (by grind)
    have f : (R - w) * (R + w) = R * R - w * w := by grind
    rw [f] at k
    generalize R * R = RR at *
    generalize w * w = ww at *
    grind
  · have k : (w - R) * (R + w) ≤ 1 / 2097152 * (R + w) := Rat.mul_le_mul_of_nonneg_right (by grind) (by grind)
    have f : (w - R) * (R + w) = w * w - R * R := by grind
    rw [f] at k
    generalize R * R = RR at *
    generalize w * w = ww at *
    grind
/-- All that the law's run asks of frames. -/
structure FrOk (p : Sh) (t : F32) : Prop where
  ti : tiQ p t = true
  to : toQ (tiS p t) t = true
  at_ : fits (longF ((toS (tiS p t) t).x - p.x) ((toS (tiS p t) t).y - p.y)) = true ∧ gt (widen (long ((toS (tiS p t) t).x - p.x) ((toS (tiS p t) t).y - p.y))) (c64 4562254508917369340) = false
  sp : fits (longF ((toS (tiS p t) t).u - p.u) ((toS (tiS p t) t).v - p.v)) = true ∧ gt (widen (long ((toS (tiS p t) t).u - p.u) ((toS (tiS p t) t).v - p.v))) (c64 4562254508917369340) = false
  l1 : fits (longF (tiS p t).x (tiS p t).y) = true
  l2 : fits (longF p.x p.y) = true
  gap : gt (gapN (widen (long (tiS p t).x (tiS p t).y)) (widen (long p.x p.y))) (c64 4562254508917369340) = false
theorem abs_sq {a b : Rat} (hb : 0 ≤ b) (h : a * a ≤ b * b) : -b ≤ a ∧ a ≤ b := by
  constructor
  · have h2 : -a * -a ≤ b * b := by have : -a * -a = a * a := by grind
                                    rw [this]; exact h
    have := sq_le_sq hb h2
    grind
  · exact sq_le_sq hb h
theorem cs_bd {C S : Rat} (e1 : C * C + S * S - 1 ≤ 1 / 1000000) : (-(1001 / 1000) ≤ C ∧ C ≤ 1001 / 1000) ∧ (-(1001 / 1000) ≤ S ∧ S ≤ 1001 / 1000) := by
  have cc := sq_nonneg C
  have ss := sq_nonneg S
  exact ⟨abs_sq (by grind) (by grind), abs_sq (by grind) (by grind)⟩
theorem rot_bd {C S a b A B : Rat} (cb : -(1001 / 1000) ≤ C ∧ C ≤ 1001 / 1000) (sb : -(1001 / 1000) ≤ S ∧ S ≤ 1001 / 1000) (h1 : -A ≤ a) (h2 : a ≤ A) (h3 : -B ≤ b) (h4 : b ≤ B) : (a * C - b * S ≤ 1001 / 1000 * (A + B) ∧ -(1001 / 1000 * (A + B)) ≤ a * C - b * S) ∧ (a * S + b * C ≤ 1001 / 1000 * (A + B) ∧ -(1001 / 1000 * (A + B)) ≤ a * S + b * C) := by
  have m1 := ab_mul h1 h2 cb.1 cb.2
  have m2 := ab_mul h3 h4 sb.1 sb.2
  have m3 := ab_mul h1 h2 sb.1 sb.2
  have m4 := ab_mul h3 h4 cb.1 cb.2
  generalize a * C = n1 at *
  generalize b * S = n2 at *
  generalize a * S = n3 at *
  generalize b * C = n4 at *
  refine ⟨⟨by grind, by grind⟩, ⟨by grind, by grind⟩⟩
/-- A frame turned in. -/
theorem turn_in {p : Sh} {t : F32} {X Y U V C S C' S' : Rat} (hx : HasS p.x X) (hy : HasS p.y Y) (hu : HasS p.u U) (hv : HasS p.v V) (x1 : -2 ≤ X) (x2 : X ≤ 2) (y1 : -2 ≤ Y) (y2 : Y ≤ 2) (u1 : -1 ≤ U) (u2 : U ≤ 1) (v1 : -1 ≤ V) (v2 : V ≤ 1) (ph : Ph t C S C' S') :
    tiQ p t = true ∧ ∃ A B F G, HasG 1 (tiS p t) ⟨A, B, F, G⟩ ∧ (A - (X * C - Y * S) ≤ 1 / 1000000 ∧ -(1 / 1000000) ≤ A - (X * C - Y * S)) ∧ (B - (X * S + Y * C) ≤ 1 / 1000000 ∧ -(1 / 1000000) ≤ B - (X * S + Y * C)) ∧
      (F - B - (U * C - V * S) ≤ 3 / 1000000 ∧ -(3 / 1000000) ≤ F - B - (U * C - V * S)) ∧ (G + A - (U * S + V * C) ≤ 3 / 1000000 ∧ -(3 / 1000000) ≤ G + A - (U * S + V * C)) ∧ (-(41 / 10) ≤ A ∧ A ≤ 41 / 10) ∧ (-(41 / 10) ≤ B ∧ B ≤ 41 / 10) := by
  obtain ⟨hfin, i1, i2, hc, hs, -, -, e1, e2, -, -, -, -⟩ := ph
  obtain ⟨cb, sb⟩ := cs_bd e1
  clear e1 e2 i2
  obtain ⟨⟨p1, p2⟩, ⟨p3, p4⟩⟩ := rot_bd cb sb x1 x2 y1 y2
  obtain ⟨fa, A, B, hA, hB, a1, a2, b1, b2⟩ := mulc_has hx hy hc hs (by grind) (by grind) (by grind) (by grind) (by grind) (by grind) (by grind) (by grind) (by grind) (by grind) (by grind) (by grind)
  have hny := negS_has hy
  obtain ⟨a, ha, a3, a4⟩ := subE 2 4 (1 / 4194304) (by decide +kernel) (by decide +kernel) (by decide) (by decide) hu hny (by grind) (by grind)
  obtain ⟨b, hb, b3, b4⟩ := subE 2 4 (1 / 4194304) (by decide +kernel) (by decide +kernel) (by decide) (by decide) hv hx (by grind) (by grind)
  obtain ⟨⟨q1, q2⟩, ⟨q3, q4⟩⟩ := rot_bd (A := 31 / 10) (B := 31 / 10) (a := a) (b := b) cb sb (by grind) (by grind) (by grind) (by grind)
  obtain ⟨fb, F, G, hF, hG, g1, g2, g3, g4⟩ := mulc_has ha hb hc hs (by grind) (by grind) (by grind) (by grind) (by grind) (by grind) (by grind) (by grind) (by grind) (by grind) (by grind) (by grind)
  have tx : HasS (tiS p t).x A := hA
  have ty : HasS (tiS p t).y B := hB
  have tu : HasS (tiS p t).u F := hF
  have tv : HasS (tiS p t).v G := hG
  have pfin : p.fin = true := by unfold Sh.fin vShip cfin; rw [hasS_fin hx, hasS_fin hy, hasS_fin hu, hasS_fin hv]; rfl
  have tfin : (tiS p t).fin = true := by unfold Sh.fin vShip cfin; rw [hasS_fin tx, hasS_fin ty, hasS_fin tu, hasS_fin tv]; rfl
  refine ⟨by unfold tiQ; rw [pfin, hfin, i1, fa, fb, tfin]; rfl, A, B, F, G, ⟨tx, by rw [Rat.one_mul]; exact ty, by rw [Rat.one_mul]; exact tu, tv⟩, ⟨a1, a2⟩, ⟨b1, b2⟩, ?_, ?_, ?_, ?_⟩
  · have m1 := ab_mul (a := a - (U + Y)) (b := C) (A := 1 / 4194304) (B := 1001 / 1000) (by grind) (by grind) cb.1 cb.2
    have m2 := ab_mul (a := b - (V - X)) (b := S) (A := 1 / 4194304) (B := 1001 / 1000) (by grind) (by grind) sb.1 sb.2
    have e : F - B - (U * C - V * S) = (F - (a * C - b * S)) - (B - (X * S + Y * C)) + (a - (U + Y)) * C - (b - (V - X)) * S := by grind
    rw [e]
    clear e p1 p2 p3 p4 q1 q2 q3 q4 a1 a2 a3 a4 b3 b4 g3 g4
    generalize (a - (U + Y)) * C = z1 at *
    generalize (b - (V - X)) * S = z2 at *
    constructor <;> grind
  · have m3 := ab_mul (a := a - (U + Y)) (b := S) (A := 1 / 4194304) (B := 1001 / 1000) (by grind) (by grind) sb.1 sb.2
    have m4 := ab_mul (a := b - (V - X)) (b := C) (A := 1 / 4194304) (B := 1001 / 1000) (by grind) (by grind) cb.1 cb.2
    have e : G + A - (U * S + V * C) = (G - (a * S + b * C)) + (A - (X * C - Y * S)) + (a - (U + Y)) * S + (b - (V - X)) * C := by grind
    rw [e]
    clear e p1 p2 p3 p4 q1 q2 q3 q4 b1 b2 a3 a4 b3 b4 g1 g2
    generalize (a - (U + Y)) * S = z1 at *
    generalize (b - (V - X)) * C = z2 at *
    constructor <;> grind
  · constructor <;> grind
  · constructor <;> grind
/-- And out again. -/
theorem turn_out {p q : Sh} {t : F32} {X Y U V C S C' S' A B F G : Rat} (hx : HasS p.x X) (hy : HasS p.y Y) (hu : HasS p.u U) (hv : HasS p.v V) (x1 : -2 ≤ X) (x2 : X ≤ 2) (y1 : -2 ≤ Y) (y2 : Y ≤ 2) (u1 : -1 ≤ U) (u2 : U ≤ 1) (v1 : -1 ≤ V) (v2 : V ≤ 1) (ph : Ph t C S C' S')
    (hq : HasG 1 q ⟨A, B, F, G⟩) (hA : A - (X * C - Y * S) ≤ 1 / 1000000 ∧ -(1 / 1000000) ≤ A - (X * C - Y * S)) (hB : B - (X * S + Y * C) ≤ 1 / 1000000 ∧ -(1 / 1000000) ≤ B - (X * S + Y * C))
    (hF : F - B - (U * C - V * S) ≤ 3 / 1000000 ∧ -(3 / 1000000) ≤ F - B - (U * C - V * S)) (hG : G + A - (U * S + V * C) ≤ 3 / 1000000 ∧ -(3 / 1000000) ≤ G + A - (U * S + V * C)) (bA : -(41 / 10) ≤ A ∧ A ≤ 41 / 10) (bB : -(41 / 10) ≤ B ∧ B ≤ 41 / 10) :
    toQ q t = true ∧ (fits (longF ((toS q t).x - p.x) ((toS q t).y - p.y)) = true ∧ gt (widen (long ((toS q t).x - p.x) ((toS q t).y - p.y))) (c64 4562254508917369340) = false) ∧ (fits (longF ((toS q t).u - p.u) ((toS q t).v - p.v)) = true ∧ gt (widen (long ((toS q t).u - p.u) ((toS q t).v - p.v))) (c64 4562254508917369340) = false) := by
  obtain ⟨hfin, i1, i2, -, -, hc', hs', e1, e2, f1, f2, f3, f4⟩ := ph
  obtain ⟨cb, sb⟩ := cs_bd e1
  have tx := hq.x
  have ty := hq.y
  have tu := hq.u
  have tv := hq.v
  rw [Rat.one_mul] at ty tu
  have hnt := negS_has ty
  have r1 := rot_back (t := 1 / 1000000) (by grind) (by grind) (by grind) (by grind) (by grind) (by grind) (by grind) (by grind) (A := A) (B := B) (by grind) (by grind) (by grind) (by grind) hA.1 hA.2 hB.1 hB.2 e1 e2 f1 f2 f3 f4
  obtain ⟨⟨n1, n2⟩, ⟨n3, n4⟩⟩ := rot_bd cb sb u1 u2 v1 v2
  obtain ⟨j, hj, j1, j2⟩ := addE 3 8 (1 / 2097152) (by decide +kernel) (by decide +kernel) (by decide) (by decide) tu hnt (by clear r1 hA hB e1 e2; grind) (by clear r1 hA hB e1 e2; grind)
  obtain ⟨l, hl, l1, l2⟩ := addE 3 8 (1 / 2097152) (by decide +kernel) (by decide +kernel) (by decide) (by decide) tv tx (by clear r1 hA hB e1 e2; grind) (by clear r1 hA hB e1 e2; grind)
  have jb : j - (U * C - V * S) ≤ 4 / 1000000 ∧ -(4 / 1000000) ≤ j - (U * C - V * S) := by clear r1 hA hB e1 e2; constructor <;> grind
  have lb : l - (U * S + V * C) ≤ 4 / 1000000 ∧ -(4 / 1000000) ≤ l - (U * S + V * C) := by clear r1 hA hB e1 e2; constructor <;> grind
  have js : -3 ≤ j ∧ j ≤ 3 := by clear r1 hA hB e1 e2; constructor <;> grind
  have ls : -3 ≤ l ∧ l ≤ 3 := by clear r1 hA hB e1 e2; constructor <;> grind
  clear hA hB hF hG n1 n2 n3 n4 j1 j2 l1 l2
  have r2 := rot_back (X := U) (Y := V) (A := j) (B := l) (t := 4 / 1000000) (by grind) (by grind) (by grind) (by grind) (by grind) (by grind) (by grind) (by grind) (by grind) (by grind) (by grind) (by grind) jb.1 jb.2 lb.1 lb.2 e1 e2 f1 f2 f3 f4
  clear jb lb e1 e2
  obtain ⟨fc, H, I, hH, hI, h1, h2, h3, h4⟩ := mulc_has tx ty hc' hs' (by grind) (by grind) (by grind) (by grind) (by grind) (by grind) (by grind) (by grind) (by grind) (by grind) (by grind) (by grind)
  obtain ⟨fd, K, L, hK, hL, h5, h6, h7, h8⟩ := mulc_has hj hl hc' hs' (by grind) (by grind) (by grind) (by grind) (by grind) (by grind) (by grind) (by grind) (by grind) (by grind) (by grind) (by grind)
  have ox : HasS (toS q t).x H := hH
  have oy : HasS (toS q t).y I := hI
  have ou : HasS (toS q t).u K := hK
  have ov : HasS (toS q t).v L := hL
  have ofin : (toS q t).fin = true := by unfold Sh.fin vShip cfin; rw [hasS_fin ox, hasS_fin oy, hasS_fin ou, hasS_fin ov]; rfl
  have qfin : q.fin = true := hasG_fin hq
  exact ⟨by unfold toQ; rw [qfin, hfin, i2, fc, fd, ofin]; rfl, near_small ox oy hx hy (by grind) (by grind) (by grind) (by grind), near_small ou ov hu hv (by grind) (by grind) (by grind) (by grind)⟩
theorem gap_small {x y x' y' : F32} {R R' : Rat} (hR : HasS (long x y) R) (hR' : HasS (long x' y') R') (w1 : R - R' ≤ 1 / 2000) (w2 : -(1 / 2000) ≤ R - R') : gt (gapN (widen (long x y)) (widen (long x' y'))) (c64 4562254508917369340) = false := by
  have hcc : Has (c64 4562254508917369340) (1152921504606847 / 1152921504606846976) := ⟨false, 4611686018427388, -62, ⟨4562254508917369340, rfl, by decide⟩, by decide +kernel⟩
  obtain ⟨g, hg, -, -, w3⟩ := gap_has (widen_has hR) (widen_has hR') (by grind) (by grind)
  rw [gt_has hg hcc]
  exact decide_eq_false (by rcases w3 with w3 | w3 <;> grind)
theorem turn_gap {p q : Sh} {X Y C S A B : Rat} (hx : HasS p.x X) (hy : HasS p.y Y) (tx : HasS q.x A) (ty : HasS q.y B) (x1 : -2 ≤ X) (x2 : X ≤ 2) (y1 : -2 ≤ Y) (y2 : Y ≤ 2) (hz : (X = 0 ∧ Y = 0) ∨ 1 / 64 ≤ X * X + Y * Y) (e1 : C * C + S * S - 1 ≤ 1 / 1000000) (e2 : -(1 / 1000000) ≤ C * C + S * S - 1)
    (hA : A - (X * C - Y * S) ≤ 1 / 1000000 ∧ -(1 / 1000000) ≤ A - (X * C - Y * S)) (hB : B - (X * S + Y * C) ≤ 1 / 1000000 ∧ -(1 / 1000000) ≤ B - (X * S + Y * C)) :
    fits (longF q.x q.y) = true ∧ fits (longF p.x p.y) = true ∧ gt (gapN (widen (long q.x q.y)) (widen (long p.x p.y))) (c64 4562254508917369340) = false := by
  obtain ⟨cb, sb⟩ := cs_bd e1
  rcases hz with ⟨rfl, rfl⟩ | hz
  · have A0 : A ≤ 1 / 1000000 ∧ -(1 / 1000000) ≤ A := by constructor <;> grind
    have B0 : B ≤ 1 / 1000000 ∧ -(1 / 1000000) ≤ B := by constructor <;> grind
    have s1 := (sq_le A0.2 A0.1).2
    have s2 := (sq_le B0.2 B0.1).2
    obtain ⟨l1, R, hR, w1, w2⟩ := long_up (B := 1 / 10000) tx ty (by grind) (by grind) (by grind) (by grind) (by grind) (by grind)
    obtain ⟨l2, R', hR', w3, w4⟩ := long_up (B := 1 / 10000) hx hy (by grind) (by grind) (by grind) (by grind) (by grind) (by grind)
    exact ⟨l1, l2, gap_small hR hR' (by grind) (by grind)⟩
  · obtain ⟨⟨p1, p2⟩, ⟨p3, p4⟩⟩ := rot_bd cb sb x1 x2 y1 y2
    have w1 := ab_mul (a := A - (X * C - Y * S)) (b := A + (X * C - Y * S)) (A := 1 / 1000000) (B := 81 / 10) hA.2 hA.1 (by grind) (by grind)
    have w2 := ab_mul (a := B - (X * S + Y * C)) (b := B + (X * S + Y * C)) (A := 1 / 1000000) (B := 81 / 10) hB.2 hB.1 (by grind) (by grind)
    obtain ⟨xx, xx'⟩ := sq_le x1 x2
    obtain ⟨yy, yy'⟩ := sq_le y1 y2
    have w3 := ab_mul (a := X * X + Y * Y) (b := C * C + S * S - 1) (A := 8) (B := 1 / 1000000) (by grind) (by grind) e2 e1
    have id : A * A + B * B = X * X + Y * Y + (X * X + Y * Y) * (C * C + S * S - 1) + (A - (X * C - Y * S)) * (A + (X * C - Y * S)) + (B - (X * S + Y * C)) * (B + (X * S + Y * C)) := by grind
    have vv : A * A + B * B - (X * X + Y * Y) ≤ 3 / 100000 ∧ -(3 / 100000) ≤ A * A + B * B - (X * X + Y * Y) := by
      rw [id]
      clear id hA hB p1 p2 p3 p4 e1 e2
      generalize (X * X + Y * Y) * (C * C + S * S - 1) = z1 at *
      generalize (A - (X * C - Y * S)) * (A + (X * C - Y * S)) = z2 at *
      generalize (B - (X * S + Y * C)) * (B + (X * S + Y * C)) = z3 at *
      constructor <;> grind
    clear id w1 w2 w3 p1 p2 p3 p4 hA hB e1 e2 cb sb
    have aa := sq_nonneg A
    have bb := sq_nonneg B
    have Ab := abs_sq (a := A) (b := 4) (by grind) (by grind)
    have Bb := abs_sq (a := B) (b := 4) (by grind) (by grind)
    obtain ⟨l1, R, hR, r1, r2, r3, r4⟩ := long_mid tx ty Ab.1 Ab.2 Bb.1 Bb.2 (by grind) (by grind)
    obtain ⟨l2, R', hR', r5, r6, r7, r8⟩ := long_mid hx hy (by grind) (by grind) (by grind) (by grind) (by grind) (by grind)
    refine ⟨l1, l2, gap_small hR hR' ?_ ?_⟩
    · refine Rat.not_lt.1 fun h => ?_
      have t1 := Rat.mul_le_mul_of_nonneg_right (show 1 / 2000 ≤ R - R' by grind) (show 0 ≤ R + R' by grind)
      have e : (R - R') * (R + R') = R * R - R' * R' := by grind
      rw [e] at t1
      grind
    · refine Rat.not_lt.1 fun h => ?_
      have t1 := Rat.mul_le_mul_of_nonneg_right (show 1 / 2000 ≤ R' - R by grind) (show 0 ≤ R + R' by grind)
      have e : (R' - R) * (R + R') = R' * R' - R * R := by grind
      rw [e] at t1
      grind
theorem frame_ok {p : Sh} {t : F32} {X Y U V C S C' S' : Rat} (hx : HasS p.x X) (hy : HasS p.y Y) (hu : HasS p.u U) (hv : HasS p.v V) (x1 : -2 ≤ X) (x2 : X ≤ 2) (y1 : -2 ≤ Y) (y2 : Y ≤ 2) (u1 : -1 ≤ U) (u2 : U ≤ 1) (v1 : -1 ≤ V) (v2 : V ≤ 1) (hz : (X = 0 ∧ Y = 0) ∨ 1 / 64 ≤ X * X + Y * Y) (ph : Ph t C S C' S') : FrOk p t := by
  obtain ⟨q1, A, B, F, G, hq, hA, hB, hF, hG, bA, bB⟩ := turn_in hx hy hu hv x1 x2 y1 y2 u1 u2 v1 v2 ph
  obtain ⟨q2, n1, n2⟩ := turn_out hx hy hu hv x1 x2 y1 y2 u1 u2 v1 v2 ph hq hA hB hF hG bA bB
  have ty := hq.y
  rw [Rat.one_mul] at ty
  obtain ⟨l1, l2, g⟩ := turn_gap hx hy hq.x ty x1 x2 y1 y2 hz ph.e1 ph.e2 hA hB
  exact ⟨q1, q2, n1, n2, l1, l2, g⟩
end Go.Proofs.Ytlpahmefebgdlaa.Fx
/- Slices of bytes that came in: what the laws read of them. No condition. -/
namespace Go.Proofs.Ytlpahmefebgdlaa.Fx
open Go Go.RowKit

/-- A value is a slice with these bytes. -/
def BytesAt (W : World) (v : Value) (l : List Int) : Prop :=
  (∃ a cap, v = .slice a 0 cap ∧ l = []) ∨
  ∃ b off cap, v = .slice (some ⟨b, off, none⟩) l.length cap ∧ l.length ≤ 9223372036854775807 ∧ ∀ j, j < l.length → W.cell? ⟨b, off + j, none⟩ = some (.int .u8 (l.getD j 0)) ∧ 0 ≤ l.getD j 0 ∧ l.getD j 0 < 256

theorem Ext.cell {W w : World} (h : Ext W w) {a : Addr} {v : Value} (ha : W.cell? a = some v) : w.cell? a = some v := by
  have hb := World.block_lt_of_cell? W a ha
  unfold World.cell? at ha ⊢
  rw [h.block a.block hb]; exact ha

theorem BytesAt.ext {W w : World} (hw : Ext W w) {v : Value} {l : List Int} (h : BytesAt W v l) : BytesAt w v l := by
  rcases h with h | ⟨b, off, cap, rfl, hl, hc⟩
  · exact .inl h
  · exact .inr ⟨b, off, cap, rfl, hl, fun j hj => ⟨hw.cell (hc j hj).1, (hc j hj).2⟩⟩

theorem BytesAt.range {W : World} {v : Value} {l : List Int} (h : BytesAt W v l) (j : Nat) : 0 ≤ l.getD j 0 ∧ l.getD j 0 < 256 := by
  by_cases hj : j < l.length
  · rcases h with ⟨_, _, _, rfl⟩ | ⟨b, off, cap, _, _, hc⟩
    · cases hj
    · exact (hc j hj).2
  · have : l.getD j 0 = 0 := by simp [List.getD, List.getElem?_eq_none (Nat.le_of_not_lt hj)]
    rw [this]; decide

/-- Which slices those are, and their bytes. -/
noncomputable def good (W : World) (v : Value) : Bool := @decide (∃ l, BytesAt W v l) (Classical.propDecidable _)
noncomputable def bytesOf (W : World) (v : Value) : List Int := Classical.epsilon fun l => BytesAt W v l
theorem good_of {W : World} {v : Value} {l : List Int} (h : BytesAt W v l) : good W v = true := by
  unfold good; exact @decide_eq_true _ (Classical.propDecidable _) ⟨l, h⟩
theorem of_good {W : World} {v : Value} (h : good W v = true) : BytesAt W v (bytesOf W v) :=
  Classical.epsilon_spec (@of_decide_eq_true _ (Classical.propDecidable _) h)

/-- What r8At reads. -/
def r8v (l : List Int) (k n : Int) : Int := if n ≤ 1 then 0 else if (l.length : Int) ≤ k then 0 else l.getD k.toNat 0 % n
/-- What b10At reads. -/
def b10v (l : List Int) (k n : Int) : Int := if n ≤ 1 then 0 else if k < (l.length : Int) then l.getD k.toNat 0 % n else (k * 37 + 11) % n

theorem r8v_range (l : List Int) (k : Int) {n : Int} (hn : 0 < n) : 0 ≤ r8v l k n ∧ r8v l k n < n := by
  unfold r8v
  split
  · omega
  · split
    · omega
    · exact ⟨Int.emod_nonneg _ (by omega), Int.emod_lt_of_pos _ hn⟩
theorem b10v_range (l : List Int) (k : Int) {n : Int} (hn : 0 < n) : 0 ≤ b10v l k n ∧ b10v l k n < n := by
  unfold b10v
  split
  · omega
  · split
    · exact ⟨Int.emod_nonneg _ (by omega), Int.emod_lt_of_pos _ hn⟩
    · exact ⟨Int.emod_nonneg _ (by omega), Int.emod_lt_of_pos _ hn⟩

theorem wrap_byte {z : Int} (h0 : 0 ≤ z) (h1 : z < 256) : IntKind.i64.wrap z = z := Go.IntWalk.i64_in _ (by omega)
theorem tmod_byte {z n : Int} (h0 : 0 ≤ z) : z.tmod n = z % n := Int.tmod_eq_emod_of_nonneg h0

theorem r8At_some (b off cap : Nat) (l : List Int) (k : Nat) (n : Int) (w : World) (hn : 1 < n) (hk : k < l.length)
    (hc : w.cell? ⟨b, off + k, none⟩ = some (.int .u8 (l.getD k 0))) (h0 : 0 ≤ l.getD k 0) (h1 : l.getD k 0 < 256) :
    Calls Try.prog 10 #[.slice (some ⟨b, off, none⟩) l.length cap, .int .i64 k, .int .i64 n] w fun e w' => e = .returned (.int .i64 (l.getD k 0 % n)) ∧ w' = w := by
  obtain ⟨z, hz⟩ : ∃ z, l.getD k 0 = z := ⟨_, rfl⟩
  rw [hz] at hc h0 h1 ⊢
  obtain ⟨m, hm⟩ : ∃ m, l.length = m := ⟨_, rfl⟩
  rw [hm] at hk ⊢
  clear hz hm
  have hr : (IntKind.i64.wrap z).tmod n = z % n := by rw [wrap_byte h0 h1, tmod_byte h0]
  have hr' : z.tmod n = z % n := tmod_byte h0
  have H := Lib.hid hr
  have H' := Lib.hid hr'
  clear hr hr'
  go_enter Try.func10, Try.ntmps10
  go_wp2
  go_ret
  refine ⟨?_, rfl⟩
  rfl
theorem r8At_small (v : Value) (k n : Int) (w : World) (hn : n ≤ 1) (hv : ∃ a len cap, v = .slice a len cap) :
    Calls Try.prog 10 #[v, .int .i64 k, .int .i64 n] w fun e w' => e = .returned (.int .i64 0) ∧ w' = w := by
  obtain ⟨a, len, cap, rfl⟩ := hv
  go_enter Try.func10, Try.ntmps10
  go_wp2
  go_ret
  exact ⟨rfl, rfl⟩
theorem r8At_out (a : Option Addr) (m cap k : Nat) (n : Int) (w : World) (hn : 1 < n) (hk : m ≤ k) :
    Calls Try.prog 10 #[.slice a m cap, .int .i64 k, .int .i64 n] w fun e w' => e = .returned (.int .i64 0) ∧ w' = w := by
  go_enter Try.func10, Try.ntmps10
  go_wp2
  go_ret
  exact ⟨rfl, rfl⟩

theorem b10At_some (b off cap : Nat) (l : List Int) (k : Nat) (n : Int) (w : World) (hn : 1 < n) (hk : k < l.length)
    (hc : w.cell? ⟨b, off + k, none⟩ = some (.int .u8 (l.getD k 0))) (h0 : 0 ≤ l.getD k 0) (h1 : l.getD k 0 < 256) :
    Calls Try.prog 26 #[.slice (some ⟨b, off, none⟩) l.length cap, .int .i64 k, .int .i64 n] w fun e w' => e = .returned (.int .i64 (l.getD k 0 % n)) ∧ w' = w := by
  obtain ⟨z, hz⟩ : ∃ z, l.getD k 0 = z := ⟨_, rfl⟩
  rw [hz] at hc h0 h1 ⊢
  obtain ⟨m, hm⟩ : ∃ m, l.length = m := ⟨_, rfl⟩
  rw [hm] at hk ⊢
  clear hz hm
  have hr : (IntKind.i64.wrap z).tmod n = z % n := by rw [wrap_byte h0 h1, tmod_byte h0]
  have hr' : z.tmod n = z % n := tmod_byte h0
  have H := Lib.hid hr
  have H' := Lib.hid hr'
  clear hr hr'
  go_enter Try.func26, Try.ntmps26
  go_wp2
  go_ret
  refine ⟨?_, rfl⟩
  rfl
theorem b10At_small (v : Value) (k n : Int) (w : World) (hn : n ≤ 1) (hv : ∃ a len cap, v = .slice a len cap) :
    Calls Try.prog 26 #[v, .int .i64 k, .int .i64 n] w fun e w' => e = .returned (.int .i64 0) ∧ w' = w := by
  obtain ⟨a, len, cap, rfl⟩ := hv
  go_enter Try.func26, Try.ntmps26
  go_wp2
  go_ret
  exact ⟨rfl, rfl⟩
theorem b10At_out (a : Option Addr) (m cap k : Nat) (n : Int) (w : World) (hn : 1 < n) (hk : m ≤ k) (hbig : k ≤ 1000) :
    Calls Try.prog 26 #[.slice a m cap, .int .i64 k, .int .i64 n] w fun e w' => e = .returned (.int .i64 (((k : Int) * 37 + 11) % n)) ∧ w' = w := by
  have h1 : IntKind.i64.wrap ((k : Int) * 37) = (k : Int) * 37 := Go.IntWalk.i64_in _ (by omega)
  have h2 : IntKind.i64.wrap ((k : Int) * 37 + 11) = (k : Int) * 37 + 11 := Go.IntWalk.i64_in _ (by omega)
  have hr' : ((k : Int) * 37 + 11).tmod n = ((k : Int) * 37 + 11) % n := tmod_byte (by omega)
  have H1 := Lib.hid h1
  have H2 := Lib.hid h2
  have H' := Lib.hid hr'
  clear h1 h2 hr'
  go_enter Try.func26, Try.ntmps26
  go_wp2
  go_ret
  refine ⟨?_, rfl⟩
  first
    | rfl
    | rw [H'.out]
    | rw [H1.out, H2.out, H'.out]
    | rw [H2.out, H'.out]

theorem r8Long_run (a c : Option Addr) (la ca lc cc : Nat) (w : World) :
    Calls Try.prog 9 #[.slice a la ca, .slice c lc cc] w fun e w' => e = .returned (.bool (decide ((la : Int) > 48) || decide ((lc : Int) > 48))) ∧ w' = w := by
  go_enter Try.func9, Try.ntmps9
  go_wp2
  all_goals (go_ret; refine ⟨?_, rfl⟩; simp_all)
theorem b10Long_run (a c : Option Addr) (la ca lc cc : Nat) (w : World) :
    Calls Try.prog 25 #[.slice a la ca, .slice c lc cc] w fun e w' => e = .returned (.bool (decide ((la : Int) > 1048576) || decide ((lc : Int) > 1048576))) ∧ w' = w := by
  go_enter Try.func25, Try.ntmps25
  go_wp2
  all_goals (go_ret; refine ⟨?_, rfl⟩; simp_all)

theorem calls_gives {P : Program} {f : FuncId} {fn : Func} {c : Code} {args : Array Value} {w : World} {v : Value} {σ : List (Nat × Nat)} {r : AV} (hf : P.funcs[f]? = some fn) (hn : (fn.name == "runtime.NumGoroutine") = false) (hb : fn.body = some c)
    (h : Calls P f args w fun e w' => e = .returned v ∧ w' = w) (hr : Rep σ r v) : Gives P f args w fun v w' => Rep σ r v ∧ Ext w w' :=
  .inr ⟨enter_of hf hn hb, h.mono fun _ _ ⟨he, hw⟩ => ⟨v, he, hr, hw ▸ Ext.refl w⟩⟩

noncomputable def shWA (W : World) (g : List Int → Int → Int → Int) : List AV → Option (Bool × AV)
  | [.c (.val v), .c (.val (.int .i64 k)), .c (.val (.int .i64 n))] => some (decide (0 ≤ k ∧ k ≤ 1000) && good W v, .c (.val (.int .i64 (g (bytesOf W v) k n))))
  | _ => none

theorem byte_args {args : List AV} {W : World} {g : List Int → Int → Int → Int} {r : AV} (h : shWA W g args = some (true, r)) {σ : List (Nat × Nat)} {vs : List Value} (ha : RepF σ args vs) :
    ∃ (v : Value) (k : Nat) (n : Int), vs = [v, .int .i64 k, .int .i64 n] ∧ k ≤ 1000 ∧ BytesAt W v (bytesOf W v) ∧ r = .c (.val (.int .i64 (g (bytesOf W v) k n))) := by
  unfold shWA at h
  split at h
  · rename_i v k n
    simp only [Option.some.injEq, Prod.mk.injEq, Bool.and_eq_true, decide_eq_true_eq] at h
    obtain ⟨⟨⟨h1, h2⟩, hg⟩, rfl⟩ := h
    obtain ⟨k', rfl⟩ := Int.eq_ofNat_of_zero_le h1
    cases ha with
    | cons e1 ha => cases ha with
      | cons e2 ha => cases ha with
        | cons e3 ha =>
          cases ha
          have e1' : _ = v := e1
          have e2' : _ = Value.int .i64 (k' : Int) := e2
          have e3' : _ = Value.int .i64 n := e3
          subst e1' e2' e3'
          exact ⟨_, k', n, rfl, by omega, of_good hg, rfl⟩
  · cases h

theorem wR8At_ok (W : World) : ∀ args r, (shWA W r8v) args = some (true, r) → ∀ σ vs w, Ext W w → RepF σ args vs → Gives Try.prog 10 vs.toArray w fun v w' => Rep σ r v ∧ Ext w w' := by
  intro args r hr σ vs w hw ha
  obtain ⟨v, k, n, rfl, hk, hB, rfl⟩ := byte_args hr ha
  have hB' := hB.ext hw
  generalize bytesOf W v = l at hB hB' hr ⊢
  refine calls_gives (v := .int .i64 (r8v l k n)) Try.func10 (by kernel_rfl) (c := Try.f10.body.getD .skip) (by kernel_rfl) ?_ rfl
  unfold r8v
  by_cases h1 : n ≤ 1
  · rw [if_pos h1]
    refine r8At_small v k n w h1 ?_
    rcases hB with ⟨a, cap, rfl, _⟩ | ⟨b, off, cap, rfl, _⟩ <;> exact ⟨_, _, _, rfl⟩
  · rw [if_neg h1]
    by_cases h2 : (l.length : Int) ≤ k
    · rw [if_pos h2]
      rcases hB with ⟨a, cap, rfl, rfl⟩ | ⟨b, off, cap, rfl, _⟩
      · exact r8At_out a 0 cap k n w (by omega) (Nat.zero_le _)
      · exact r8At_out _ _ _ k n w (by omega) (by omega)
    · rw [if_neg h2, Int.toNat_natCast]
      rcases hB' with ⟨a, cap, rfl, rfl⟩ | ⟨b, off, cap, rfl, hl, hc⟩
      · exact absurd (Int.natCast_nonneg k) h2
      · have hk' : k < l.length := by omega
        exact r8At_some b off cap l k n w (by omega) hk' (hc k hk').1 (hc k hk').2.1 (hc k hk').2.2
noncomputable def wR8At (W : World) : EntryW Try.prog (Ext W) := { f := 10, fn := shWA W r8v, ok := wR8At_ok W }
theorem wB10At_ok (W : World) : ∀ args r, (shWA W b10v) args = some (true, r) → ∀ σ vs w, Ext W w → RepF σ args vs → Gives Try.prog 26 vs.toArray w fun v w' => Rep σ r v ∧ Ext w w' := by
  intro args r hr σ vs w hw ha
  obtain ⟨v, k, n, rfl, hk, hB, rfl⟩ := byte_args hr ha
  have hB' := hB.ext hw
  generalize bytesOf W v = l at hB hB' hr ⊢
  refine calls_gives (v := .int .i64 (b10v l k n)) Try.func26 (by kernel_rfl) (c := Try.f26.body.getD .skip) (by kernel_rfl) ?_ rfl
  unfold b10v
  by_cases h1 : n ≤ 1
  · rw [if_pos h1]
    refine b10At_small v k n w h1 ?_
    rcases hB with ⟨a, cap, rfl, _⟩ | ⟨b, off, cap, rfl, _⟩ <;> exact ⟨_, _, _, rfl⟩
  · rw [if_neg h1]
    by_cases h2 : (k : Int) < (l.length : Int)
    · rw [if_pos h2, Int.toNat_natCast]
      rcases hB' with ⟨a, cap, rfl, rfl⟩ | ⟨b, off, cap, rfl, hl, hc⟩
      · exact absurd h2 (Int.not_lt.2 (Int.natCast_nonneg k))
      · have hk' : k < l.length := by omega
        exact b10At_some b off cap l k n w (by omega) hk' (hc k hk').1 (hc k hk').2.1 (hc k hk').2.2
    · rw [if_neg h2]
      rcases hB with ⟨a, cap, rfl, rfl⟩ | ⟨b, off, cap, rfl, _⟩
      · exact b10At_out a 0 cap k n w (by omega) (Nat.zero_le _) hk
      · exact b10At_out _ _ _ k n w (by omega) (by omega) hk
noncomputable def wB10At (W : World) : EntryW Try.prog (Ext W) := { f := 26, fn := shWA W b10v, ok := wB10At_ok W }

/-- Whether the input is too long. -/
def longV (m : Int) (l l' : List Int) : Bool := decide ((l.length : Int) > m) || decide ((l'.length : Int) > m)
noncomputable def shWL (W : World) (m : Int) : List AV → Option (Bool × AV)
  | [.c (.val v), .c (.val u)] => some (good W v && good W u, .c (.sb (longV m (bytesOf W v) (bytesOf W u))))
  | _ => none
theorem long_args {args : List AV} {W : World} {m : Int} {r : AV} (h : shWL W m args = some (true, r)) {σ : List (Nat × Nat)} {vs : List Value} (ha : RepF σ args vs) :
    ∃ (a : Option Addr) (ca : Nat) (l : List Int) (b : Option Addr) (cb : Nat) (l' : List Int), vs = [.slice a l.length ca, .slice b l'.length cb] ∧ r = .c (.sb (longV m l l')) := by
  have sl : ∀ {v l}, BytesAt W v l → ∃ a c, v = .slice a l.length c := by
    intro v l h
    rcases h with ⟨a, cap, rfl, rfl⟩ | ⟨b, off, cap, rfl, _⟩
    · exact ⟨a, cap, rfl⟩
    · exact ⟨_, _, rfl⟩
  unfold shWL at h
  split at h
  · rename_i v u
    simp only [Option.some.injEq, Prod.mk.injEq, Bool.and_eq_true] at h
    obtain ⟨⟨h1, h2⟩, rfl⟩ := h
    cases ha with
    | cons e1 ha => cases ha with
      | cons e2 ha =>
        cases ha
        have e1' : _ = v := e1
        have e2' : _ = u := e2
        subst e1' e2'
        obtain ⟨a, ca, hv⟩ := sl (of_good h1)
        obtain ⟨b, cb, hu⟩ := sl (of_good h2)
        exact ⟨a, ca, _, b, cb, _, by rw [← hv, ← hu], rfl⟩
  · cases h
theorem wR8Long_ok (W : World) : ∀ args r, (shWL W 48) args = some (true, r) → ∀ σ vs w, Ext W w → RepF σ args vs → Gives Try.prog 9 vs.toArray w fun v w' => Rep σ r v ∧ Ext w w' := by
  intro args r hr σ vs w hw ha
  obtain ⟨a, ca, l, b, cb, l', rfl, rfl⟩ := long_args hr ha
  exact calls_gives Try.func9 (by kernel_rfl) (c := Try.f9.body.getD .skip) (by kernel_rfl) (r8Long_run a b l.length ca l'.length cb w) rfl
noncomputable def wR8Long (W : World) : EntryW Try.prog (Ext W) := { f := 9, fn := shWL W 48, ok := wR8Long_ok W }
theorem wB10Long_ok (W : World) : ∀ args r, (shWL W 1048576) args = some (true, r) → ∀ σ vs w, Ext W w → RepF σ args vs → Gives Try.prog 25 vs.toArray w fun v w' => Rep σ r v ∧ Ext w w' := by
  intro args r hr σ vs w hw ha
  obtain ⟨a, ca, l, b, cb, l', rfl, rfl⟩ := long_args hr ha
  exact calls_gives Try.func25 (by kernel_rfl) (c := Try.f25.body.getD .skip) (by kernel_rfl) (b10Long_run a b l.length ca l'.length cb w) rfl
noncomputable def wB10Long (W : World) : EntryW Try.prog (Ext W) := { f := 25, fn := shWL W 1048576, ok := wB10Long_ok W }
theorem ext_mono (W : World) : ∀ w w', Ext W w → Ext w w' → Ext W w' := fun _ _ h h' => h.trans h'
end Go.Proofs.Ytlpahmefebgdlaa.Fx
