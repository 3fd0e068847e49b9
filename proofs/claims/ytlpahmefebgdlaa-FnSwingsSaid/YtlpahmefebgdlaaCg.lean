/- Contracts: angles, FlybyTurn, two ways; its law. No condition. -/
import Derived.Test.YtlpahmefebgdlaaCf
import Derived.Test.YtlpahmefebgdlaaNx
namespace Go.Proofs.Ytlpahmefebgdlaa.Fx
open Go Go.RowKit Nr Ieee

theorem finite_eq (x : F64) : finite x = !(ne (x - x) zero) := by
  rcases num_cases x with ⟨s, m, e, h⟩ | ⟨r, s, rfl, h⟩ | rfl | ⟨r, s, f, rfl, h⟩
  · rw [finite_num h, h.sub_self]; kernel_rfl
  · rw [inf_sub h]
    unfold finite isInf ne gt
    have e1 : ord (bx r) (bx r) = some .eq := by rw [ord_some, h]; cases s <;> rfl
    have e2 : fabs (bx r) = bx double.infRung := by
      have es : double.signWeight = 2 ^ 63 := by decide
      show (some (r % 2 ^ 63) : Option Nat) = _
      unfold Format.read at h
      rw [es] at h
      dsimp only at h
      split at h
      · cases h
      · split at h
        · cases h
        · split at h
          · rename_i k; rw [k]
          · cases h
    rw [e1, e2]; rfl
  · rfl
  · rw [nan_sub h]
    unfold finite ne
    have e1 : ord (bx r) (bx r) = none := by rw [ord_some, h]; rfl
    rw [e1]; rfl

def nanA : Option AV := some (.c (.fl .f64 none))
def zeroA : Option AV := some (.c (.fl .f64 zero))
def angN (y x out : F64) : Option AV := bif lt x zero then (bif lt y zero then some (.c (.fl .f64 (-(half - out)))) else some (.c (.fl .f64 (half - out)))) else (bif lt y zero then some (.c (.fl .f64 (-out))) else some (.c (.fl .f64 out)))
theorem angN_eq (y x out : F64) : angN y x out = some (.c (.fl .f64 (angEnd y x out))) := by unfold angN angEnd; simp only [push_fl]
def angW (y x : F64) : Option AV := bif gt (fabs y) (fabs x) then
    (bif gt (fabs y) (fabs x) then angN y x (quarter - angOut (angT (angT (angT (fabs x / fabs y))))) else angN y x (angOut (angT (angT (angT (fabs x / fabs y))))))
  else (bif gt (fabs y) (fabs x) then angN y x (quarter - angOut (angT (angT (angT (fabs y / fabs x))))) else angN y x (angOut (angT (angT (angT (fabs y / fabs x))))))
theorem angW_eq (y x : F64) : angW y x = some (.c (.fl .f64 (angle y x))) := by
  unfold angW angle
  simp only [angN_eq]
  cases gt (fabs y) (fabs x) <;> rfl
-- the angle's bound
theorem lo_mono {E L : Int} {x y : F64} (hx : Up E x) (hy : Lo L y) (h0 : 0 ≤ L) (hL : L ≤ 1022 + E) (h1 : -1022 ≤ E) (h2 : E ≤ 1000) : Up (E + 1) (x / y) := (hx.div hy (by omega) (by omega)).mono (by omega)

theorem sqr_pos {E : Int} {t : F64} (h : Up E t) (h1 : -500 ≤ E) (h2 : E ≤ 500) : ∃ n j, Num (t * t) false n j ∧ Le2 n j (E + E) := by
  obtain ⟨s, m, i, ⟨r, rfl, hr⟩, hm⟩ := h
  rw [mul_some, hr]
  have hs : (s ^^ s) = false := by cases s <;> rfl
  obtain ⟨m', e', h3, h4⟩ := num_word (s ^^ s) (m := m * m) (e := i + i) (E := E + E) (by
    rcases hm with h | ⟨h, h'⟩
    · exact .inl (by rw [h, Nat.zero_mul])
    · refine .inr ⟨by omega, Nat.le_trans (Nat.mul_le_mul h' h') ?_⟩
      rw [← Nat.pow_add]
      exact Nat.pow_le_pow_right (by decide) (by omega)) (by omega) (by omega)
  rw [hs] at h3
  refine ⟨m', e', ?_, h4⟩
  rw [← hs] at h3 ⊢
  exact h3

theorem bd_one : Bd 0 0 one := ⟨2 ^ 52, -52, ⟨_, rfl, by decide⟩, by decide, by decide, by decide⟩

theorem Bd.num {a b : Int} {x : F64} (h : Bd a b x) : ∃ n j, Num x false n j ∧ Le2 n j (b + 1) := by
  obtain ⟨m, e, h1, h2, h3, h4⟩ := h
  refine ⟨m, e, h1, .inr ⟨by omega, ?_⟩⟩
  exact Nat.le_trans (Nat.le_of_lt h1.bound.1) (Nat.pow_le_pow_right (by decide) (by omega))

theorem angT_up {E : Int} {t : F64} (h : Up E t) (h1 : 0 ≤ E) (h2 : E ≤ 100) : Up (E + 1) (angT t) := by
  unfold angT
  obtain ⟨n, j, hn, hl⟩ := sqr_pos h (by omega) (by omega)
  have b1 : Bd 0 (E + E + 1 + 2) (one + t * t) := bd_one.add hn hl (F := E + E + 1) (by omega) (by omega) (by omega) (by omega)
  have b2 := b1.sqrt (by omega) (by omega)
  obtain ⟨n', j', hn', hl'⟩ := b2.num
  have b3 := bd_one.add hn' hl' (F := (E + E + 1 + 2) / 2 + 1 + 1) (by omega) (by omega) (by omega) (by omega)
  obtain ⟨L, hL, g1, g2⟩ := b3.lo
  exact lo_mono h hL g1 (by omega) (by omega) (by omega)

theorem angStep_up {u p : F64} {k : Int} {E L : Int} (hu : Up 8 u) (hp : Up E p) (hk : Lo L (ki k)) (h0 : 0 ≤ E) (hL : 0 ≤ L) (hL2 : L ≤ 100) (hE : E ≤ 900) : Up (E + 9) (angStep u p k) := by
  have h1 := hu.mul hp (by omega) (by omega)
  have h2 := lo_mono up_one hk hL (by omega) (by omega) (by omega)
  exact ((h2.mono (by omega)).sub h1 (by omega) (by omega)).mono (by omega)

theorem angOut_up {t : F64} (h : Up 4 t) : Up 78 (angOut t) := by
  have hu := h.mul h (by decide) (by decide)
  have p15 := angStep_up (k := 15) (L := 3) hu (up_zero 0) (lo_of _ false (15 * 2 ^ 49) (-49) rfl (by kernel_rfl) (by decide) (by decide)) (by decide) (by decide) (by decide) (by decide)
  have p13 := angStep_up (k := 13) (L := 3) hu p15 (lo_of _ false (13 * 2 ^ 49) (-49) rfl (by kernel_rfl) (by decide) (by decide)) (by decide) (by decide) (by decide) (by decide)
  have p11 := angStep_up (k := 11) (L := 3) hu p13 (lo_of _ false (11 * 2 ^ 49) (-49) rfl (by kernel_rfl) (by decide) (by decide)) (by decide) (by decide) (by decide) (by decide)
  have p9 := angStep_up (k := 9) (L := 3) hu p11 (lo_of _ false (9 * 2 ^ 49) (-49) rfl (by kernel_rfl) (by decide) (by decide)) (by decide) (by decide) (by decide) (by decide)
  have p7 := angStep_up (k := 7) (L := 2) hu p9 (lo_of _ false (7 * 2 ^ 50) (-50) rfl (by kernel_rfl) (by decide) (by decide)) (by decide) (by decide) (by decide) (by decide)
  have p5 := angStep_up (k := 5) (L := 2) hu p7 (lo_of _ false (5 * 2 ^ 50) (-50) rfl (by kernel_rfl) (by decide) (by decide)) (by decide) (by decide) (by decide) (by decide)
  have p3 := angStep_up (k := 3) (L := 1) hu p5 (lo_of _ false (3 * 2 ^ 51) (-51) rfl (by kernel_rfl) (by decide) (by decide)) (by decide) (by decide) (by decide) (by decide)
  have p1 := angStep_up (k := 1) (L := 0) hu p3 (lo_of _ false (2 ^ 52) (-52) rfl (by kernel_rfl) (by decide) (by decide)) (by decide) (by decide) (by decide) (by decide)
  have hp : Up 72 (angPoly (t * t)) := p1
  have h8 : Up 3 eight := up_of _ false (2 ^ 52) (-49) rfl (by decide) (by decide) (by decide)
  have h3 := (h8.mul (h.mul hp (by decide) (by decide)) (by decide) (by decide)).div lo_full (by decide) (by decide)
  exact h3.mono (by decide)

theorem angEnd_up {y x o : F64} (h : Up 79 o) : Up 80 (angEnd y x o) := by
  have h1 := (up_half.mono (by decide : (-1 : Int) ≤ 79)).sub h (by decide) (by decide)
  unfold angEnd
  cases lt x zero <;> cases lt y zero
  · exact h.mono (by decide)
  · exact h.neg.mono (by decide)
  · exact h1
  · exact h1.neg

/-- The less over the greater. -/
theorem quot_le {m n : Nat} {i j : Int} {x y : F64} (hx : Num x false m i) (hy : Num y false n j) (hn : n ≠ 0) (h : m * 2 ^ (i - min i j).toNat ≤ n * 2 ^ (j - min i j).toNat) : Up 1 (x / y) := by
  obtain ⟨b1, b2, b3⟩ := hx.bound
  obtain ⟨c1, c2, c3⟩ := hy.bound
  obtain ⟨r, rfl, hr⟩ := hx
  obtain ⟨q, rfl, hq⟩ := hy
  rw [div_some, hr, hq]
  have : (((Datum.number false m i).quotient 54 (Datum.number false n j)).map double.write : Option Nat) =
      some (double.nearest (false ^^ false) (2 * ((m <<< (54 + n.log2 - m.log2)) / n) + (((m <<< (54 + n.log2 - m.log2)) % n) != 0).toNat) (i - j - ((54 + n.log2 - m.log2 : Nat) : Int) - 1)) := by
    simp only [Datum.quotient, if_neg hn]; rfl
  rw [this]
  by_cases h0 : m = 0
  · subst h0
    refine ⟨_, _, _, (num_word (false ^^ false) (m := 2 * ((0 <<< (54 + n.log2 - Nat.log2 0)) / n) + (((0 <<< (54 + n.log2 - Nat.log2 0)) % n) != 0).toNat) (e := i - j - ((54 + n.log2 - Nat.log2 0 : Nat) : Int) - 1) (E := 1) (.inl (by simp [Nat.shiftLeft_eq])) (by decide) (by decide)).choose_spec.choose_spec.1, (num_word (false ^^ false) (m := 2 * ((0 <<< (54 + n.log2 - Nat.log2 0)) / n) + (((0 <<< (54 + n.log2 - Nat.log2 0)) % n) != 0).toNat) (e := i - j - ((54 + n.log2 - Nat.log2 0 : Nat) : Int) - 1) (E := 1) (.inl (by simp [Nat.shiftLeft_eq])) (by decide) (by decide)).choose_spec.choose_spec.2⟩
  · have hlog : ∀ {a : Nat}, a ≠ 0 → a < 2 ^ 53 → a.log2 ≤ 52 := by
      intro a ha hb
      have h5 : 2 ^ a.log2 < 2 ^ 53 := Nat.lt_of_le_of_lt (Nat.log2_self_le ha) hb
      have := (Nat.pow_lt_pow_iff_right (by decide)).1 h5
      omega
    have l1 := hlog h0 b1
    have l2 := hlog hn c1
    obtain ⟨k, hk⟩ : ∃ k, k = 54 + n.log2 - m.log2 := ⟨_, rfl⟩
    rw [← hk, shl]
    have hij : (i - j) + m.log2 ≤ n.log2 + 1 := by
      have t1 : 2 ^ (m.log2 + (i - min i j).toNat) < 2 ^ (n.log2 + 1 + (j - min i j).toNat) := by
        rw [Nat.pow_add, Nat.pow_add]
        refine Nat.lt_of_le_of_lt (Nat.mul_le_mul_right _ (Nat.log2_self_le h0)) (Nat.lt_of_le_of_lt h ?_)
        exact Nat.mul_lt_mul_of_pos_right (lt_log2 n) (Nat.two_pow_pos _)
      have := (Nat.pow_lt_pow_iff_right (by decide)).1 t1
      omega
    obtain ⟨X, hX⟩ : ∃ X : Nat, (X : Int) = k - (i - j) := ⟨(k - (i - j)).toNat, by omega⟩
    have hq1 : m * 2 ^ k / n ≤ 2 ^ X := by
      refine Nat.div_le_of_le_mul ?_
      refine Nat.le_of_mul_le_mul_right (c := 2 ^ (i - min i j).toNat) ?_ (Nat.two_pow_pos _)
      rw [Nat.mul_assoc, Nat.mul_comm (2 ^ k), ← Nat.mul_assoc]
      refine Nat.le_trans (Nat.mul_le_mul_right _ h) ?_
      rw [Nat.mul_assoc, Nat.mul_assoc, ← Nat.pow_add, ← Nat.pow_add]
      exact Nat.mul_le_mul_left _ (Nat.pow_le_pow_right (by decide) (by omega))
    have hb : ((m * 2 ^ k % n) != 0).toNat ≤ 1 := Bool.toNat_le _
    have hle : Le2 (2 * (m * 2 ^ k / n) + ((m * 2 ^ k % n) != 0).toNat) (i - j - (k : Int) - 1) 1 := by
      right
      refine ⟨by omega, ?_⟩
      have e1 : (1 - (i - j - (k : Int) - 1)).toNat = X + 2 := by omega
      have e2 : 2 ^ (X + 2) = 2 ^ X * 4 := by rw [Nat.pow_add]
      rw [e1, e2]
      have := Nat.two_pow_pos X
      omega
    obtain ⟨m', e', h3, h4⟩ := num_word (false ^^ false) hle (by decide) (by decide)
    exact ⟨_, _, _, h3, h4⟩

/-- The angle of numbers is not great. -/
theorem angleOf_up (y x : F64) : angleOf y x = nn ∨ Up 80 (angleOf y x) := by
  unfold angleOf
  rcases num_cases y with ⟨s, m, i, hy⟩ | h
  · rcases num_cases x with ⟨t, n, j, hx⟩ | h
    · right
      rw [finite_num hy, finite_num hx]
      cases hz : (eq y zero && eq x zero) with
      | true => exact up_zero 80
      | false =>
        show Up 80 (angle y x)
        have fy := fabs_num hy
        have fx := fabs_num hx
        have hg : gt (fabs y) (fabs x) = decide (n * 2 ^ (j - min i j).toNat < m * 2 ^ (i - min i j).toNat) := by
          unfold gt
          rw [fy.ord fx, cmp_gt, signed_eq, signed_eq]
          generalize n * 2 ^ (j - min i j).toNat = z1
          generalize m * 2 ^ (i - min i j).toNat = z2
          simp
        have three : ∀ {t : F64}, Up 1 t → Up 78 (angOut (angT (angT (angT t)))) := fun h => angOut_up (angT_up (angT_up (angT_up h (by decide) (by decide)) (by decide) (by decide)) (by decide) (by decide))
        have hq : Up 1 quarter := up_of _ false (2 ^ 52) (-54) rfl (by decide) (by decide) (by decide)
        unfold angle
        cases hb : gt (fabs y) (fabs x) with
        | true =>
          rw [hb] at hg
          have hlt := of_decide_eq_true hg.symm
          have hm0 : m ≠ 0 := by intro e; subst e; rw [Nat.zero_mul] at hlt; omega
          have hd : Up 1 (fabs x / fabs y) := quot_le fx fy hm0 (by rw [Int.min_comm j i]; exact Nat.le_of_lt hlt)
          exact angEnd_up ((hq.mono (by decide)).sub (three hd) (by decide) (by decide))
        | false =>
          rw [hb] at hg
          have hle := of_decide_eq_false hg.symm
          have hn0 : n ≠ 0 := by
            intro e
            subst e
            rw [Nat.zero_mul] at hle
            have hm0 : m = 0 := by
              by_cases hm : m = 0
              · exact hm
              · exact absurd (Nat.mul_pos (Nat.pos_of_ne_zero hm) (Nat.two_pow_pos _)) hle
            subst hm0
            have z1 : eq y zero = true := by
              unfold eq
              rw [hy.ord num_zero, cmp_eq, signed_eq, signed_eq]; simp
            have z2 : eq x zero = true := by
              unfold eq
              rw [hx.ord num_zero, cmp_eq, signed_eq, signed_eq]; simp
            rw [z1, z2] at hz; cases hz
          have hd : Up 1 (fabs y / fabs x) := quot_le fy fx hn0 (Nat.le_of_not_lt hle)
          exact angEnd_up ((three hd).mono (by decide))
    · left
      have : finite x = false := by
        rw [finite_eq]
        rcases h with ⟨r, s, rfl, h⟩ | rfl | ⟨r, s, f, rfl, h⟩
        · rw [inf_sub h]; rfl
        · rfl
        · rw [nan_sub h]; rfl
      rw [this, Bool.not_false, Bool.or_true]; rfl
  · left
    have : finite y = false := by
      rw [finite_eq]
      rcases h with ⟨r, s, rfl, h⟩ | rfl | ⟨r, s, f, rfl, h⟩
      · rw [inf_sub h]; rfl
      · rfl
      · rw [nan_sub h]; rfl
    rw [this]; rfl

-- FlybyTurn
def flybyE (m v n : F64) : F64 := one + ((n * v) * v) / m
def flyby (m v n : F64) : F64 := two * angleOf one (sqrt (flybyE m v n * flybyE m v n - one))
theorem flyby_fits (m v n : F64) : fits (flyby m v n) = true := by
  unfold flyby
  rcases angleOf_up one (sqrt (flybyE m v n * flybyE m v n - one)) with h | h
  · rw [h]; rfl
  · have h2 : Up 1 two := up_of _ false (2 ^ 52) (-51) rfl (by decide) (by decide) (by decide)
    exact ((h2.mul h (by decide) (by decide)).mono (by decide)).narrow.1
def above3 (m v n : F32) : Bool := aboveS m && aboveS v && aboveS n
def flN (m v n : F32) : F32 := narrow (flyby (widen m) (widen v) (widen n))
def flV (m v n : F32) : F32 := bif above3 m v n then giveV (flN m v n) else c32 0
def flB (m v n : F32) : Bool := bif above3 m v n then giveB (flN m v n) else false
theorem told_give (x : F32) : toldV x = giveV x ∧ toldB x = giveB x := by
  unfold toldV toldB giveV giveB; rw [fin_eq]; exact ⟨rfl, rfl⟩
end Go.Proofs.Ytlpahmefebgdlaa.Fx
