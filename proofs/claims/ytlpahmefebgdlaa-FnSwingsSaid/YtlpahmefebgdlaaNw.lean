/- Bounds of sines and of bisections. No condition. -/
import Derived.Test.YtlpahmefebgdlaaCd
namespace Go.Proofs.Ytlpahmefebgdlaa.Fx
open Go Nr Ieee

theorem up_of {E : Int} {x : F64} (r : Nat) (s : Bool) (m : Nat) (e : Int) (h1 : x = bx r) (h2 : double.read r = .number s m e) (h3 : e ≤ E) (h4 : m ≤ 2 ^ (E - e).toNat) : Up E x := ⟨s, m, e, ⟨r, h1, h2⟩, .inr ⟨h3, h4⟩⟩
theorem lo_of {L : Int} {x : F64} (r : Nat) (s : Bool) (m : Nat) (e : Int) (h1 : x = bx r) (h2 : double.read r = .number s m e) (h3 : L = e + 52) (h4 : 2 ^ 52 ≤ m) : Lo L x := ⟨s, m, e, ⟨r, h1, h2⟩, h4, h3⟩
theorem up_zero (E : Int) : Up E zero := ⟨false, 0, -1074, num_zero, .inl rfl⟩
theorem up_one : Up 0 one := up_of _ false (2 ^ 52) (-52) rfl (by decide) (by decide) (by decide)
theorem up_half : Up (-1) half := up_of _ false (2 ^ 52) (-53) rfl (by decide) (by decide) (by decide)
theorem up_ten : Up 4 ten := up_of _ false (10 * 2 ^ 49) (-49) rfl (by decide) (by decide) (by decide)
theorem up_mten : Up 4 mten := up_of _ true (10 * 2 ^ 49) (-49) rfl (by decide) (by decide) (by decide)
theorem up_full : Up 3 full := up_of (x := full) 4618760256179416344 false 7074237752028440 (-50) rfl (by decide) (by decide) (by decide)
theorem lo_full : Lo 2 full := lo_of (x := full) 4618760256179416344 false 7074237752028440 (-50) rfl (by decide) (by decide) (by decide)

theorem bis_up {g : F64 → Bool} {E : Int} (h1 : -1020 ≤ E) (h2 : E ≤ 1020) : ∀ (n : Nat) (s : F64 × F64), Up E s.1 → Up E s.2 → Up E (bis g n s).1 ∧ Up E (bis g n s).2
  | 0, s, ha, hb => ⟨ha, hb⟩
  | n + 1, s, ha, hb => by
    have hc : Up E ((s.1 + s.2) / two) := by
      have := (ha.add hb (by omega) (by omega)).half (by omega) (by omega)
      rwa [Int.add_sub_cancel] at this
    simp only [bis]
    cases g ((s.1 + s.2) / two) with
    | true => exact bis_up h1 h2 n _ ha hc
    | false => exact bis_up h1 h2 n _ hc hb

theorem bis_eq {g h : F64 → Bool} (e : ∀ x, g x = h x) : ∀ (n : Nat) (s : F64 × F64), bis g n s = bis h n s
  | 0, _ => rfl
  | n + 1, s => by simp only [bis, e]; exact bis_eq e n _

theorem swing_up (e x : F64) : Up 0 (swing e x) := (bis_up (by decide) (by decide) 50 (zero, one) (up_zero 0) up_one).1
theorem lean_up (e x : F64) : Up 4 (lean e x) := (bis_up (by decide) (by decide) 60 (mten, ten) up_mten up_ten).1

-- exponentials, two ways
theorem expS_num (x : F64) (h : ne x x = false) : expS x = exponential x := by
  unfold expS exponential; rw [h]; rfl

theorem ne_cases (x : F64) : ne x x = false ∨ (x = nn ∨ ∃ r s f, x = bx r ∧ double.read r = .nan s f) := by
  rcases num_cases x with ⟨s, m, e, h⟩ | ⟨r, s, rfl, h⟩ | h
  · exact .inl (ne_self h)
  · left
    unfold ne
    rw [ord_some, h]; cases s <;> rfl
  · exact .inr h

theorem nan_gone {x : F64} (h : x = nn ∨ ∃ r s f, x = bx r ∧ double.read r = .nan s f) (y : F64) : x - y = nn ∧ x / y = nn ∧ ord x y = none := by
  rcases h with rfl | ⟨r, s, f, rfl, h⟩
  · exact ⟨rfl, rfl, rfl⟩
  · cases y with
    | none => exact ⟨rfl, rfl, rfl⟩
    | some q =>
      have e : (some q : Option Nat) = bx q := rfl
      rw [e, sub_some, div_some, ord_some, h]
      exact ⟨rfl, rfl, rfl⟩

theorem exp_none : exponential nn = nn := by kernel_rfl
theorem exp_nan {x : F64} (h : x = nn ∨ ∃ r s f, x = bx r ∧ double.read r = .nan s f) : exponential x = nn := by
  unfold exponential gt lt
  rw [(nan_gone h _).2.2, (nan_gone h _).2.2, (nan_gone h _).2.1]
  kernel_rfl

theorem read_neg (r : Nat) : double.read (r ^^^ 2 ^ 63) = match double.read r with
    | .number s m e => .number (!s) m e
    | .infinity s => .infinity (!s)
    | .nan s f => .nan (!s) f := by
  have es : double.signWeight = 2 ^ 63 := by decide
  have h1 : (r ^^^ 2 ^ 63) % 2 ^ 63 = r % 2 ^ 63 := by rw [Nat.xor_mod_two_pow, Nat.mod_self, Nat.xor_zero]
  have h2 : ((r ^^^ 2 ^ 63) / 2 ^ 63 % 2 == 1) = !(r / 2 ^ 63 % 2 == 1) := by
    have : (r ^^^ 2 ^ 63) / 2 ^ 63 = (r / 2 ^ 63) ^^^ 1 := by
      rw [← Nat.shiftRight_eq_div_pow, ← Nat.shiftRight_eq_div_pow, Nat.shiftRight_xor_distrib]; rfl
    rw [this]
    have h3 : (r / 2 ^ 63 ^^^ 1) % 2 = (r / 2 ^ 63 % 2) ^^^ 1 := by
      have := Nat.xor_mod_two_pow (a := r / 2 ^ 63) (b := 1) (n := 1)
      simpa using this
    rw [h3]
    rcases Nat.mod_two_eq_zero_or_one (r / 2 ^ 63) with h | h <;> rw [h] <;> rfl
  unfold Format.read
  rw [es]
  dsimp only
  rw [h1, h2]
  split
  · rfl
  · split
    · rfl
    · split <;> rfl

theorem neg_bx (r : Nat) : -(bx r) = bx (r ^^^ 2 ^ 63) := rfl
theorem Num.neg {x : F64} {s : Bool} {m : Nat} {e : Int} (h : Num x s m e) : Num (-x) (!s) m e := by
  obtain ⟨r, rfl, hr⟩ := h
  exact ⟨_, neg_bx r, by rw [read_neg, hr]⟩
theorem Up.neg {E : Int} {x : F64} (h : Up E x) : Up E (-x) := by
  obtain ⟨s, m, e, h1, h2⟩ := h
  exact ⟨_, m, e, h1.neg, h2⟩

theorem nan_neg {x : F64} (h : x = nn ∨ ∃ r s f, x = bx r ∧ double.read r = .nan s f) : (-x = nn ∨ ∃ r s f, -x = bx r ∧ double.read r = .nan s f) := by
  rcases h with rfl | ⟨r, s, f, rfl, h⟩
  · exact .inl rfl
  · exact .inr ⟨_, !s, f, neg_bx r, by rw [read_neg, h]⟩

theorem exp_diff (x : F64) : expS x - expS (-x) = exponential x - exponential (-x) := by
  rcases ne_cases x with h | h
  · rcases ne_cases (-x) with h' | h'
    · rw [expS_num x h, expS_num _ h']
    · rw [exp_nan h', sub_none]
      have : expS (-x) = -x ∨ expS (-x) = nn := by
        rcases ne_cases (-x) with k | k
        · right; rw [expS_num _ k, exp_nan h']
        · left; unfold expS ne; rw [(nan_gone k _).2.2]; rfl
      rcases this with k | k
      · rw [k]
        rcases h' with k' | ⟨r, s, f, k', k2⟩
        · rw [k', sub_none]
        · rw [k']
          generalize expS x = y
          cases y with
          | none => rfl
          | some q =>
            have e : (some q : Option Nat) = bx q := rfl
            rw [e, sub_some, k2]
            cases double.read q <;> rfl
      · rw [k, sub_none]
  · have : expS x = x := by unfold expS ne; rw [(nan_gone h _).2.2]; rfl
    rw [this, exp_nan h, (nan_gone h _).1, none_sub]

theorem sinh_eq (x : F64) : sinhS x = halfDiff x := by
  unfold sinhS halfDiff
  rw [half_eq, exp_diff]

theorem lean_eq (e x : F64) : leanS e x = lean e x := by
  unfold leanS lean
  rw [bis_eq (g := leanTestS e (full * x)) (h := leanTest e (full * x)) (fun c => by unfold leanTestS leanTest leanSizeS; rw [sinh_eq])]

-- the sine's bound
theorem behind_up {y : F64} {s : Bool} {m : Nat} {e : Int} (h : Num y s m e) : Up 1 (behind y) := by
  obtain ⟨h1, h2, h3⟩ := h.bound
  by_cases he : 0 ≤ e
  · unfold behind
    rw [trunc_big h he]
    have : lt zero zero = false := by kernel_rfl
    rw [this]; exact up_zero 1
  · obtain ⟨_, _, hq⟩ := toI_num h (by omega)
    have hw := whole_num h
    have e1 : e.toNat = 0 := by omega
    rw [e1, Nat.shiftLeft_zero, cut_down] at hw
    obtain ⟨q, hqd⟩ : ∃ q, q = m / 2 ^ (-e).toNat := ⟨_, rfl⟩
    obtain ⟨r, hrd⟩ : ∃ r, r = m % 2 ^ (-e).toNat := ⟨_, rfl⟩
    have hdm : 2 ^ (-e).toNat * q + r = m := by rw [hqd, hrd]; exact Nat.div_add_mod _ _
    have hr : r < 2 ^ (-e).toNat := by rw [hrd]; exact Nat.mod_lt _ (Nat.two_pow_pos _)
    rw [← hqd] at hw hq
    have hz : ∃ (s' : Bool) (j : Nat), Num (whole .zero y + zero) s' (q * 2 ^ j) (0 - j) ∧ (q ≠ 0 → s' = s) ∧ (q = 0 → whole .zero y + zero = zero) := by
      obtain ⟨j, hj⟩ := num_near s (m := q) (e := 0) (by omega) (by omega) (by omega)
      rw [hw]
      by_cases h0 : q = 0
      · subst h0
        rw [Nat.zero_mul] at hj
        rw [hj.add_zero0]
        obtain ⟨j, hj⟩ : ∃ j : Nat, j = 1074 := ⟨_, rfl⟩
        exact ⟨false, j, by rw [Nat.zero_mul, hj]; exact num_zero, fun h => (h rfl).elim, fun _ => rfl⟩
      · rw [hj.add_zero (Nat.mul_ne_zero h0 (by have := Nat.two_pow_pos j; omega)), near_scale]
        exact ⟨s, j, hj, fun _ => rfl, fun h => (h0 h).elim⟩
    obtain ⟨s', j, hN, hs', _⟩ := hz
    have hf : Up 0 (y - (whole .zero y + zero)) := by
      rw [h.sub hN]
      unfold addW
      obtain ⟨b, hb⟩ : ∃ b, b = min e (0 - (j : Int)) := ⟨_, rfl⟩
      rw [← hb]
      have hT : (signed s m (e - b).toNat + signed (!s') (q * 2 ^ j) (0 - (j : Int) - b).toNat).natAbs = r * 2 ^ (e - b).toNat := by
        have a1 : q * 2 ^ j * 2 ^ (0 - (j : Int) - b).toNat = q * 2 ^ (-e).toNat * 2 ^ (e - b).toNat := by
          rw [Nat.mul_assoc, Nat.mul_assoc, ← Nat.pow_add, ← Nat.pow_add]; congr 2; omega
        have a2 : m * 2 ^ (e - b).toNat = q * 2 ^ (-e).toNat * 2 ^ (e - b).toNat + r * 2 ^ (e - b).toNat := by
          rw [← Nat.add_mul, ← hdm, Nat.mul_comm (2 ^ (-e).toNat)]
        rw [signed_eq, signed_eq, a1, a2]
        by_cases h0 : q = 0
        · subst h0
          simp only [Nat.zero_mul, Nat.zero_add]
          generalize r * 2 ^ (e - b).toNat = z
          cases s <;> cases s' <;> simp
        · rw [hs' h0]
          generalize q * 2 ^ (-e).toNat * 2 ^ (e - b).toNat = z1
          generalize r * 2 ^ (e - b).toNat = z
          cases s <;> simp <;> omega
      have hle : Le2 (signed s m (e - b).toNat + signed (!s') (q * 2 ^ j) (0 - (j : Int) - b).toNat).natAbs b 0 := by
        right
        refine ⟨by omega, ?_⟩
        rw [hT]
        refine Nat.le_trans (Nat.mul_le_mul_right _ (Nat.le_of_lt hr)) ?_
        rw [← Nat.pow_add]
        exact Nat.pow_le_pow_right (by decide) (by omega)
      obtain ⟨m', e', h3, h4⟩ := num_word (if signed s m (e - b).toNat + signed (!s') (q * 2 ^ j) (0 - (j : Int) - b).toNat = 0 then s && !s' else signed s m (e - b).toNat + signed (!s') (q * 2 ^ j) (0 - (j : Int) - b).toNat < 0) hle (by omega) (by omega)
      exact ⟨_, _, _, h3, h4⟩
    unfold behind
    cases lt (y - (whole .zero y + zero)) zero with
    | true => exact hf.add up_one (by omega) (by omega)
    | false => exact hf.mono (by omega)

theorem sineStep_up {u p : F64} {k : Int} {E L F : Int} (hu : Up 12 u) (hp : Up E p) (hk : Lo L (ki (2 * k * (2 * k + 1)))) (h0 : 0 ≤ E) (hL : 0 ≤ L) (hE : E ≤ 900) (hL2 : L ≤ 12 + E) (hF : F = 12 + E - L + 1 + 1) : Up F (sineStep u p k) := by
  subst hF
  have h1 := hu.mul hp (by omega) (by omega)
  have h2 := h1.div hk (by omega) (by omega)
  exact (up_one.mono (by omega)).sub h2 (by omega) (by omega)

theorem sineOut_up {g : F64} (h : Up 3 g) : Up 73 (sineOut g) := by
  have hz := h.mul up_full (by decide) (by decide)
  have hu := hz.mul hz (by decide) (by decide)
  have p8 := sineStep_up (k := 8) (L := 8) hu up_one (lo_of _ false (272 * 2 ^ 44) (-44) rfl (by kernel_rfl) (by decide) (by decide)) (by decide) (by decide) (by decide) (by decide) rfl
  have p7 := sineStep_up (k := 7) (L := 7) hu p8 (lo_of _ false (210 * 2 ^ 45) (-45) rfl (by kernel_rfl) (by decide) (by decide)) (by decide) (by decide) (by decide) (by decide) rfl
  have p6 := sineStep_up (k := 6) (L := 7) hu p7 (lo_of _ false (156 * 2 ^ 45) (-45) rfl (by kernel_rfl) (by decide) (by decide)) (by decide) (by decide) (by decide) (by decide) rfl
  have p5 := sineStep_up (k := 5) (L := 6) hu p6 (lo_of _ false (110 * 2 ^ 46) (-46) rfl (by kernel_rfl) (by decide) (by decide)) (by decide) (by decide) (by decide) (by decide) rfl
  have p4 := sineStep_up (k := 4) (L := 6) hu p5 (lo_of _ false (72 * 2 ^ 46) (-46) rfl (by kernel_rfl) (by decide) (by decide)) (by decide) (by decide) (by decide) (by decide) rfl
  have p3 := sineStep_up (k := 3) (L := 5) hu p4 (lo_of _ false (42 * 2 ^ 47) (-47) rfl (by kernel_rfl) (by decide) (by decide)) (by decide) (by decide) (by decide) (by decide) rfl
  have p2 := sineStep_up (k := 2) (L := 4) hu p3 (lo_of _ false (20 * 2 ^ 48) (-48) rfl (by kernel_rfl) (by decide) (by decide)) (by decide) (by decide) (by decide) (by decide) rfl
  have p1 := sineStep_up (k := 1) (L := 2) hu p2 (lo_of _ false (6 * 2 ^ 50) (-50) rfl (by kernel_rfl) (by decide) (by decide)) (by decide) (by decide) (by decide) (by decide) rfl
  exact (hz.mul p1 (by decide) (by decide)).mono (by decide)

theorem sine_up {y : F64} {s : Bool} {m : Nat} {e : Int} (h : Num y s m e) : Up 73 (sine y) := by
  have hb := behind_up h
  have hh : Up 1 half := up_half.mono (by decide)
  have h1 : Up 2 (behind y - half) := hb.sub hh (by decide) (by decide)
  have h2 : Up 3 (half - (behind y - half)) := (hh.mono (by decide)).sub h1 (by decide) (by decide)
  have h3 : Up 2 (half - behind y) := hh.sub hb (by decide) (by decide)
  unfold sine sineF
  cases ge (behind y) half with
  | true => cases gt (behind y - half) quarter with
    | true => exact (sineOut_up h2).neg
    | false => exact (sineOut_up (h1.mono (by decide))).neg
  | false => cases gt (behind y) quarter with
    | true => exact sineOut_up (h3.mono (by decide))
    | false => exact sineOut_up (hb.mono (by decide))

end Go.Proofs.Ytlpahmefebgdlaa.Fx
