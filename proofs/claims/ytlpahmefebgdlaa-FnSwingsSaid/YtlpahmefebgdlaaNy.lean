/- Bounds of 32-bit numbers; lengths fit. No condition. -/
import Derived.Test.YtlpahmefebgdlaaCl
namespace Go.Proofs.Ytlpahmefebgdlaa.Fx
open Go Nr Ieee

/-- At most a power of two. -/
def UpS (E : Int) (x : F32) : Prop := ∃ s m e, NumS x s m e ∧ Le2 m e E
theorem UpS.mono {E F : Int} {x : F32} (h : UpS E x) (hf : E ≤ F) : UpS F x := by
  obtain ⟨s, m, e, h1, h2⟩ := h
  exact ⟨s, m, e, h1, le2_mono h2 hf⟩
theorem UpS.fin {E : Int} {x : F32} (h : UpS E x) : finS x = true := by
  obtain ⟨s, m, e, h1, _⟩ := h
  exact h1.fin
theorem UpS.widen {E : Int} {x : F32} (h : UpS E x) : Up E (Fx.widen x) := by
  obtain ⟨s, m, e, h1, h2⟩ := h
  obtain ⟨j, hj⟩ := widen_numS h1
  exact ⟨s, _, _, hj, le2_widen h2⟩
theorem num_wordS (s : Bool) {m : Nat} {e E : Int} (h : Le2 m e E) (h1 : -126 ≤ E) (h2 : E ≤ 127) : ∃ m' e', NumS (sx (single.nearest s m e)) s m' e' ∧ Le2 m' e' E := by
  have e1 : single.leastPlace = -149 := by decide
  have e2 : single.fractionBits = 23 := rfl
  have e3 : single.infRung = 255 * 2 ^ 23 := by decide
  have e4 : single.signWeight = 256 * 2 ^ 23 := by decide
  have e5 : single.binade = 2 ^ 23 := by decide
  obtain ⟨r, hr, hr1, hr2⟩ := nearest_le single s (by rw [e1, e2]; omega) h
  have hlt : r < single.infRung := by
    refine Nat.lt_of_le_of_lt hr1 ?_
    unfold rungPow
    rw [e1, e2, e3, e5]
    exact Nat.mul_lt_mul_of_pos_right (by omega) (by decide)
  obtain ⟨m', e', hm, hl⟩ := readRung_le single s (by rw [e1, e2]; omega) hr1 hlt
  exact ⟨m', e', ⟨_, rfl, by rw [hr, read_word single s (by omega), hm]⟩, hl⟩
theorem add_sx (a b : Nat) : sx a + sx b = (((single.read a).sum (single.read b)).map single.write : Option Nat) := rfl
theorem mul_sx (a b : Nat) : sx a * sx b = (((single.read a).product (single.read b)).map single.write : Option Nat) := rfl
theorem UpS.add {E : Int} {x y : F32} (hx : UpS E x) (hy : UpS E y) (h1 : -127 ≤ E) (h2 : E ≤ 126) : UpS (E + 1) (x + y) := by
  obtain ⟨s, m, i, ⟨r, rfl, hr⟩, hm⟩ := hx
  obtain ⟨t, n, j, ⟨q, rfl, hq⟩, hn⟩ := hy
  obtain ⟨m', e', h3, h4⟩ := num_wordS (if signed s m (i - min i j).toNat + signed t n (j - min i j).toNat = 0 then s && t else signed s m (i - min i j).toNat + signed t n (j - min i j).toNat < 0) (addW_le (s := s) (t := t) hm hn) (by omega) (by omega)
  rw [add_sx, hr, hq]
  exact ⟨_, _, _, h3, h4⟩
theorem UpS.sub {E : Int} {x y : F32} (hx : UpS E x) (hy : UpS E y) (h1 : -127 ≤ E) (h2 : E ≤ 126) : UpS (E + 1) (x - y) := by
  obtain ⟨s, m, i, ⟨r, rfl, hr⟩, hm⟩ := hx
  obtain ⟨t, n, j, ⟨q, rfl, hq⟩, hn⟩ := hy
  obtain ⟨m', e', h3, h4⟩ := num_wordS (if signed s m (i - min i j).toNat + signed (!t) n (j - min i j).toNat = 0 then s && !t else signed s m (i - min i j).toNat + signed (!t) n (j - min i j).toNat < 0) (addW_le (s := s) (t := !t) hm hn) (by omega) (by omega)
  rw [sub_someS, hr, hq]
  exact ⟨_, _, _, h3, h4⟩
theorem UpS.mul {E F : Int} {x y : F32} (hx : UpS E x) (hy : UpS F y) (h1 : -126 ≤ E + F) (h2 : E + F ≤ 127) : UpS (E + F) (x * y) := by
  obtain ⟨s, m, i, ⟨r, rfl, hr⟩, hm⟩ := hx
  obtain ⟨t, n, j, ⟨q, rfl, hq⟩, hn⟩ := hy
  obtain ⟨m', e', h3, h4⟩ := num_wordS (s ^^ t) (m := m * n) (e := i + j) (E := E + F) (by
    rcases hm with h | ⟨h, h'⟩
    · exact .inl (by rw [h, Nat.zero_mul])
    · rcases hn with k | ⟨k, k'⟩
      · exact .inl (by rw [k, Nat.mul_zero])
      · refine .inr ⟨by omega, Nat.le_trans (Nat.mul_le_mul h' k') ?_⟩
        rw [← Nat.pow_add]
        exact Nat.pow_le_pow_right (by decide) (by omega)) h1 h2
  rw [mul_sx, hr, hq]
  exact ⟨_, _, _, h3, h4⟩
theorem read_negS (r : Nat) : single.read (r ^^^ 2 ^ 31) = match single.read r with
    | .number s m e => .number (!s) m e
    | .infinity s => .infinity (!s)
    | .nan s f => .nan (!s) f := by
  have es : single.signWeight = 2 ^ 31 := by decide
  have h1 : (r ^^^ 2 ^ 31) % 2 ^ 31 = r % 2 ^ 31 := by rw [Nat.xor_mod_two_pow, Nat.mod_self, Nat.xor_zero]
  have h2 : ((r ^^^ 2 ^ 31) / 2 ^ 31 % 2 == 1) = !(r / 2 ^ 31 % 2 == 1) := by
    have : (r ^^^ 2 ^ 31) / 2 ^ 31 = (r / 2 ^ 31) ^^^ 1 := by
      rw [← Nat.shiftRight_eq_div_pow, ← Nat.shiftRight_eq_div_pow, Nat.shiftRight_xor_distrib]; rfl
    rw [this]
    have h3 : (r / 2 ^ 31 ^^^ 1) % 2 = (r / 2 ^ 31 % 2) ^^^ 1 := by
      have := Nat.xor_mod_two_pow (a := r / 2 ^ 31) (b := 1) (n := 1)
      simpa using this
    rw [h3]
    rcases Nat.mod_two_eq_zero_or_one (r / 2 ^ 31) with h | h <;> rw [h] <;> rfl
  unfold Format.read
  rw [es]
  dsimp only
  rw [h1, h2]
  split
  · rfl
  · split
    · rfl
    · split <;> rfl
theorem neg_sx (r : Nat) : -(sx r) = sx (r ^^^ 2 ^ 31) := rfl
theorem UpS.neg {E : Int} {x : F32} (h : UpS E x) : UpS E (-x) := by
  obtain ⟨s, m, e, ⟨r, rfl, hr⟩, h2⟩ := h
  exact ⟨!s, m, e, ⟨_, neg_sx r, by rw [read_negS, hr]⟩, h2⟩
theorem upS_of {E : Int} {x : F32} (r : Nat) (s : Bool) (m : Nat) (e : Int) (h1 : x = sx r) (h2 : single.read r = .number s m e) (h3 : e ≤ E) (h4 : m ≤ 2 ^ (E - e).toNat) : UpS E x := ⟨s, m, e, ⟨r, h1, h2⟩, .inr ⟨h3, h4⟩⟩
theorem upS_one : UpS 0 one32 := upS_of _ false (2 ^ 23) (-23) rfl (by decide) (by decide) (by decide)
theorem upS_half : UpS (-1) (c32 1056964608) := upS_of _ false (2 ^ 23) (-24) rfl (by decide) (by decide) (by decide)
theorem upS_zero (E : Int) : UpS E (c32 0) := ⟨false, 0, -149, num_zero32, .inl rfl⟩

/-- What is above 0 and at most a number. -/
theorem isShare_up {x : F32} (h : isShare x = true) : UpS 0 x := by
  unfold isShare at h
  rw [Bool.and_eq_true] at h
  have hf : finS x = true := by
    refine between fin0 (by kernel_rfl : finS (c32 1056964608) = true) ?_ h.2
    have := h.1
    unfold gt at this
    unfold ge
    rw [this]; rfl
  obtain ⟨s, m, e, hx⟩ := fin_num hf
  obtain ⟨b1, b2, b3⟩ := hx.bound
  refine ⟨s, m, e, hx, ?_⟩
  obtain ⟨h1, h2⟩ := h
  obtain ⟨r, rfl, hr⟩ := hx
  obtain ⟨q, hq, hq2⟩ : ∃ q, c32 1056964608 = sx q ∧ single.read q = .number false (2 ^ 23) (-24) := ⟨_, rfl, by decide⟩
  obtain ⟨z, hz, hz2⟩ := num_zero32
  unfold le at h2
  unfold gt at h1
  rw [hq, ord_sx, hr, hq2] at h2
  rw [hz, ord_sx, hr, hz2] at h1
  have e2 : (some (compare (signed s m (e - min e (-24)).toNat) (signed false (2 ^ 23) ((-24 : Int) - min e (-24)).toNat)) == some Ordering.lt || some (compare (signed s m (e - min e (-24)).toNat) (signed false (2 ^ 23) ((-24 : Int) - min e (-24)).toNat)) == some Ordering.eq) = true := h2
  have e1 : (some (compare (signed s m (e - min e (-149)).toNat) (signed false 0 ((-149 : Int) - min e (-149)).toNat)) == some Ordering.gt) = true := h1
  rw [cmp_lt, cmp_eq] at e2
  rw [cmp_gt] at e1
  simp only [signed_eq, Nat.zero_mul] at e1 e2
  by_cases hm : m = 0
  · exact .inl hm
  · right
    have hp : 0 < m * 2 ^ (e - min e (-149)).toNat := Nat.mul_pos (Nat.pos_of_ne_zero hm) (Nat.two_pow_pos _)
    have hs : s = false := by
      cases s with
      | false => rfl
      | true =>
        exfalso
        generalize m * 2 ^ (e - min e (-149)).toNat = z at hp e1
        simp at e1
        omega
    subst hs
    have e3 : m * 2 ^ (e - min e (-24)).toNat ≤ 2 ^ 23 * 2 ^ ((-24 : Int) - min e (-24)).toNat := by
      generalize m * 2 ^ (e - min e (-24)).toNat = z1 at e2 ⊢
      generalize 2 ^ 23 * 2 ^ ((-24 : Int) - min e (-24)).toNat = z2 at e2 ⊢
      simp at e2
      omega
    rw [← Nat.pow_add] at e3
    have hle : 2 ^ (e - min e (-24)).toNat ≤ m * 2 ^ (e - min e (-24)).toNat := Nat.le_mul_of_pos_left _ (Nat.pos_of_ne_zero hm)
    have h5 := (Nat.pow_le_pow_iff_right (by decide)).1 (Nat.le_trans hle e3)
    refine ⟨by omega, ?_⟩
    refine Nat.le_of_mul_le_mul_right (c := 2 ^ (e - min e (-24)).toNat) ?_ (Nat.two_pow_pos _)
    rw [← Nat.pow_add]
    exact Nat.le_trans e3 (Nat.pow_le_pow_right (by decide) (by omega))

-- roots
theorem sqrt_up {E : Int} {x : F64} (h : Up E x) (h1 : -200 ≤ E) (h2 : E ≤ 240) : sqrt x = nn ∨ Up (E / 2 + 4) (sqrt x) := by
  obtain ⟨s, m, i, hx, hm⟩ := h
  have hb := hx.bound
  obtain ⟨r, rfl, hr⟩ := hx
  have hs : sqrt (bx r) = (((Datum.number s m i).root 54).map double.write : Option Nat) := by rw [← hr]; rfl
  rw [hs]
  by_cases h0 : m = 0
  · right
    subst h0
    have : (((Datum.number s 0 i).root 54).map double.write : Option Nat) = bx (double.nearest s 0 i) := by simp only [Datum.root]; rfl
    rw [this]
    obtain ⟨m', e', g1, g2⟩ := num_word s (m := 0) (e := i) (E := E / 2 + 4) (.inl rfl) (by omega) (by omega)
    exact ⟨_, _, _, g1, g2⟩
  · cases s with
    | true => left; simp only [Datum.root, if_neg h0]; rfl
    | false =>
      right
      obtain ⟨k1, k2⟩ := hm.resolve_left h0
      obtain ⟨p, hp⟩ : ∃ p, p = ((i - ((2 * 54 - m.log2 : Nat) : Int)) % 2).toNat := ⟨_, rfl⟩
      have hlog : m.log2 ≤ 52 := by
        have h5 : 2 ^ m.log2 < 2 ^ 53 := Nat.lt_of_le_of_lt (Nat.log2_self_le h0) hb.1
        have := (Nat.pow_lt_pow_iff_right (by decide)).1 h5
        omega
      have hlE : (m.log2 : Int) ≤ E - i := by
        have h5 : 2 ^ m.log2 ≤ 2 ^ (E - i).toNat := Nat.le_trans (Nat.log2_self_le h0) k2
        have := (Nat.pow_le_pow_iff_right (by decide)).1 h5
        omega
      obtain ⟨W, hW⟩ : ∃ W, W = Datum.rootFrom (m <<< (2 * 54 - m.log2 + p)) ((m <<< (2 * 54 - m.log2 + p)).log2 / 2 + 1) 0 := ⟨_, rfl⟩
      have he : (((Datum.number false m i).root 54).map double.write : Option Nat) = bx (double.nearest false (2 * W + (W * W != m <<< (2 * 54 - m.log2 + p)).toNat) ((i - ((2 * 54 - m.log2 + p : Nat) : Int)) / 2 - 1)) := by
        rw [hW, hp]
        simp only [Datum.root, if_neg h0]
        rfl
      rw [he]
      have r2 := (rootFrom_bounds (m <<< (2 * 54 - m.log2 + p)) ((m <<< (2 * 54 - m.log2 + p)).log2 / 2 + 1) 0).2
      rw [← hW] at r2
      have hl : (m <<< (2 * 54 - m.log2 + p)).log2 = m.log2 + (2 * 54 - m.log2 + p) := by rw [shl, log2_mul_pow h0]
      rw [hl, Nat.zero_add] at r2
      have hbit : (W * W != m <<< (2 * 54 - m.log2 + p)).toNat ≤ 1 := Bool.toNat_le _
      generalize (W * W != m <<< (2 * 54 - m.log2 + p)).toNat = bit at hbit
      obtain ⟨m', e', g1, g2⟩ := num_word false (m := 2 * W + bit) (e := (i - ((2 * 54 - m.log2 + p : Nat) : Int)) / 2 - 1) (E := E / 2 + 4) (by
        right
        refine ⟨by omega, ?_⟩
        refine Nat.le_trans (show 2 * W + bit ≤ 2 ^ ((m.log2 + (2 * 54 - m.log2 + p)) / 2 + 1 + 1) by rw [Nat.pow_succ]; omega) ?_
        exact Nat.pow_le_pow_right (by decide) (by omega)) (by omega) (by omega)
      exact ⟨_, _, _, g1, g2⟩

theorem long_fits {x y : F32} (hx : UpS 60 x) (hy : UpS 60 y) : fits (longF x y) = true := by
  have hp := (hx.widen.mul hx.widen (by decide) (by decide)).add (hy.widen.mul hy.widen (by decide) (by decide)) (by decide) (by decide)
  unfold longF powerW
  rcases sqrt_up hp (by decide) (by decide) with h | h
  · rw [h]; rfl
  · exact (h.mono (by decide)).narrow.1

theorem fr_fit {s x y : F32} (hs : UpS 50 s) (hx : UpS 50 x) (hy : UpS 50 y) : frFit s x y = true := by
  unfold frFit fdx fex fy
  rw [Bool.and_eq_true]
  have h0 : UpS 50 (c32 0) := upS_zero 50
  have h1 : UpS 50 one32 := upS_one.mono (by decide)
  exact ⟨long_fits ((hx.sub hs.neg (by decide) (by decide)).mono (by decide)) ((hy.sub h0 (by decide) (by decide)).mono (by decide)),
    long_fits (((hx.mono (by decide : (50 : Int) ≤ 51)).sub (h1.sub hs (by decide) (by decide)) (by decide) (by decide)).mono (by decide)) ((hy.sub h0 (by decide) (by decide)).mono (by decide))⟩

theorem mid_up {E : Int} {s : F32 × F32} (h1 : UpS E s.1) (h2 : UpS E s.2) (h3 : 0 ≤ E) (h4 : E ≤ 40) : UpS E (mid s) := by
  have := upS_half.mul (h1.add h2 (by omega) (by omega)) (by omega) (by omega)
  have e : -1 + (E + 1) = E := by omega
  rw [e] at this
  exact this

theorem rs_fit (sh : F32) (hs : UpS 0 sh) : ∀ (n : Nat) (s : F32 × F32), UpS 3 s.1 → UpS 3 s.2 → rsFit sh n s = true
  | 0, _, _, _ => rfl
  | n + 1, s, h1, h2 => by
    have hm := mid_up h1 h2 (by decide) (by decide)
    have hn : UpS 3 (rsNext sh s).1 ∧ UpS 3 (rsNext sh s).2 := by
      unfold rsNext
      cases gt (slX sh (mid s) (c32 0)) (c32 0) with
      | true => exact ⟨h1, hm⟩
      | false => exact ⟨hm, h2⟩
    simp only [rsFit, fr_fit (hs.mono (by decide)) (hm.mono (by decide)) (upS_zero 50), hm.fin, rs_fit sh hs n _ hn.1 hn.2, Bool.and_self]

theorem rs_cond {sh lo hi : F32} (h : isShare sh = true) (h1 : UpS 3 lo) (h2 : UpS 3 hi) : rsCond sh lo hi = true := by
  unfold rsCond
  rw [h, rs_fit sh (isShare_up h) 26 (lo, hi) h1 h2]; rfl

end Go.Proofs.Ytlpahmefebgdlaa.Fx
