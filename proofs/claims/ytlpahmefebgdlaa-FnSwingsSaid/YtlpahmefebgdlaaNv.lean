/- Finite numbers of 32 bits, bounds, and narrowing. No condition. -/
import Derived.Test.YtlpahmefebgdlaaNu
namespace Go.Proofs.Ytlpahmefebgdlaa.Fx
open Go Nr Ieee

abbrev sx (r : Nat) : F32 := some r
abbrev sn : F32 := none

/-- A 32-bit float that is a number. -/
def NumS (x : F32) (s : Bool) (m : Nat) (e : Int) : Prop := ∃ r, x = sx r ∧ single.read r = .number s m e

theorem NumS.bound {x : F32} {s : Bool} {m : Nat} {e : Int} (h : NumS x s m e) : m < 2 ^ 24 ∧ -149 ≤ e ∧ e ≤ 104 := by
  obtain ⟨r, rfl, hr⟩ := h
  obtain ⟨h1, h2, h3⟩ := read_number hr
  have e1 : single.leastPlace = -149 := by decide
  have e2 : (2 ^ single.exponentBits - 3 : Nat) = 253 := by decide
  exact ⟨h1, by omega, by omega⟩

theorem numS_cases (x : F32) : (∃ s m e, NumS x s m e) ∨ (∃ r s, x = sx r ∧ single.read r = .infinity s) ∨ (x = sn ∨ ∃ r s f, x = sx r ∧ single.read r = .nan s f) := by
  cases x with
  | none => exact .inr (.inr (.inl rfl))
  | some r =>
    cases h : single.read r with
    | number s m e => exact .inl ⟨s, m, e, r, rfl, h⟩
    | infinity s => exact .inr (.inl ⟨r, s, rfl, h⟩)
    | nan s f => exact .inr (.inr (.inr ⟨r, s, f, rfl, h⟩))

theorem sub_someS (a b : Nat) : sx a - sx b = (((single.read a).sum (single.read b).opposite).map single.write : Option Nat) := rfl

theorem NumS.sub_self {x : F32} {s : Bool} {m : Nat} {e : Int} (h : NumS x s m e) : x - x = c32 0 := by
  obtain ⟨r, rfl, hr⟩ := h
  rw [sub_someS, hr]
  have : (((Datum.number s m e).sum (Datum.number s m e).opposite).map single.write : Option Nat) = some (single.nearest (if signed s m (e - min e e).toNat + signed (!s) m (e - min e e).toNat = 0 then s && !s else signed s m (e - min e e).toNat + signed (!s) m (e - min e e).toNat < 0)
    (signed s m (e - min e e).toNat + signed (!s) m (e - min e e).toNat).natAbs (min e e)) := rfl
  rw [this]
  have h0 : signed s m (e - min e e).toNat + signed (!s) m (e - min e e).toNat = 0 := by
    rw [signed_eq, signed_eq]; cases s <;> simp <;> omega
  rw [h0]
  cases s <;> rfl

theorem NumS.fin {x : F32} {s : Bool} {m : Nat} {e : Int} (h : NumS x s m e) : finS x = true := by
  unfold finS; rw [h.sub_self]; kernel_rfl

theorem widen_numS {x : F32} {s : Bool} {m : Nat} {e : Int} (h : NumS x s m e) : ∃ j : Nat, Num (widen x) s (m * 2 ^ j) (e - j) := by
  obtain ⟨h1, h2, h3⟩ := h.bound
  obtain ⟨r, rfl, hr⟩ := h
  obtain ⟨j, q, hq, hj⟩ := num_near s (m := m) (e := e) (by omega) (by omega) (by omega)
  refine ⟨j, double.nearest s m e, ?_, ?_⟩
  · have hd : FloatKind.f32.decode r = .number s m e := hr
    have hd2 : FloatKind.f64.decode (FloatKind.f64.encode (.number s m e)) = .number s (m * 2 ^ j) (e - j) := by cases hq; exact hj
    show floatToFloatBits .f32 r .f64 = _
    unfold floatToFloatBits
    rw [if_neg (by decide)]
    simp only [hd, hd2]
    rfl
  · cases hq; exact hj

theorem fabs_num {x : F64} {s : Bool} {m : Nat} {e : Int} (h : Num x s m e) : Num (fabs x) false m e := by
  obtain ⟨r, rfl, hr⟩ := h
  refine ⟨r % 2 ^ 63, rfl, ?_⟩
  have es : double.signWeight = 2 ^ 63 := by decide
  unfold Format.read at hr ⊢
  rw [es] at hr ⊢
  have e1 : r % 2 ^ 63 / 2 ^ 63 = 0 := Nat.div_eq_of_lt (Nat.mod_lt _ (by decide))
  rw [e1, Nat.mod_mod]
  dsimp only at hr ⊢
  split
  · rename_i h1; rw [if_pos h1] at hr; cases hr; rfl
  · rename_i h1
    rw [if_neg h1] at hr
    split
    · rename_i h2; rw [if_pos h2] at hr; cases hr; rfl
    · rename_i h2
      rw [if_neg h2] at hr
      split at hr <;> cases hr

theorem num_max : Num (c64 9218868437227405311) false (2 ^ 53 - 1) 971 := ⟨_, rfl, by decide⟩

theorem ne_self {x : F64} {s : Bool} {m : Nat} {e : Int} (h : Num x s m e) : ne x x = false := by
  unfold ne
  rw [h.ord h]
  show (!(_ == _)) = false
  rw [cmp_eq]; simp

theorem finite_num {x : F64} {s : Bool} {m : Nat} {e : Int} (h : Num x s m e) : finite x = true := by
  obtain ⟨h1, h2, h3⟩ := h.bound
  unfold finite isInf gt
  rw [ne_self h, (fabs_num h).ord num_max, cmp_gt, signed_eq, signed_eq]
  have e1 : (e - min e 971).toNat = 0 := by omega
  rw [e1]
  have : (2 ^ 53 - 1) * 1 ≤ (2 ^ 53 - 1) * 2 ^ ((971 : Int) - min e 971).toNat := Nat.mul_le_mul_left _ (Nat.two_pow_pos _)
  generalize (2 ^ 53 - 1) * 2 ^ ((971 : Int) - min e 971).toNat = z at this
  simp
  omega

/-- Two ways to tell a finite number. -/
theorem fin_eq (x : F32) : isFinite x = finS x := by
  rcases numS_cases x with ⟨s, m, e, h⟩ | ⟨r, s, rfl, h⟩ | rfl | ⟨r, s, f, rfl, h⟩
  · obtain ⟨j, hj⟩ := widen_numS h
    rw [h.fin]; exact finite_num hj
  · have hd : FloatKind.f32.decode r = .infinity s := h
    have hw : widen (sx r) = bx (double.word s double.infRung) := by
      show floatToFloatBits .f32 r .f64 = _
      unfold floatToFloatBits
      rw [if_neg (by decide)]
      simp only [hd]
      rfl
    have hf : finS (sx r) = false := by
      unfold finS
      rw [sub_someS, h]; cases s <;> rfl
    have hk : ∀ s, finite (bx (double.word s double.infRung)) = false := by intro s; cases s <;> kernel_rfl
    unfold isFinite
    rw [hf, hw, hk]
  · rfl
  · have hd : FloatKind.f32.decode r = .nan s f := h
    have hw : widen (sx r) = nn := by
      show floatToFloatBits .f32 r .f64 = _
      unfold floatToFloatBits
      rw [if_neg (by decide)]
      simp only [hd]
    have hf : finS (sx r) = false := by
      unfold finS
      rw [sub_someS, h]; rfl
    unfold isFinite
    rw [hf, hw]; rfl

theorem fin_num {x : F32} (h : finS x = true) : ∃ s m e, NumS x s m e := by
  rcases numS_cases x with h' | ⟨r, s, rfl, h'⟩ | rfl | ⟨r, s, f, rfl, h'⟩
  · exact h'
  · unfold finS at h; rw [sub_someS, h'] at h; cases s <;> cases h
  · cases h
  · unfold finS at h; rw [sub_someS, h'] at h; cases h

-- bounds
/-- At most a power of two. -/
def Up (E : Int) (x : F64) : Prop := ∃ s m e, Num x s m e ∧ Le2 m e E

theorem le2_mono {m : Nat} {e E F : Int} (h : Le2 m e E) (hf : E ≤ F) : Le2 m e F := by
  rcases h with h | ⟨h1, h2⟩
  · exact .inl h
  · exact .inr ⟨by omega, Nat.le_trans h2 (Nat.pow_le_pow_right (by decide) (by omega))⟩

theorem Up.mono {E F : Int} {x : F64} (h : Up E x) (hf : E ≤ F) : Up F x := by
  obtain ⟨s, m, e, h1, h2⟩ := h
  exact ⟨s, m, e, h1, le2_mono h2 hf⟩

theorem num_word (s : Bool) {m : Nat} {e E : Int} (h : Le2 m e E) (h1 : -1022 ≤ E) (h2 : E ≤ 1023) : ∃ m' e', Num (bx (double.nearest s m e)) s m' e' ∧ Le2 m' e' E := by
  have e1 : double.leastPlace = -1074 := by decide
  have e2 : double.fractionBits = 52 := rfl
  have e3 : double.infRung = 2047 * 2 ^ 52 := by decide
  have e4 : double.signWeight = 2048 * 2 ^ 52 := by decide
  have e5 : double.binade = 2 ^ 52 := by decide
  obtain ⟨r, hr, hr1, hr2⟩ := nearest_le double s (by rw [e1, e2]; omega) h
  have hlt : r < double.infRung := by
    refine Nat.lt_of_le_of_lt hr1 ?_
    unfold rungPow
    rw [e1, e2, e3, e5]
    exact Nat.mul_lt_mul_of_pos_right (by omega) (by decide)
  obtain ⟨m', e', hm, hl⟩ := readRung_le double s (by rw [e1, e2]; omega) hr1 hlt
  exact ⟨m', e', ⟨_, rfl, by rw [hr, read_word double s (by omega), hm]⟩, hl⟩

theorem addW_le {s t : Bool} {m n : Nat} {i j E : Int} (h : Le2 m i E) (k : Le2 n j E) : Le2 (signed s m (i - min i j).toNat + signed t n (j - min i j).toNat).natAbs (min i j) (E + 1) := by
  have hn : (signed s m (i - min i j).toNat + signed t n (j - min i j).toNat).natAbs ≤ m * 2 ^ (i - min i j).toNat + n * 2 ^ (j - min i j).toNat := by
    have := Int.natAbs_add_le (signed s m (i - min i j).toNat) (signed t n (j - min i j).toNat)
    rw [signed_natAbs, signed_natAbs] at this
    exact this
  have one : ∀ {m : Nat} {i b E : Int}, Le2 m i E → b ≤ i → b ≤ E → m * 2 ^ (i - b).toNat ≤ 2 ^ (E - b).toNat := by
    intro m i b E h hb hE
    rcases h with rfl | ⟨h1, h2⟩
    · simp
    · refine Nat.le_trans (Nat.mul_le_mul_right _ h2) ?_
      rw [← Nat.pow_add]
      exact Nat.pow_le_pow_right (by decide) (by omega)
  by_cases hE : min i j ≤ E
  · refine .inr ⟨by omega, Nat.le_trans hn ?_⟩
    have a := one h (Int.min_le_left i j) hE
    have b := one k (Int.min_le_right i j) hE
    have e1 : (E + 1 - min i j).toNat = (E - min i j).toNat + 1 := by omega
    rw [e1, Nat.pow_succ]
    omega
  · refine .inl ?_
    have hm : m = 0 := by rcases h with h | ⟨h1, _⟩; exact h; omega
    have hn0 : n = 0 := by rcases k with h | ⟨h1, _⟩; exact h; omega
    subst hm hn0
    omega

theorem Up.add {E : Int} {x y : F64} (hx : Up E x) (hy : Up E y) (h1 : -1023 ≤ E) (h2 : E ≤ 1022) : Up (E + 1) (x + y) := by
  obtain ⟨s, m, i, hx, hm⟩ := hx
  obtain ⟨t, n, j, hy, hn⟩ := hy
  rw [hx.add hy]
  obtain ⟨m', e', h3, h4⟩ := num_word (if signed s m (i - min i j).toNat + signed t n (j - min i j).toNat = 0 then s && t else signed s m (i - min i j).toNat + signed t n (j - min i j).toNat < 0) (addW_le (s := s) (t := t) hm hn) (by omega) (by omega)
  exact ⟨_, _, _, h3, h4⟩

theorem Up.sub {E : Int} {x y : F64} (hx : Up E x) (hy : Up E y) (h1 : -1023 ≤ E) (h2 : E ≤ 1022) : Up (E + 1) (x - y) := by
  obtain ⟨s, m, i, hx, hm⟩ := hx
  obtain ⟨t, n, j, hy, hn⟩ := hy
  rw [hx.sub hy]
  obtain ⟨m', e', h3, h4⟩ := num_word (if signed s m (i - min i j).toNat + signed (!t) n (j - min i j).toNat = 0 then s && !t else signed s m (i - min i j).toNat + signed (!t) n (j - min i j).toNat < 0) (addW_le (s := s) (t := !t) hm hn) (by omega) (by omega)
  exact ⟨_, _, _, h3, h4⟩

theorem Up.half {E : Int} {x : F64} (hx : Up E x) (h1 : -1021 ≤ E) (h2 : E ≤ 1024) : Up (E - 1) (x / two) := by
  obtain ⟨s, m, i, hx, hm⟩ := hx
  rw [over_num hx]
  obtain ⟨m', e', h3, h4⟩ := num_word s (m := m) (e := i - 1) (E := E - 1) (by
    rcases hm with h | ⟨h, h'⟩
    · exact .inl h
    · refine .inr ⟨by omega, ?_⟩
      have : (E - 1 - (i - 1)).toNat = (E - i).toNat := by omega
      rw [this]; exact h') (by omega) (by omega)
  exact ⟨_, _, _, h3, h4⟩

theorem Up.mul {E F : Int} {x y : F64} (hx : Up E x) (hy : Up F y) (h1 : -1022 ≤ E + F) (h2 : E + F ≤ 1023) : Up (E + F) (x * y) := by
  obtain ⟨s, m, i, ⟨r, rfl, hr⟩, hm⟩ := hx
  obtain ⟨t, n, j, ⟨q, rfl, hq⟩, hn⟩ := hy
  rw [mul_some, hr, hq]
  obtain ⟨m', e', h3, h4⟩ := num_word (s ^^ t) (m := m * n) (e := i + j) (E := E + F) (by
    rcases hm with h | ⟨h, h'⟩
    · exact .inl (by rw [h, Nat.zero_mul])
    · rcases hn with k | ⟨k, k'⟩
      · exact .inl (by rw [k, Nat.mul_zero])
      · refine .inr ⟨by omega, Nat.le_trans (Nat.mul_le_mul h' k') ?_⟩
        rw [← Nat.pow_add]
        exact Nat.pow_le_pow_right (by decide) (by omega)) h1 h2
  exact ⟨_, _, _, h3, h4⟩

/-- At least a power of two, of a normal number. -/
def Lo (L : Int) (y : F64) : Prop := ∃ t n j, Num y t n j ∧ 2 ^ 52 ≤ n ∧ L = j + 52

theorem Up.div {E L : Int} {x y : F64} (hx : Up E x) (hy : Lo L y) (h1 : -1022 ≤ E - L + 1) (h2 : E - L + 1 ≤ 1023) : Up (E - L + 1) (x / y) := by
  obtain ⟨s, m, i, hx, hm⟩ := hx
  obtain ⟨t, n, j, hy, hn, rfl⟩ := hy
  obtain ⟨b1, b2, b3⟩ := hx.bound
  obtain ⟨c1, c2, c3⟩ := hy.bound
  obtain ⟨r, rfl, hr⟩ := hx
  obtain ⟨q, rfl, hq⟩ := hy
  have hn0 : n ≠ 0 := by have : 0 < 2 ^ 52 := by decide
                         omega
  have hl : n.log2 = 52 := (Nat.log2_eq_iff hn0).2 ⟨hn, c1⟩
  rw [div_some, hr, hq]
  have : (((Datum.number s m i).quotient 54 (Datum.number t n j)).map double.write : Option Nat) =
      some (double.nearest (s ^^ t) (2 * ((m <<< (54 + n.log2 - m.log2)) / n) + (((m <<< (54 + n.log2 - m.log2)) % n) != 0).toNat) (i - j - ((54 + n.log2 - m.log2 : Nat) : Int) - 1)) := by
    simp only [Datum.quotient, if_neg hn0]; rfl
  rw [this, hl]
  have hle : Le2 (2 * ((m <<< (54 + 52 - m.log2)) / n) + (((m <<< (54 + 52 - m.log2)) % n) != 0).toNat) (i - j - ((54 + 52 - m.log2 : Nat) : Int) - 1) (E - (j + 52) + 1) := by
    by_cases h0 : m = 0
    · subst h0
      left; simp [Nat.shiftLeft_eq]
    · obtain ⟨g1, g2⟩ := hm.resolve_left h0
      have hlog : m.log2 ≤ 52 := by
        have h5 : 2 ^ m.log2 < 2 ^ 53 := Nat.lt_of_le_of_lt (Nat.log2_self_le h0) b1
        have := (Nat.pow_lt_pow_iff_right (by decide)).1 h5
        omega
      obtain ⟨k, hk⟩ : ∃ k, 54 + 52 - m.log2 = k + 52 := ⟨54 - m.log2, by omega⟩
      rw [hk, Nat.shiftLeft_eq]
      right
      refine ⟨by omega, ?_⟩
      have hd : m * 2 ^ (k + 52) / n ≤ 2 ^ (E - i).toNat * 2 ^ k := by
        refine Nat.div_le_of_le_mul ?_
        rw [Nat.pow_add, ← Nat.mul_assoc, Nat.mul_comm n]
        exact Nat.mul_le_mul (Nat.mul_le_mul_right _ g2) hn
      have e1 : (E - (j + 52) + 1 - (i - j - ((k + 52 : Nat) : Int) - 1)).toNat = (E - i).toNat + k + 2 := by omega
      have e6 : 2 ^ ((E - i).toNat + k + 2) = 2 ^ (E - i).toNat * 2 ^ k * 4 := by rw [Nat.pow_add, Nat.pow_add]
      rw [e1, e6]
      have hb : ((m * 2 ^ (k + 52) % n) != 0).toNat ≤ 1 := Bool.toNat_le _
      have hpos : 1 ≤ 2 ^ (E - i).toNat * 2 ^ k := Nat.mul_pos (Nat.two_pow_pos _) (Nat.two_pow_pos _)
      generalize 2 ^ (E - i).toNat * 2 ^ k = z at hd hpos ⊢
      omega
  obtain ⟨m', e', h3, h4⟩ := num_word (s ^^ t) hle h1 h2
  exact ⟨_, _, _, h3, h4⟩

theorem narrow_num {x : F64} {s : Bool} {m : Nat} {e : Int} (h : Num x s m e) {r : Nat} (hr : single.nearest s m e = single.word s r) (hi : r < single.infRung) : fits x = true ∧ finS (narrow x) = true := by
  obtain ⟨q, rfl, hq⟩ := h
  have hd : FloatKind.f64.decode q = .number s m e := hq
  have e3 : single.infRung = 255 * 2 ^ 23 := by decide
  have e4 : single.signWeight = 256 * 2 ^ 23 := by decide
  have hread : ∃ m' e', single.read (single.word s r) = .number s m' e' := by
    rw [read_word single s (by omega)]
    unfold readRung
    split
    · exact ⟨_, _, rfl⟩
    · first | exact ⟨_, _, rfl⟩ | (rw [if_pos hi]; exact ⟨_, _, rfl⟩)
  obtain ⟨m', e', hm⟩ := hread
  have hn : FloatKind.f32.encode (.number s m e) = single.word s r := hr
  have hm2 : FloatKind.f32.decode (single.word s r) = .number s m' e' := hm
  refine ⟨?_, ?_⟩
  · simp only [fits, hd, hn, hm2]; rfl
  · have : narrow (bx q) = sx (single.word s r) := by simp only [narrow, hd, hn]; rfl
    rw [this]
    exact NumS.fin ⟨_, rfl, hm⟩

/-- Numbers of a moderate size are narrowed to numbers. -/
theorem Up.narrow {x : F64} (h : Up 127 x) : fits x = true ∧ finS (Fx.narrow x) = true := by
  obtain ⟨s, m, e, hx, hm⟩ := h
  have e1 : single.leastPlace = -149 := by decide
  have e2 : single.fractionBits = 23 := rfl
  have e3 : single.infRung = 255 * 2 ^ 23 := by decide
  have e5 : single.binade = 2 ^ 23 := by decide
  obtain ⟨r, hr, hr1, _⟩ := nearest_le single s (E := 127) (by rw [e1, e2]; omega) hm
  refine narrow_num hx hr ?_
  refine Nat.lt_of_le_of_lt hr1 ?_
  unfold rungPow
  rw [e1, e2, e3, e5]
  exact Nat.mul_lt_mul_of_pos_right (by omega) (by decide)

/-- A 32-bit number less a small one is narrowed to a number. -/
theorem near_narrow {x : F32} {y : F64} (hx : finS x = true) (hy : Up 73 y) : fits (widen x - y) = true ∧ finS (narrow (widen x - y)) = true := by
  obtain ⟨s, m, e, hx⟩ := fin_num hx
  obtain ⟨b1, b2, b3⟩ := hx.bound
  obtain ⟨j, hw⟩ := widen_numS hx
  obtain ⟨t, n, i, hy, hn⟩ := hy
  obtain ⟨c1, c2, c3⟩ := hy.bound
  obtain ⟨g1, g2, g3⟩ := hw.bound
  have e1 : double.leastPlace = -1074 := by decide
  have e2 : double.fractionBits = 52 := rfl
  have e3 : double.infRung = 2047 * 2 ^ 52 := by decide
  have e4 : double.signWeight = 2048 * 2 ^ 52 := by decide
  have e5 : double.binade = 2 ^ 52 := by decide
  rw [hw.sub hy]
  unfold addW
  obtain ⟨sg, hsg⟩ : ∃ sg, sg = (if signed s (m * 2 ^ j) (e - j - min (e - j) i).toNat + signed (!t) n (i - min (e - j) i).toNat = 0 then s && !t else decide (signed s (m * 2 ^ j) (e - j - min (e - j) i).toNat + signed (!t) n (i - min (e - j) i).toNat < 0)) := ⟨_, rfl⟩
  rw [← hsg]
  have hT : (signed s (m * 2 ^ j) (e - j - min (e - j) i).toNat + signed (!t) n (i - min (e - j) i).toNat).natAbs ≤ m * 2 ^ (e - min (e - j) i).toNat + n * 2 ^ (i - min (e - j) i).toNat := by
    have := Int.natAbs_add_le (signed s (m * 2 ^ j) (e - j - min (e - j) i).toNat) (signed (!t) n (i - min (e - j) i).toNat)
    rw [signed_natAbs, signed_natAbs, Nat.mul_assoc, ← Nat.pow_add] at this
    have e9 : j + (e - j - min (e - j) i).toNat = (e - min (e - j) i).toNat := by omega
    rw [e9] at this
    exact this
  generalize (signed s (m * 2 ^ j) (e - j - min (e - j) i).toNat + signed (!t) n (i - min (e - j) i).toNat).natAbs = T at hT
  obtain ⟨b, hb⟩ : ∃ b, b = min (e - (j : Int)) i := ⟨_, rfl⟩
  rw [← hb] at hT ⊢
  have hmb : m * 2 ^ (e - b).toNat ≤ (2 ^ 24 - 1) * 2 ^ (104 - b).toNat := Nat.mul_le_mul (by omega) (Nat.pow_le_pow_right (by decide) (by omega))
  have key : 2 * T * 2 ^ (b - 75).toNat < (2 * ((2 ^ 24 - 1) * 2 ^ 29) + 1) * 2 ^ (75 - b).toNat := by
    by_cases hb75 : b ≤ 75
    · have a1 : (b - 75).toNat = 0 := by omega
      have a2 : (104 - b).toNat = 29 + (75 - b).toNat := by omega
      rw [a1, Nat.pow_zero, Nat.mul_one]
      rw [a2, Nat.pow_add, ← Nat.mul_assoc] at hmb
      have hnb : 2 * (n * 2 ^ (i - b).toNat) < 2 ^ (75 - b).toNat := by
        rcases hn with rfl | ⟨k1, k2⟩
        · rw [Nat.zero_mul]; exact Nat.two_pow_pos _
        · have a3 : (75 - b).toNat = (73 - i).toNat + (i - b).toNat + 2 := by omega
          rw [a3, Nat.pow_add, Nat.pow_add]
          have := Nat.mul_le_mul_right (2 ^ (i - b).toNat) k2
          have hp : 0 < 2 ^ (73 - i).toNat * 2 ^ (i - b).toNat := Nat.mul_pos (Nat.two_pow_pos _) (Nat.two_pow_pos _)
          generalize 2 ^ (73 - i).toNat * 2 ^ (i - b).toNat = z at this hp ⊢
          omega
      rw [Nat.add_mul, Nat.one_mul, Nat.mul_assoc 2]
      generalize (2 ^ 24 - 1) * 2 ^ 29 * 2 ^ (75 - b).toNat = z1 at hmb ⊢
      omega
    · have hn0 : n = 0 := by rcases hn with h | ⟨k1, k2⟩; exact h; omega
      subst hn0
      have a1 : (75 - b).toNat = 0 := by omega
      rw [a1, Nat.pow_zero, Nat.mul_one]
      have h5 : T * 2 ^ (b - 75).toNat ≤ (2 ^ 24 - 1) * 2 ^ 29 := by
        refine Nat.le_trans (Nat.mul_le_mul_right _ (Nat.le_trans hT (by rw [Nat.zero_mul, Nat.add_zero]; exact hmb))) ?_
        rw [Nat.mul_assoc, ← Nat.pow_add]
        exact Nat.mul_le_mul_left _ (Nat.pow_le_pow_right (by decide) (by omega))
      rw [Nat.mul_assoc]; omega
  obtain ⟨r, hr, hr1, _⟩ := nearest_lt double sg (mag := T) (c := (2 ^ 24 - 1) * 2 ^ 29) (place := b) (p := 75) (by rw [e2]; decide) (by rw [e2]; decide) (by rw [e1]; decide) key
  have hlt : r < double.infRung := by
    refine Nat.lt_of_le_of_lt hr1 ?_
    rw [e1, e3, e5]; decide
  obtain ⟨m', e', hm', he', hle⟩ := readRung_lt double sg (c := (2 ^ 24 - 1) * 2 ^ 29) (p := 75) (by rw [e2]; decide) (by rw [e2]; decide) (by rw [e1]; decide) hr1 hlt
  have hN : Num (bx (double.nearest sg T b)) sg m' e' := ⟨_, rfl, by rw [hr, read_word double sg (by omega), hm']⟩
  have f1 : single.leastPlace = -149 := by decide
  have f2 : single.fractionBits = 23 := rfl
  have f3 : single.infRung = 255 * 2 ^ 23 := by decide
  have f5 : single.binade = 2 ^ 23 := by decide
  have hle2 : m' * 2 ^ (e' - 104).toNat ≤ (2 ^ 24 - 1) * 2 ^ (104 - e').toNat := by
    by_cases h1 : e' ≤ 75
    · have a1 : (e' - 75).toNat = 0 := by omega
      have a2 : (e' - 104).toNat = 0 := by omega
      have a3 : (104 - e').toNat = 29 + (75 - e').toNat := by omega
      rw [a2, a3, Nat.pow_add, ← Nat.mul_assoc]
      rw [a1] at hle
      exact hle
    · have a1 : (75 - e').toNat = 0 := by omega
      rw [a1, Nat.pow_zero, Nat.mul_one] at hle
      by_cases h2 : e' ≤ 104
      · have a2 : (e' - 104).toNat = 0 := by omega
        rw [a2, Nat.pow_zero, Nat.mul_one]
        refine Nat.le_of_mul_le_mul_right (c := 2 ^ (e' - 75).toNat) ?_ (Nat.two_pow_pos _)
        rw [Nat.mul_assoc, ← Nat.pow_add]
        have a3 : (104 - e').toNat + (e' - 75).toNat = 29 := by omega
        rw [a3]; exact hle
      · have a2 : (104 - e').toNat = 0 := by omega
        rw [a2, Nat.pow_zero, Nat.mul_one]
        have a3 : (e' - 75).toNat = (e' - 104).toNat + 29 := by omega
        rw [a3, Nat.pow_add, ← Nat.mul_assoc] at hle
        exact Nat.le_of_mul_le_mul_right hle (by decide)
  obtain ⟨r2, hr2, hr3, _⟩ := nearest_lt single sg (mag := m') (c := 2 ^ 24 - 1) (place := e') (p := 104) (by rw [f2]; decide) (by rw [f2]; decide) (by rw [f1]; decide) (by
    rw [Nat.mul_assoc]
    have : 0 < 2 ^ (104 - e').toNat := Nat.two_pow_pos _
    rw [Nat.add_mul, Nat.mul_assoc 2]
    omega)
  refine narrow_num hN hr2 (Nat.lt_of_le_of_lt hr3 ?_)
  rw [f1, f3, f5]; decide

end Go.Proofs.Ytlpahmefebgdlaa.Fx
