/- Contracts: SwingOf, PhaseOfSwing, LeanOf, two ways each; their laws. No condition. -/
import Derived.Test.YtlpahmefebgdlaaCe
import Derived.Test.YtlpahmefebgdlaaNw
namespace Go.Proofs.Ytlpahmefebgdlaa.Fx
open Go Go.RowKit Nr Ieee

def Zr : Option AV := some (.tup [.fl .f32 (c32 0), .sb false])

-- comparisons of 32-bit numbers
theorem ord_sx (a b : Nat) : ord (sx a) (sx b) = (single.read a).order (single.read b) := rfl
theorem total {x y : F32} (hx : finS x = true) (hy : finS y = true) : ∃ c, ord x y = some c := by
  obtain ⟨s, m, e, r, rfl, hr⟩ := fin_num hx
  obtain ⟨t, n, j, q, rfl, hq⟩ := fin_num hy
  rw [ord_sx, hr, hq]; exact ⟨_, rfl⟩
theorem lt_ge {x y : F32} (hx : finS x = true) (hy : finS y = true) : lt x y = !(ge x y) := by
  obtain ⟨c, h⟩ := total hx hy
  unfold lt ge; rw [h]; cases c <;> rfl
theorem gt_le {x y : F32} (hx : finS x = true) (hy : finS y = true) : gt x y = !(le x y) := by
  obtain ⟨c, h⟩ := total hx hy
  unfold gt le; rw [h]; cases c <;> rfl
/-- What lies between two numbers is a number. -/
theorem between {x a b : F32} (ha : finS a = true) (hb : finS b = true) (h1 : ge x a = true) (h2 : le x b = true) : finS x = true := by
  obtain ⟨s, m, e, r, rfl, hr⟩ := fin_num ha
  obtain ⟨t, n, j, q, rfl, hq⟩ := fin_num hb
  rcases numS_cases x with ⟨s, m, e, h⟩ | ⟨p, s, rfl, h⟩ | rfl | ⟨p, s, f, rfl, h⟩
  · exact h.fin
  · unfold ge at h1
    unfold le at h2
    rw [ord_sx, h, hr] at h1
    rw [ord_sx, h, hq] at h2
    cases s
    · cases h2
    · cases h1
  · cases h1
  · unfold ge at h1
    rw [ord_sx, h, hr] at h1
    cases h1

theorem fin0 : finS (c32 0) = true := by kernel_rfl
theorem fin1 : finS one32 = true := by kernel_rfl
theorem num_one32 : NumS one32 false (2 ^ 23) (-23) := ⟨_, rfl, by decide⟩
theorem num_zero32 : NumS (c32 0) false 0 (-149) := ⟨_, rfl, by decide⟩
theorem isTurn_fin {x : F32} (h : isTurn x = true) : finS x = true := by
  unfold isTurn at h
  rw [Bool.and_eq_true] at h
  refine between fin0 fin1 h.1 ?_
  have := h.2
  unfold lt at this
  unfold le
  show (ord x one32 == _ || _) = true
  rw [show ord x one32 = ord x (c32 1065353216) from rfl, this]; rfl

theorem le2_widen {m j : Nat} {e E : Int} (h : Le2 m e E) : Le2 (m * 2 ^ j) (e - j) E := by
  rcases h with h | ⟨h1, h2⟩
  · exact .inl (by rw [h, Nat.zero_mul])
  · refine .inr ⟨by omega, ?_⟩
    have : (E - (e - (j : Int))).toNat = (E - e).toNat + j := by omega
    rw [this, Nat.pow_add]
    exact Nat.mul_le_mul_right _ h2

theorem isTurn_up {x : F32} (h : isTurn x = true) : Up 0 (widen x) := by
  obtain ⟨s, m, e, hx⟩ := fin_num (isTurn_fin h)
  obtain ⟨b1, b2, b3⟩ := hx.bound
  obtain ⟨j, hj⟩ := widen_numS hx
  refine ⟨s, _, _, hj, le2_widen ?_⟩
  unfold isTurn at h
  rw [Bool.and_eq_true] at h
  obtain ⟨h1, h2⟩ := h
  obtain ⟨r, rfl, hr⟩ := hx
  obtain ⟨q, hq, hq2⟩ := num_one32
  obtain ⟨z, hz, hz2⟩ := num_zero32
  have h2' : lt (sx r) one32 = true := h2
  unfold lt at h2'
  unfold ge at h1
  rw [hq, ord_sx, hr, hq2] at h2'
  rw [hz, ord_sx, hr, hz2] at h1
  have e1 : (some (compare (signed s m (e - min e (-23)).toNat) (signed false (2 ^ 23) ((-23 : Int) - min e (-23)).toNat)) == some Ordering.lt) = true := h2'
  have e2 : (some (compare (signed s m (e - min e (-149)).toNat) (signed false 0 ((-149 : Int) - min e (-149)).toNat)) == some Ordering.gt || some (compare (signed s m (e - min e (-149)).toNat) (signed false 0 ((-149 : Int) - min e (-149)).toNat)) == some Ordering.eq) = true := h1
  rw [cmp_lt] at e1
  rw [cmp_gt, cmp_eq] at e2
  simp only [signed_eq, Nat.zero_mul] at e1 e2
  by_cases hm : m = 0
  · exact .inl hm
  · right
    have hp : 0 < m * 2 ^ (e - min e (-149)).toNat := Nat.mul_pos (Nat.pos_of_ne_zero hm) (Nat.two_pow_pos _)
    have hs : s = false := by
      cases s with
      | false => rfl
      | true =>
        exfalso
        generalize m * 2 ^ (e - min e (-149)).toNat = z at hp e2
        simp at e2
        omega
    subst hs
    have e3 : m * 2 ^ (e - min e (-23)).toNat < 2 ^ 23 * 2 ^ ((-23 : Int) - min e (-23)).toNat := by
      generalize m * 2 ^ (e - min e (-23)).toNat = z1 at e1 ⊢
      generalize 2 ^ 23 * 2 ^ ((-23 : Int) - min e (-23)).toNat = z2 at e1 ⊢
      simpa using e1
    rw [← Nat.pow_add] at e3
    have hle : 2 ^ (e - min e (-23)).toNat ≤ m * 2 ^ (e - min e (-23)).toNat := Nat.le_mul_of_pos_left _ (Nat.pos_of_ne_zero hm)
    have h5 := (Nat.pow_lt_pow_iff_right (by decide)).1 (Nat.lt_of_le_of_lt hle e3)
    refine ⟨by omega, ?_⟩
    refine Nat.le_of_mul_le_mul_right (c := 2 ^ (e - min e (-23)).toNat) ?_ (Nat.two_pow_pos _)
    rw [← Nat.pow_add]
    refine Nat.le_trans (Nat.le_of_lt e3) (Nat.pow_le_pow_right (by decide) (by omega))

theorem told_fin {x : F32} (h : finS x = true) : toldV x = x ∧ toldB x = true := by
  unfold toldV toldB; rw [fin_eq, h]; exact ⟨rfl, rfl⟩
theorem give_fin {x : F32} (h : finS x = true) : giveV x = x ∧ giveB x = true := by
  unfold giveV giveB; rw [h]; exact ⟨rfl, rfl⟩

-- SwingOf
def swOk (r p : F32) : Bool := isTurn r && finS p
def swV (r p : F32) : F32 := bif swOk r p then narrow (swing (widen r) (widen p)) else c32 0
theorem eSwingOf_run (r p : F32) : run Try.prog [eAreFinite2, eIsTurn, eSwing, eNarrowed] Try.f39 [.c (.fl .f32 r), .c (.fl .f32 p)] [] = some (.tup [.fl .f32 (swV r p), .sb (swOk r p)]) := by
  have h : run Try.prog [eAreFinite2, eIsTurn, eSwing, eNarrowed] Try.f39 [.c (.fl .f32 r), .c (.fl .f32 p)] [] = bif !(!decide (idx2 r p ≥ 0)) then Zr else bif !(isTurn r) then Zr else
    bif fits (swing (widen r) (widen p)) then some (.tup [.fl .f32 (toldV (narrow (swing (widen r) (widen p)))), .sb (toldB (narrow (swing (widen r) (widen p))))]) else none := by kernel_rfl
  have hn := ((swing_up (widen r) (widen p)).mono (by decide : (0 : Int) ≤ 127)).narrow
  rw [h, idx2_eq, hn.1, (told_fin hn.2).1, (told_fin hn.2).2]
  unfold swV swOk
  cases h1 : isTurn r
  · cases finS r <;> cases finS p <;> simp only [Bool.not_true, Bool.not_false, Bool.and_true, Bool.and_false, cond_true, cond_false, Zr]
  · rw [isTurn_fin h1]; cases finS p <;> simp only [Bool.not_true, Bool.not_false, Bool.and_true, Bool.and_false, cond_true, cond_false, Zr]
def eSwingOf : Entry Try.prog := { f := 39, fn := shSS fun r p => rSB (swV r p) (swOk r p), ok := okSS (E := [eAreFinite2, eIsTurn, eSwing, eNarrowed]) Try.func39 (by kernel_rfl) fun r p _ => eSwingOf_run r p }
-- PhaseOfSwing
def psV (r p : F32) : F32 := bif swOk r p then narrow (swingPhase (widen r) (widen p)) else c32 0
theorem ps_narrow {r p : F32} (hr : isTurn r = true) (hp : finS p = true) : fits (swingPhase (widen r) (widen p)) = true ∧ finS (narrow (swingPhase (widen r) (widen p))) = true := by
  obtain ⟨s, m, e, hx⟩ := fin_num hp
  obtain ⟨j, hj⟩ := widen_numS hx
  have h1 := (isTurn_up hr).mul (sine_up hj) (by decide) (by decide)
  have h2 := h1.div lo_full (by decide) (by decide)
  exact near_narrow hp (h2.mono (by decide))
theorem ePhaseOfSwing_run (r p : F32) : run Try.prog [eAreFinite2, ePhaseOfSwing, eNarrowed] Try.f40 [.c (.fl .f32 r), .c (.fl .f32 p)] [] = some (.tup [.fl .f32 (psV r p), .sb (swOk r p)]) := by
  have h : run Try.prog [eAreFinite2, ePhaseOfSwing, eNarrowed] Try.f40 [.c (.fl .f32 r), .c (.fl .f32 p)] [] = bif !(!decide (idx2 r p ≥ 0)) then Zr else bif lt r (c32 0) then Zr else bif ge r one32 then Zr else
    bif fits (swingPhase (widen r) (widen p)) then some (.tup [.fl .f32 (toldV (narrow (swingPhase (widen r) (widen p)))), .sb (toldB (narrow (swingPhase (widen r) (widen p))))]) else none := by kernel_rfl
  rw [h, idx2_eq]
  unfold psV swOk
  cases h1 : finS r
  · have : isTurn r = false := by
      cases h2 : isTurn r with
      | false => rfl
      | true => rw [isTurn_fin h2] at h1; cases h1
    rw [this]; rfl
  · have e : isTurn r = (!(lt r (c32 0)) && !(ge r one32)) := by
      rw [lt_ge h1 fin0]
      unfold isTurn
      rw [show lt r (c32 1065353216) = lt r one32 from rfl, lt_ge h1 fin1, Bool.not_not]
    cases h2 : finS p
    · cases isTurn r <;> rfl
    · have hn := fun h => ps_narrow (r := r) (p := p) h h2
      rw [e] at hn ⊢
      cases h3 : lt r (c32 0)
      · cases h4 : ge r one32
        · rw [h3, h4] at hn
          obtain ⟨k1, k2⟩ := hn rfl
          rw [k1, (told_fin k2).1, (told_fin k2).2]; rfl
        · rfl
      · rfl
def ePhaseOfSwingOf : Entry Try.prog := { f := 40, fn := shSS fun r p => rSB (psV r p) (swOk r p), ok := okSS (E := [eAreFinite2, ePhaseOfSwing, eNarrowed]) Try.func40 (by kernel_rfl) fun r p _ => ePhaseOfSwing_run r p }
-- LeanOf
def m16 : F32 := c32 3246391296
def p16 : F32 := c32 1098907648
def leOk (r p : F32) : Bool := finS r && (gt r one32 && (ge p m16 && le p p16))
def leV (r p : F32) : F32 := bif leOk r p then narrow (lean (widen r) (widen p)) else c32 0
theorem eLeanOf_run (r p : F32) : run Try.prog [eAreFinite2, eLean, eNarrowed] Try.f42 [.c (.fl .f32 r), .c (.fl .f32 p)] [] = some (.tup [.fl .f32 (leV r p), .sb (leOk r p)]) := by
  have h : run Try.prog [eAreFinite2, eLean, eNarrowed] Try.f42 [.c (.fl .f32 r), .c (.fl .f32 p)] [] = bif !(!decide (idx2 r p ≥ 0)) then Zr else bif le r one32 then Zr else bif lt p m16 then Zr else bif gt p p16 then Zr else
    bif fits (lean (widen r) (widen p)) then some (.tup [.fl .f32 (toldV (narrow (lean (widen r) (widen p)))), .sb (toldB (narrow (lean (widen r) (widen p))))]) else none := by kernel_rfl
  have hn := ((lean_up (widen r) (widen p)).mono (by decide : (4 : Int) ≤ 127)).narrow
  rw [h, idx2_eq, hn.1, (told_fin hn.2).1, (told_fin hn.2).2]
  have k1 : finS m16 = true := by kernel_rfl
  have k2 : finS p16 = true := by kernel_rfl
  unfold leV leOk
  cases h1 : finS r
  · rfl
  · rw [gt_le h1 fin1]
    cases h2 : finS p
    · have : (ge p m16 && le p p16) = false := by
        cases h3 : ge p m16
        · rfl
        · cases h4 : le p p16
          · rfl
          · rw [between k1 k2 h3 h4] at h2; cases h2
      rw [this, Bool.and_false]; cases le r one32 <;> rfl
    · rw [lt_ge h2 k1, gt_le h2 k2]
      cases le r one32 <;> cases ge p m16 <;> cases le p p16 <;> rfl
def eLeanOf : Entry Try.prog := { f := 42, fn := shSS fun r p => rSB (leV r p) (leOk r p), ok := okSS (E := [eAreFinite2, eLean, eNarrowed]) Try.func42 (by kernel_rfl) fun r p _ => eLeanOf_run r p }
end Go.Proofs.Ytlpahmefebgdlaa.Fx
