/- The law FnWindows: what must hold, as the kernel reckons it fast. No condition. -/
import Derived.Test.YtlpahmefebgdlaaWf
import Derived.Test.YtlpahmefebgdlaaFe
namespace Go.Proofs.Ytlpahmefebgdlaa.Fx
open Go Fa

-- what must hold of the masses and circles
def wLead (m f t : F32) : F64 := lead (widen m) (widen f) (widen t)
def wRt (m f t : F32) : F64 := one / widen (narrow (peW f m)) - one / widen (narrow (peW t m))
def trip (m f t : F32) : Bool :=
  aboveS m && (aboveS f && (aboveS t && (f.isSome && (t.isSome && (wd32 (B f 0) && (wd32 (B t 0) && (!(eq (wdD m f t) zero) && (eq (wdD m f f) zero && (fits (wdS m f t) && (isFinite (narrow (wdS m f t)) &&
  (finS (narrow (wLead m f t)) && (fits (peW f m) && (finS (narrow (peW f m)) && (fits (peW t m) && (finS (narrow (peW t m)) &&
  (!(lt (narrow (wLead m f t)) (c32 3204465033)) && (!(gt (narrow (wLead m f t)) (c32 1056981385)) && lt (gapB (widen (narrow (wdS m f t)) * wRt m f t) one) centi64)))))))))))))))))
-- what must hold of the place now
def pnX (L d : F64) (n : F32) : F64 := (widen n - L) / d
def pnA (L d s : F64) (n : F32) : F64 := pnX L d n - s * whole .down (pnX L d n / s)
def pnV (L d s : F64) (n : F32) : F32 := narrow (pnA L d s n)
def pn0 (L d s lw rate : F64) (n : F32) : F64 := (widen n - widen (pnV L d s n) * rate) - lw
def pn1 (L d s lw rate : F64) (n : F32) : Bool × F64 := downs 8 (pn0 L d s lw rate n)
def pn2 (L d s lw rate : F64) (n : F32) : Bool × F64 := ups 8 (pn1 L d s lw rate n).2
def perN (L d s lw rate sm : F64) (n : F32) : Bool :=
  isFinite n && (fits (pnA L d s n) && (isFinite (pnV L d s n) && (!(lt (pnV L d s n) (c32 0)) && (!(gt (widen (pnV L d s n)) sm) &&
  ((pn1 L d s lw rate n).1 && ((pn2 L d s lw rate n).1 && lt (gapB (pn2 L d s lw rate n).2 zero) centi64))))))
def k1001 : F64 := c64 4607186922399644778
def wholeOk (m f t n : F32) : Bool := perN (wLead m f t) (wdD m f t) (wdS m f t) (widen (narrow (wLead m f t))) (wRt m f t) (widen (narrow (wdS m f t)) * k1001) n

theorem tv {x : F32} (h : isFinite x = true) : toldV x = x ∧ toldB x = true := by
  unfold toldV toldB; rw [h]; exact ⟨rfl, rfl⟩
theorem gv {x : F32} (h : finS x = true) : giveV x = x ∧ giveB x = true := by
  unfold giveV giveB; rw [h]; exact ⟨rfl, rfl⟩
theorem orb_zero {f : F32} (h : aboveS f = true) : orbS f (c32 0) (c32 0) (c32 0) (c32 0) (c32 0) = true ∧ gt f (c32 0) = true := by
  unfold aboveS at h
  simp only [Bool.and_eq_true] at h
  have z1 : finS (c32 0) = true := by kernel_rfl
  have z2 : ge (c32 0) (c32 0) = true := by kernel_rfl
  have z3 : le (c32 0) half32 = true := by kernel_rfl
  have z4 : isTurn (c32 0) = true := by kernel_rfl
  have z5 : lt (c32 0) (c32 1065353216) = true := by kernel_rfl
  unfold orbS
  rw [h.1, h.2, z1, z2, z3, z4, z5]
  exact ⟨rfl, rfl⟩
theorem some_bits {f : F32} (h : f.isSome = true) : c32 (B f 0) = f := by
  cases f with
  | none => cases h
  | some r => rfl
theorem period_of {f m : F32} (hm : aboveS m = true) (hf : aboveS f = true) (hs : f.isSome = true) (hw : wd32 (B f 0) = true) (h1 : fits (peW f m) = true) (h2 : finS (narrow (peW f m)) = true) :
    wPq (wBits f) m = true ∧ wPv (wBits f) m = narrow (peW f m) ∧ wPb (wBits f) m = true := by
  have hb : wBits f = B f 0 := by unfold wBits; rw [hf]; rfl
  have ho := orb_zero hf
  have hc : peC f (c32 0) (c32 0) (c32 0) (c32 0) (c32 0) m = true := by unfold peC; rw [ho.1, ho.2, hm]; rfl
  rw [hb]
  unfold wPq wPv wPb
  rw [some_bits hs, hw]
  unfold peQ peV peB
  rw [hc, h1, (gv h2).1, (gv h2).2]
  exact ⟨rfl, rfl, rfl⟩
theorem wn_yes {m f t n : F32} (h : trip m f t = true) (hn : wholeOk m f t n = true) : wnAll m f t n = wYes := by
  unfold trip at h
  simp only [Bool.and_eq_true, Bool.not_eq_true'] at h
  obtain ⟨am, af, at', sf, st, wf, wt, d1, d2, s1, s2, l1, p1, p2, q1, q2, l2, l3, g1⟩ := h
  obtain ⟨f1, f2, f3⟩ := period_of am af sf wf p1 p2
  obtain ⟨t1, t2, t3⟩ := period_of am at' st wt q1 q2
  unfold wholeOk perN at hn
  simp only [Bool.and_eq_true, Bool.not_eq_true'] at hn
  obtain ⟨n1, n2, n3, n4, n5, n6, n7, n8⟩ := hn
  have hA : wdA m f t n = pnA (wLead m f t) (wdD m f t) (wdS m f t) n := rfl
  have hL : wdL m f t n = true := by unfold wdL; rw [long_eq, long_eq, long_eq, am, af, at', n1, d1]; rfl
  have hT : wdT m f t n = true := by
    unfold wdT; rw [hA]
    have := tv n3
    unfold pnV at this
    rw [this.2, (tv s2).2]; rfl
  have hO : wdOk m f t n = true := by unfold wdOk; rw [hL, hT]; rfl
  have hQ : wdQ m f t n = true := by unfold wdQ; rw [hL, hA, n2, s1]; rfl
  have hV : wdV m f t n = pnV (wLead m f t) (wdD m f t) (wdS m f t) n := by
    unfold wdV; rw [hO, hA]; exact (tv n3).1
  have hW : wdW m f t n = narrow (wdS m f t) := by unfold wdW; rw [hO]; exact (tv s2).1
  have hL' : wdL m f f n = false := by unfold wdL; rw [d2]; simp
  have hO' : wdOk m f f n = false := by unfold wdOk; rw [hL']; rfl
  have hQ' : wdQ m f f n = true := by unfold wdQ; rw [hL']; rfl
  have a3 : above3 m f t = true := by unfold above3; rw [am, af, at']; rfl
  have hl : ldV m f t = narrow (wLead m f t) := by unfold ldV; rw [a3]; exact (gv l1).1
  have hlb : ldB m f t = true := by unfold ldB; rw [a3]; exact (gv l1).2
  have hr : wRate m f t = wRt m f t := by unfold wRate wRt; rw [f2, t2]
  have h0 : wA0 m f t n = pn0 (wLead m f t) (wdD m f t) (wdS m f t) (widen (narrow (wLead m f t))) (wRt m f t) n := by
    unfold wA0 pn0; rw [hV, hr, hl]
  have h1 : wA1 m f t n = pn1 (wLead m f t) (wdD m f t) (wdS m f t) (widen (narrow (wLead m f t))) (wRt m f t) n := by unfold wA1 pn1; rw [h0]
  have h2 : wA2 m f t n = pn2 (wLead m f t) (wdD m f t) (wdS m f t) (widen (narrow (wLead m f t))) (wRt m f t) n := by unfold wA2 pn2; rw [h1]
  unfold wnAll
  rw [hQ, sf, st, f1, t1, hlb, hO, af, at', f3, t3, hl, l2, l3, hV, n4, hW, h1, h2, n6, n7, hQ', hO', n8, hr, g1]
  have n5' : gt (widen (pnV (wLead m f t) (wdD m f t) (wdS m f t) n)) (widen (narrow (wdS m f t)) * c64 4607186922399644778) = false := n5
  rw [n5']; rfl

-- as the kernel reckons it
noncomputable def anW (a b : Bool) : Bool := bb a b false
theorem anW_eq (a b : Bool) : anW a b = (a && b) := by cases a <;> rfl
noncomputable def finW (x : F32) : Bool := eqS (subS x x) (c32 0)
theorem finW_eq (x : F32) : finW x = finS x := by unfold finW finS; rw [subS_eq, eqS_eq]
noncomputable def aboveW (x : F32) : Bool := anW (finW x) (gtS x (c32 0))
theorem aboveW_eq (x : F32) : aboveW x = aboveS x := by unfold aboveW aboveS; rw [anW_eq, finW_eq, gtS_eq]
noncomputable def roundsW (m a : F64) : F64 := sqrtD (divD (mulD (mulD a a) a) m)
theorem roundsW_eq (m a : F64) : roundsW m a = rounds m a := by unfold roundsW rounds; rw [sqrtD_eq, divD_eq, mulD_eq, mulD_eq]
noncomputable def leadGW (m a b : F64) : F64 := subD half (divD (mulD pi (roundsW m (divD (addD a b) two))) (mulD full (roundsW m b)))
noncomputable def leadW (m a b : F64) : F64 := fo (leadGW m a b) fun g => subD g (floorD (addD g half))
theorem leadW_eq (m a b : F64) : leadW m a b = lead m a b := by
  unfold leadW leadGW lead leadG transfer
  rw [fo_eq]
  simp only [subD_eq, divD_eq, mulD_eq, addD_eq, roundsW_eq, floorD_eq]
noncomputable def periodW (a m : F64) : F64 := fo (absD a) fun a => divD full (sqrtD (divD m (mulD (mulD a a) a)))
theorem periodW_eq (f m : F32) : periodW (widen f) (widen m) = peW f m := by
  unfold periodW peW rate full
  rw [fo_eq]
  simp only [absD_eq, divD_eq, mulD_eq, sqrtD_eq]
noncomputable def downW (g : F64 → Bool) (k : Nat) : F64 → Bool := Nat.rec (fun _ => false) (fun _ ih a => bb (gtD a half) (fo (subD a one) ih) (g a)) k
theorem downW_eq (g : F64 → Bool) : ∀ (k : Nat) (a : F64), downW g k a = bif (downs k a).1 then g (downs k a).2 else false
  | 0, a => rfl
  | k + 1, a => by
    show bb (gtD a half) (fo (subD a one) (downW g k)) (g a) = _
    simp only [downs]
    rw [bb_cond, gtD_eq, fo_eq, subD_eq, downW_eq g k]
    cases gt a half <;> rfl
noncomputable def upW (g : F64 → Bool) (k : Nat) : F64 → Bool := Nat.rec (fun _ => false) (fun _ ih a => bb (ltD a mHalf) (fo (addD a one) ih) (g a)) k
theorem upW_eq (g : F64 → Bool) : ∀ (k : Nat) (a : F64), upW g k a = bif (ups k a).1 then g (ups k a).2 else false
  | 0, a => rfl
  | k + 1, a => by
    show bb (ltD a mHalf) (fo (addD a one) (upW g k)) (g a) = _
    simp only [ups]
    rw [bb_cond, ltD_eq, fo_eq, addD_eq, upW_eq g k]
    cases lt a mHalf <;> rfl
noncomputable def perW (L d s lw rate sm : F64) (n : F32) : Bool :=
  fo (widenF n) fun nn => fo (divD (subD nn L) d) fun x => fo (subD x (mulD s (floorD (divD x s)))) fun a =>
  anW (isFinK n) (anW (fitsF a) (fo (narrowF a) fun v => anW (isFinK v) (anW (!(ltS v (c32 0))) (fo (widenF v) fun w => anW (!(gtD w sm))
    (fo (subD (subD nn (mulD w rate)) lw) fun a0 => downW (fun a1 => upW (fun a2 => ltD (gapK a2 zero) centi64) 8 a1) 8 a0)))))
theorem perW_eq (L d s lw rate sm : F64) (n : F32) : perW L d s lw rate sm n = perN L d s lw rate sm n := by
  unfold perW perN pn2 pn1 pn0 pnV pnA pnX
  simp only [fo_eq, anW_eq, widenF_eq, divD_eq, subD_eq, mulD_eq, floorD_eq, isFinK_eq, fitsF_eq, narrowF_eq, ltS_eq, gtD_eq, downW_eq, upW_eq, ltD_eq, gapK_eq]
  congr 5
  generalize downs 8 _ = p
  cases p.1
  · rfl
  · simp only [cond_true, Bool.true_and]
    cases (ups 8 p.2).1 <;> rfl
noncomputable def tripW (m f t : F32) (g : F64 → F64 → F64 → F64 → F64 → F64 → Bool) : Bool :=
  fo (widenF m) fun M => fo (widenF f) fun R => fo (widenF t) fun Q => fo (divD one (mulD full (roundsW M R))) fun rf => fo (divD one (mulD full (roundsW M Q))) fun rt =>
  fo (subD rf rt) fun d => fo (divD one (absD d)) fun s => fo (narrowF s) fun sv => fo (leadW M R Q) fun L => fo (narrowF L) fun lv =>
  fo (periodW R M) fun pw => fo (periodW Q M) fun qw => fo (narrowF pw) fun p => fo (narrowF qw) fun q =>
  fo (subD (divD one (widenF p)) (divD one (widenF q))) fun rate => fo (widenF sv) fun sw =>
  anW (aboveW m) (anW (aboveW f) (anW (aboveW t) (anW f.isSome (anW t.isSome (anW (wd32 (B f 0)) (anW (wd32 (B t 0)) (anW (!(eqD d zero)) (anW (eqD (subD rf rf) zero) (anW (fitsF s) (anW (isFinK sv)
  (anW (finW lv) (anW (fitsF pw) (anW (finW p) (anW (fitsF qw) (anW (finW q) (anW (!(ltS lv (c32 3204465033))) (anW (!(gtS lv (c32 1056981385))) (anW (ltD (gapK (mulD sw rate) one) centi64)
  (fo (widenF lv) fun lw => fo (mulD sw k1001) fun sm => g L d s lw rate sm)))))))))))))))))))
theorem tripW_of {m f t : F32} {g : F64 → F64 → F64 → F64 → F64 → F64 → Bool} (h : tripW m f t g = true) :
    trip m f t = true ∧ g (wLead m f t) (wdD m f t) (wdS m f t) (widen (narrow (wLead m f t))) (wRt m f t) (widen (narrow (wdS m f t)) * k1001) = true := by
  unfold tripW at h
  simp only [fo_eq, anW_eq, widenF_eq, divD_eq, subD_eq, mulD_eq, isFinK_eq, fitsF_eq, narrowF_eq, ltS_eq, gtS_eq, ltD_eq, gapK_eq, roundsW_eq, absD_eq, leadW_eq, periodW_eq, aboveW_eq, eqD_eq, finW_eq, Bool.and_eq_true, Bool.not_eq_true'] at h
  obtain ⟨am, af, at', sf, st, wf, wt, d1, d2, s1, s2, l1, p1, p2, q1, q2, l2, l3, g1, hg⟩ := h
  refine ⟨?_, hg⟩
  unfold trip
  simp only [Bool.and_eq_true, Bool.not_eq_true']
  exact ⟨am, af, at', sf, st, wf, wt, d1, d2, s1, s2, l1, p1, p2, q1, q2, l2, l3, g1⟩
noncomputable def massW (a : Nat) : F32 := divS (lit .f32 (floatOfInt .f32 (1 + (a : Int)))) (c32 1073741824)
theorem massW_eq (a : Nat) : massW a = massOf a := by unfold massW massOf; rw [divS_eq]
noncomputable def fromW (a : Nat) : F32 := divS (wI (wInc (a : Int))) (c32 1082130432)
theorem fromW_eq (a : Nat) : fromW a = wFrom a := by unfold fromW wFrom; rw [divS_eq]
noncomputable def nowW (k : Nat) : F32 := divS (wI (IntKind.i64.wrap ((k : Int) - 32))) (c32 1115684864)
theorem nowW_eq (k : Nat) : nowW k = wNow k := by unfold nowW wNow; rw [divS_eq]
/-- At these masses and circles: everywhere. -/
noncomputable def winAt (n a b c : Nat) : Bool := fo (massW a) fun m => fo (fromW b) fun f => fo (addS f (fromW c)) fun t => tripW m f t fun L d s lw rate sm => allK n fun k => fo (nowW k) fun x => perW L d s lw rate sm x
theorem winAt_of {n a b c k : Nat} (h : winAt n a b c = true) (hk : k < n) : wnAll (massOf a) (wFrom b) (wFrom b + wFrom c) (wNow k) = wYes := by
  unfold winAt at h
  simp only [fo_eq, massW_eq, fromW_eq, addS_eq] at h
  obtain ⟨h1, h2⟩ := tripW_of h
  have h3 := allK_of h2 k hk
  rw [nowW_eq, perW_eq] at h3
  exact wn_yes h1 h3
noncomputable def winRow (n a b q : Nat) : Bool := allK q fun c => winAt n a b c
theorem winRow_of {n a b q c k : Nat} (h : winRow n a b q = true) (hc : c < q) (hk : k < n) : wnAll (massOf a) (wFrom b) (wFrom b + wFrom c) (wNow k) = wYes := winAt_of (allK_of h c hc) hk
end Go.Proofs.Ytlpahmefebgdlaa.Fx
