/- Functions over floats that the kernel reckons fast: exponentials, logarithms, tests. No condition. -/
import Derived.Test.YtlpahmefebgdlaaFd
import Derived.Test.YtlpahmefebgdlaaCr
namespace Go.Proofs.Ytlpahmefebgdlaa.Fx
open Go Fa

/-- A float reckoned before it is handed on. -/
noncomputable def fo {k : FloatKind} {α : Type} (x : Fl k) (f : Fl k → α) : α := Option.rec (f none) (fun n => fc n fun n => f (some n)) x
theorem fo_eq {k : FloatKind} {α : Type} (x : Fl k) (f : Fl k → α) : fo x f = f x := by
  cases x with
  | none => rfl
  | some n => exact fc_eq n fun n => f (some n)
theorem bb_cond {α : Type} (c : Bool) (x y : α) : bb c x y = bif c then x else y := by cases c <;> rfl

-- finite numbers
noncomputable def isInfK (x : F64) : Bool := gtD (absD x) (c64 9218868437227405311)
theorem isInfK_eq (x : F64) : isInfK x = isInf x := by unfold isInfK isInf; rw [gtD_eq, absD_eq]
noncomputable def finK64 (x : F64) : Bool := bb (neD x x) false (!(isInfK x))
theorem finK64_eq (x : F64) : finK64 x = finite x := by
  unfold finK64 finite
  rw [bb_cond, neD_eq, isInfK_eq]
  cases ne x x <;> rfl
noncomputable def isFinK (x : F32) : Bool := fo (widenF x) finK64
theorem isFinK_eq (x : F32) : isFinK x = isFinite x := by unfold isFinK isFinite; rw [fo_eq, finK64_eq, widenF_eq]
noncomputable def aLengthK (x : F32) : Bool := bb (isFinK x) (gtS x (c32 0)) false
theorem aLengthK_eq (x : F32) : aLengthK x = aLength x := by
  unfold aLengthK aLength
  rw [bb_cond, isFinK_eq, gtS_eq]
  cases isFinite x <;> rfl
noncomputable def aMassK (x : F32) : Bool := bb (isFinK x) (geS x (c32 0)) false
theorem aMassK_eq (x : F32) : aMassK x = aMass x := by
  unfold aMassK aMass
  rw [bb_cond, isFinK_eq, geS_eq]
  cases isFinite x <;> rfl
noncomputable def toldVK (x : F32) : F32 := bb (isFinK x) x (c32 0)
theorem toldVK_eq (x : F32) : toldVK x = toldV x := by
  unfold toldVK toldV
  rw [bb_cond, isFinK_eq]
  cases isFinite x <;> rfl
theorem toldB_eq (x : F32) : toldB x = isFinite x := by unfold toldB; cases isFinite x <;> rfl

-- exponentials
noncomputable def expStepK (t p : F64) (k : Int) : F64 := addD one (divD (mulD t p) (ki k))
theorem expStepK_eq : expStepK = expStep := by funext t p k; unfold expStepK expStep; rw [addD_eq, divD_eq, mulD_eq]
noncomputable def expPolyK (t : F64) : F64 := [12, 11, 10, 9, 8, 7, 6, 5, 4, 3, 2, 1].foldl (expStepK t) one
theorem expPolyK_eq (t : F64) : expPolyK t = expPoly t := by unfold expPolyK expPoly; rw [expStepK_eq]
noncomputable def sqK (p : F64) : F64 := fo p fun p => mulD p p
theorem sqK_eq (p : F64) : sqK p = sq p := by unfold sqK sq; rw [fo_eq, mulD_eq]
noncomputable def expBody (x : F64) : F64 := bb (gtD x h200) inf64 (bb (ltD x m200) zero (fo (divD x k256) fun t => sqK (sqK (sqK (sqK (sqK (sqK (sqK (sqK (expPolyK t)))))))))) 
theorem expBody_eq (x : F64) : expBody x = exponential x := by
  unfold expBody exponential
  rw [bb_cond, bb_cond, gtD_eq, ltD_eq, fo_eq, divD_eq, expPolyK_eq]
  simp only [sqK_eq]; rfl
noncomputable def expK (x : F64) : F64 := fo x expBody
theorem expK_eq (x : F64) : expK x = exponential x := by unfold expK; rw [fo_eq, expBody_eq]

-- logarithms
noncomputable def halveK {α : Type} (n : Nat) (g : F64 → F64 → α) (no : α) : F64 → F64 → α :=
  Nat.rec (fun _ _ => no) (fun _ ih x e => bb (geD x k15) (fo (divD x two) fun x => fo (addD e one) fun e => ih x e) (g x e)) n
theorem halveK_eq {α : Type} (g : F64 → F64 → α) (no : α) : ∀ (n : Nat) (x e : F64), halveK n g no x e = bif (halve n (x, e)).1 then g (halve n (x, e)).2.1 (halve n (x, e)).2.2 else no
  | 0, x, e => rfl
  | n + 1, x, e => by
    show bb (geD x k15) (fo (divD x two) fun x => fo (addD e one) fun e => halveK n g no x e) (g x e) = _
    simp only [halve]
    rw [bb_cond, geD_eq, fo_eq, fo_eq, divD_eq, addD_eq, halveK_eq g no n]
    cases ge x k15 <;> rfl
noncomputable def dblK {α : Type} (n : Nat) (g : F64 → F64 → α) (no : α) : F64 → F64 → α :=
  Nat.rec (fun _ _ => no) (fun _ ih x e => bb (ltD x k075) (fo (mulD x two) fun x => fo (subD e one) fun e => ih x e) (g x e)) n
theorem dblK_eq {α : Type} (g : F64 → F64 → α) (no : α) : ∀ (n : Nat) (x e : F64), dblK n g no x e = bif (dbl n (x, e)).1 then g (dbl n (x, e)).2.1 (dbl n (x, e)).2.2 else no
  | 0, x, e => rfl
  | n + 1, x, e => by
    show bb (ltD x k075) (fo (mulD x two) fun x => fo (subD e one) fun e => dblK n g no x e) (g x e) = _
    simp only [dbl]
    rw [bb_cond, ltD_eq, fo_eq, fo_eq, mulD_eq, subD_eq, dblK_eq g no n]
    cases lt x k075 <;> rfl
noncomputable def logStepK (u q : F64) (k : Int) : F64 := addD (divD one (ki k)) (mulD u q)
theorem logStepK_eq : logStepK = logStep := by funext u q k; unfold logStepK logStep; rw [addD_eq, divD_eq, mulD_eq]
noncomputable def logEndK (x e : F64) : F64 := fo (divD (subD x one) (addD x one)) fun s => fo (mulD s s) fun u => addD (mulD two (mulD s ([25, 23, 21, 19, 17, 15, 13, 11, 9, 7, 5, 3, 1].foldl (logStepK u) zero))) (mulD e ln2)
theorem logEndK_eq (x e : F64) : logEndK x e = logEnd x e := by
  unfold logEndK logEnd logPoly logS
  simp only [fo_eq, divD_eq, subD_eq, addD_eq, mulD_eq, logStepK_eq]
/-- The logarithm, if it is told. -/
noncomputable def natBody (x : F64) : Option F64 := halveK 8 (fun x e => dblK 8 (fun x e => fo (logEndK x e) some) none x e) none x zero
theorem natBody_eq (x : F64) : natBody x = bif natOk x then some (natLog x) else none := by
  unfold natBody natOk natLog nlB nlA
  rw [halveK_eq]
  cases (halve 8 (x, zero)).1
  · rfl
  · simp only [cond_true, Bool.true_and]
    rw [dblK_eq]
    simp only [fo_eq, logEndK_eq]
noncomputable def logBody (x : F64) : Option F64 := bb (neD x x) none (bb (ltD x zero) none (bb (eqD x zero) none (bb (gtD x (c64 9218868437227405311)) none (natBody x))))
theorem logBody_eq (x : F64) : logBody x = bif logOk x then some (natLog x) else none := by
  unfold logBody logOk isInf1
  simp only [bb_cond, neD_eq, ltD_eq, eqD_eq, gtD_eq, natBody_eq]
  cases ne x x <;> cases lt x zero <;> cases eq x zero <;> cases gt x (c64 9218868437227405311) <;> rfl
/-- Reckoned with the logarithm, if it is told. -/
noncomputable def logK {α : Type} (x : F64) (g : F64 → α) (no : α) : α := fo x fun x => Option.rec no (fun y => fo y g) (logBody x)
theorem logK_eq {α : Type} (x : F64) (g : F64 → α) (no : α) : logK x g no = bif logOk x then g (natLog x) else no := by
  unfold logK
  rw [fo_eq, logBody_eq]
  cases logOk x
  · rfl
  · exact fo_eq _ _
/-- Reckoned with a number narrowed, if it is told and finite. -/
noncomputable def tellBody (y : F64) : Option F32 := bb (fitsF y) (fo (narrowF y) fun z => bb (isFinK z) (some z) none) none
noncomputable def tellK {α : Type} (y : F64) (g : F32 → α) (no : α) : α := fo y fun y => Option.rec no (fun z => fo z g) (tellBody y)
def tellOk (y : F64) : Bool := fits y && isFinite (narrow y)
theorem tellK_eq {α : Type} (y : F64) (g : F32 → α) (no : α) : tellK y g no = bif tellOk y then g (narrow y) else no := by
  unfold tellK tellBody tellOk
  simp only [fo_eq, bb_cond, fitsF_eq, narrowF_eq, isFinK_eq]
  cases fits y
  · rfl
  · cases isFinite (narrow y) <;> rfl
noncomputable def gapK (a b : F64) : F64 := bb (ltD a b) (subD b a) (subD a b)
theorem gapK_eq (a b : F64) : gapK a b = gapB a b := by unfold gapK gapB; rw [bb_cond, ltD_eq, subD_eq, subD_eq]
/-- All numbers below n. -/
noncomputable def allK (n : Nat) (p : Nat → Bool) : Bool := Nat.rec true (fun i ih => bb (p i) ih false) n
theorem allK_of {n : Nat} {p : Nat → Bool} (h : allK n p = true) : ∀ i, i < n → p i = true := by
  induction n with
  | zero => intro i hi; cases hi
  | succ n ih =>
    have h' : bb (p n) (allK n p) false = true := h
    rw [bb_cond] at h'
    intro i hi
    cases hp : p n with
    | false => rw [hp] at h'; cases h'
    | true =>
      rw [hp] at h'
      rcases Nat.lt_succ_iff_lt_or_eq.1 hi with hlt | rfl
      · exact ih h' i hlt
      · exact hp
end Go.Proofs.Ytlpahmefebgdlaa.Fx
