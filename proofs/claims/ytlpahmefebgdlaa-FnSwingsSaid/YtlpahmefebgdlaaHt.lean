/- The law FnSwings: what the kernel reckons. No condition. -/
import Derived.Test.YtlpahmefebgdlaaJd
namespace Go.Proofs.Ytlpahmefebgdlaa.Fx
open Go Nr Ieee

def numD (x : F64) : Option (Bool × Nat × Int) := match x with
  | some r => match double.read r with
    | .number s m e => some (s, m, e)
    | _ => none
  | none => none
def numF (x : F32) : Option (Bool × Nat × Int) := match x with
  | some r => match single.read r with
    | .number s m e => some (s, m, e)
    | _ => none
  | none => none
def within (n : Option (Bool × Nat × Int)) (lo hi : Rat) : Bool := match n with
  | some (s, m, e) => decide (lo ≤ val s m e) && decide (val s m e ≤ hi)
  | none => false
theorem within_D {x : F64} {lo hi : Rat} (h : within (numD x) lo hi = true) : ∃ v, Has x v ∧ lo ≤ v ∧ v ≤ hi := by
  unfold within numD at h
  cases x with
  | none => cases h
  | some r =>
    cases hr : double.read r with
    | number s m e =>
      simp only [hr, Bool.and_eq_true, decide_eq_true_eq] at h
      exact ⟨_, ⟨s, m, e, ⟨r, rfl, hr⟩, rfl⟩, h.1, h.2⟩
    | infinity s => simp [hr] at h
    | nan s f => simp [hr] at h
theorem within_F {x : F32} {lo hi : Rat} (h : within (numF x) lo hi = true) : ∃ v, HasS x v ∧ lo ≤ v ∧ v ≤ hi := by
  unfold within numF at h
  cases x with
  | none => cases h
  | some r =>
    cases hr : single.read r with
    | number s m e =>
      simp only [hr, Bool.and_eq_true, decide_eq_true_eq] at h
      exact ⟨_, ⟨s, m, e, ⟨r, rfl, hr⟩, rfl⟩, h.1, h.2⟩
    | infinity s => simp [hr] at h
    | nan s f => simp [hr] at h
def eqb (x y : F64) : Bool := match x, y with
  | some r, some q => r == q
  | _, _ => false
theorem eqb_eq {x y : F64} (h : eqb x y = true) : x = y := by
  unfold eqb at h
  cases x with
  | none => cases h
  | some r =>
    cases y with
    | none => cases h
    | some q => exact congrArg some (eq_of_beq h)
def chkRound (j : Nat) : Bool := isTurn (swRound j) && (within (numF (swRound j)) 0 1 && (eqb (swingPhase (widen (swRound j)) zero) zero && eqb (swingPhase (widen (swRound j)) one) one))
def chkPhase (k : Nat) : Bool := within (numF (swPhase k)) 0 (255 / 256) && (finS (swPhase k + two32) && (eqb (wrap (widen (swPhase k))) (widen (swPhase k)) && eqb (wrap (widen (swPhase k + two32))) (widen (swPhase k))))
def chkOpen (j : Nat) : Bool := within (numF (swOpen j)) (5 / 4) (21 / 4) && (eqb (gv (widen (swOpen j)) zero) zero && (within (numD (gv (widen (swOpen j)) five)) 60 10000 && within (numD (gv (widen (swOpen j)) mfive)) (-10000) (-60)))
def chkFar (k : Nat) : Bool := within (numF (swFar k)) (-8) 8
theorem rounds_ok : (List.range 29).all chkRound = true := by decide +kernel
theorem phases_ok : (List.range 256).all chkPhase = true := by decide +kernel
theorem opens_ok : (List.range 17).all chkOpen = true := by decide +kernel
theorem fars_ok : (List.range 129).all chkFar = true := by decide +kernel
theorem all_at {n : Nat} {f : Nat → Bool} (h : (List.range n).all f = true) {k : Nat} (hk : k < n) : f k = true := List.all_eq_true.1 h k (List.mem_range.2 hk)
end Go.Proofs.Ytlpahmefebgdlaa.Fx
