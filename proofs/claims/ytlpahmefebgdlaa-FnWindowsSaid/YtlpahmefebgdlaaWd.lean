/- Contracts: windows. No condition. -/
import Derived.Test.YtlpahmefebgdlaaWc
import Derived.Test.YtlpahmefebgdlaaCh
import Derived.Test.YtlpahmefebgdlaaCr
namespace Go.Proofs.Ytlpahmefebgdlaa.Fx
open Go Go.RowKit

def wdD (m a b : F32) : F64 := one / (full * rounds (widen m) (widen a)) - one / (full * rounds (widen m) (widen b))
def wdX (m a b n : F32) : F64 := (widen n - lead (widen m) (widen a) (widen b)) / wdD m a b
def wdS (m a b : F32) : F64 := one / fabs (wdD m a b)
def wdA (m a b n : F32) : F64 := wdX m a b n - wdS m a b * whole .down (wdX m a b n / wdS m a b)
theorem window_raw (m a b n : F32) : runKM Try.prog [eAreLengths3, eIsFinite, eRounds, eLead, eAbs, eFloor, eNarrowed] [80] [] (G := anyW) [] noRule Try.f36 [.c (.fl .f32 m), .c (.fl .f32 a), .c (.fl .f32 b), .c (.fl .f32 n)] [] =
    bif !(aLength m && aLength a && aLength b) then some ZrA else bif !(isFinite n) then some ZrA else bif eq (wdD m a b) zero then some ZrA else
    bif fits (wdA m a b n) then (bif !(toldB (narrow (wdA m a b n))) then some ZrA else bif fits (wdS m a b) then (bif !(toldB (narrow (wdS m a b))) then some ZrA else
      some (.tup [.fl .f32 (toldV (narrow (wdA m a b n))), .fl .f32 (toldV (narrow (wdS m a b))), .sb true])) else none) else none := by kernel_rfl
def wdL (m a b n : F32) : Bool := (aLength m && aLength a && aLength b) && (isFinite n && !(eq (wdD m a b) zero))
def wdT (m a b n : F32) : Bool := toldB (narrow (wdA m a b n)) && toldB (narrow (wdS m a b))
def wdOk (m a b n : F32) : Bool := wdL m a b n && wdT m a b n
def wdQ (m a b n : F32) : Bool := !(wdL m a b n) || (fits (wdA m a b n) && fits (wdS m a b))
def wdV (m a b n : F32) : F32 := bif wdOk m a b n then toldV (narrow (wdA m a b n)) else c32 0
def wdW (m a b n : F32) : F32 := bif wdOk m a b n then toldV (narrow (wdS m a b)) else c32 0
theorem window_run (m a b n : F32) (h : wdQ m a b n = true) : runKM Try.prog [eAreLengths3, eIsFinite, eRounds, eLead, eAbs, eFloor, eNarrowed] [80] [] (G := anyW) [] noRule Try.f36 [.c (.fl .f32 m), .c (.fl .f32 a), .c (.fl .f32 b), .c (.fl .f32 n)] [] =
    some (.tup [.fl .f32 (wdV m a b n), .fl .f32 (wdW m a b n), .sb (wdOk m a b n)]) := by
  rw [window_raw]
  unfold wdQ at h
  unfold wdV wdW
  unfold wdOk
  unfold wdL at h ⊢
  cases h1 : aLength m && aLength a && aLength b
  · rfl
  · cases h2 : isFinite n
    · rfl
    · cases h3 : eq (wdD m a b) zero
      · rw [h1, h2, h3] at h
        simp only [Bool.not_false, Bool.and_self, Bool.not_true, Bool.false_or, Bool.and_eq_true] at h
        rw [h.1, h.2]
        unfold wdT
        cases toldB (narrow (wdA m a b n))
        · rfl
        · cases toldB (narrow (wdS m a b)) <;> rfl
      · rfl
def eWindow : Entry Try.prog := { f := 36, fn := shSSSS fun m a b n => (wdQ m a b n, .tup [.fl .f32 (wdV m a b n), .fl .f32 (wdW m a b n), .sb (wdOk m a b n)]), ok := okMSSSS Try.func36 (by kernel_rfl) noRule_far (loopsOk_none 0 _) window_run }
end Go.Proofs.Ytlpahmefebgdlaa.Fx
