/- Texts put together: Ks. No condition. -/
import Derived.Test.YtlpahmefebgdlaaPo
/- The law FnSections: the cells of maps, shares 8 to 15. No condition. -/
namespace Go.Proofs.Ytlpahmefebgdlaa.Fx
open Go

theorem rm_six8 : rmSix (scShare 8) = true := by decide +kernel
theorem rm_six9 : rmSix (scShare 9) = true := by decide +kernel
theorem rm_six10 : rmSix (scShare 10) = true := by decide +kernel
theorem rm_six11 : rmSix (scShare 11) = true := by decide +kernel
theorem rm_six12 : rmSix (scShare 12) = true := by decide +kernel
theorem rm_six13 : rmSix (scShare 13) = true := by decide +kernel
theorem rm_six14 : rmSix (scShare 14) = true := by decide +kernel
theorem rm_six15 : rmSix (scShare 15) = true := by decide +kernel
theorem rm_all (a : Int) (h0 : 0 ≤ a) (h1 : a < 16) (n : Nat) (n1 : 1 ≤ n) (n6 : n ≤ 6) : rmQ (scShare a) n = true := by
  have key : ∀ s : F32, rmSix s = true → rmQ s n = true := by
    intro s h
    unfold rmSix at h
    simp only [Bool.and_eq_true] at h
    obtain ⟨g1, g2, g3, g4, g5, g6⟩ := h
    have h' : n = 1 ∨ n = 2 ∨ n = 3 ∨ n = 4 ∨ n = 5 ∨ n = 6 := by omega
    rcases h' with rfl | rfl | rfl | rfl | rfl | rfl
    · exact g1
    · exact g2
    · exact g3
    · exact g4
    · exact g5
    · exact g6
  have h' : a = 0 ∨ a = 1 ∨ a = 2 ∨ a = 3 ∨ a = 4 ∨ a = 5 ∨ a = 6 ∨ a = 7 ∨ a = 8 ∨ a = 9 ∨ a = 10 ∨ a = 11 ∨ a = 12 ∨ a = 13 ∨ a = 14 ∨ a = 15 := by omega
  rcases h' with rfl | rfl | rfl | rfl | rfl | rfl | rfl | rfl | rfl | rfl | rfl | rfl | rfl | rfl | rfl | rfl
  · exact key _ rm_six0
  · exact key _ rm_six1
  · exact key _ rm_six2
  · exact key _ rm_six3
  · exact key _ rm_six4
  · exact key _ rm_six5
  · exact key _ rm_six6
  · exact key _ rm_six7
  · exact key _ rm_six8
  · exact key _ rm_six9
  · exact key _ rm_six10
  · exact key _ rm_six11
  · exact key _ rm_six12
  · exact key _ rm_six13
  · exact key _ rm_six14
  · exact key _ rm_six15
end Go.Proofs.Ytlpahmefebgdlaa.Fx
