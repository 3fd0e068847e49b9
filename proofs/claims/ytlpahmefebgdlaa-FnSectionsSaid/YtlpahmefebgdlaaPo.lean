/- Texts put together: Kr. No condition. -/
import Derived.Test.YtlpahmefebgdlaaPm
/- The law FnSections: the cells of maps, shares 0 to 7. No condition. -/
namespace Go.Proofs.Ytlpahmefebgdlaa.Fx
open Go

def rmSix (s : F32) : Bool := rmQ s 1 && (rmQ s 2 && (rmQ s 3 && (rmQ s 4 && (rmQ s 5 && rmQ s 6))))
theorem rm_six0 : rmSix (scShare 0) = true := by decide +kernel
theorem rm_six1 : rmSix (scShare 1) = true := by decide +kernel
theorem rm_six2 : rmSix (scShare 2) = true := by decide +kernel
theorem rm_six3 : rmSix (scShare 3) = true := by decide +kernel
theorem rm_six4 : rmSix (scShare 4) = true := by decide +kernel
theorem rm_six5 : rmSix (scShare 5) = true := by decide +kernel
theorem rm_six6 : rmSix (scShare 6) = true := by decide +kernel
theorem rm_six7 : rmSix (scShare 7) = true := by decide +kernel
end Go.Proofs.Ytlpahmefebgdlaa.Fx
