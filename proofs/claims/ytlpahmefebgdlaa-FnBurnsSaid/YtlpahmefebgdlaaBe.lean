/- The law FnBurns: its second part at all numbers. No condition. -/
import Derived.Test.YtlpahmefebgdlaaBc
namespace Go.Proofs.Ytlpahmefebgdlaa.Fx
theorem row2_0 : row2 0 = true := by decide +kernel
theorem row2_1 : row2 1 = true := by decide +kernel
theorem row2_2 : row2 2 = true := by decide +kernel
theorem row2_3 : row2 3 = true := by decide +kernel
theorem row2_4 : row2 4 = true := by decide +kernel
theorem row2_5 : row2 5 = true := by decide +kernel
theorem row2_6 : row2 6 = true := by decide +kernel
theorem row2_7 : row2 7 = true := by decide +kernel
end Go.Proofs.Ytlpahmefebgdlaa.Fx
