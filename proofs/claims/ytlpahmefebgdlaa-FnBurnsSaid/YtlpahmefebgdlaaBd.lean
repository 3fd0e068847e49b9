/- The law FnBurns: its first part at all numbers. No condition. -/
import Derived.Test.YtlpahmefebgdlaaBc
namespace Go.Proofs.Ytlpahmefebgdlaa.Fx
theorem row1_0 : row1 0 17 = true := by decide +kernel
theorem row1_1 : row1 1 17 = true := by decide +kernel
theorem row1_2 : row1 2 17 = true := by decide +kernel
theorem row1_3 : row1 3 17 = true := by decide +kernel
theorem row1_4 : row1 4 17 = true := by decide +kernel
theorem row1_5 : row1 5 17 = true := by decide +kernel
theorem row1_6 : row1 6 17 = true := by decide +kernel
theorem row1_7 : row1 7 17 = true := by decide +kernel
theorem row1_8 : row1 8 17 = true := by decide +kernel
theorem row1_9 : row1 9 17 = true := by decide +kernel
theorem row1_10 : row1 10 17 = true := by decide +kernel
theorem row1_11 : row1 11 17 = true := by decide +kernel
theorem row1_12 : row1 12 17 = true := by decide +kernel
theorem row1_13 : row1 13 17 = true := by decide +kernel
theorem row1_14 : row1 14 17 = true := by decide +kernel
theorem row1_15 : row1 15 17 = true := by decide +kernel
end Go.Proofs.Ytlpahmefebgdlaa.Fx
