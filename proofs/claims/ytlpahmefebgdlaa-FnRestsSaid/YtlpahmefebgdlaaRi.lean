/- The law FnRests: at all shares and points, part 4. No condition. -/
import Derived.Test.YtlpahmefebgdlaaRe
namespace Go.Proofs.Ytlpahmefebgdlaa.Fx
theorem rs_12 : shareRow 12 = true := by decide +kernel
theorem rt_12_0 : atBlock 12 0 16 11 = true := by decide +kernel
theorem rt_12_11 : atBlock 12 11 16 11 = true := by decide +kernel
theorem rt_12_22 : atBlock 12 22 16 11 = true := by decide +kernel
theorem rs_13 : shareRow 13 = true := by decide +kernel
theorem rt_13_0 : atBlock 13 0 16 11 = true := by decide +kernel
theorem rt_13_11 : atBlock 13 11 16 11 = true := by decide +kernel
theorem rt_13_22 : atBlock 13 22 16 11 = true := by decide +kernel
theorem rs_14 : shareRow 14 = true := by decide +kernel
theorem rt_14_0 : atBlock 14 0 16 11 = true := by decide +kernel
theorem rt_14_11 : atBlock 14 11 16 11 = true := by decide +kernel
theorem rt_14_22 : atBlock 14 22 16 11 = true := by decide +kernel
theorem rs_15 : shareRow 15 = true := by decide +kernel
theorem rt_15_0 : atBlock 15 0 16 11 = true := by decide +kernel
theorem rt_15_11 : atBlock 15 11 16 11 = true := by decide +kernel
theorem rt_15_22 : atBlock 15 22 16 11 = true := by decide +kernel
end Go.Proofs.Ytlpahmefebgdlaa.Fx
