/- The law FnRests: at all shares and points, part 1. No condition. -/
import Derived.Test.YtlpahmefebgdlaaRe
namespace Go.Proofs.Ytlpahmefebgdlaa.Fx
theorem rs_0 : shareRow 0 = true := by decide +kernel
theorem rt_0_0 : atBlock 0 0 16 11 = true := by decide +kernel
theorem rt_0_11 : atBlock 0 11 16 11 = true := by decide +kernel
theorem rt_0_22 : atBlock 0 22 16 11 = true := by decide +kernel
theorem rs_1 : shareRow 1 = true := by decide +kernel
theorem rt_1_0 : atBlock 1 0 16 11 = true := by decide +kernel
theorem rt_1_11 : atBlock 1 11 16 11 = true := by decide +kernel
theorem rt_1_22 : atBlock 1 22 16 11 = true := by decide +kernel
theorem rs_2 : shareRow 2 = true := by decide +kernel
theorem rt_2_0 : atBlock 2 0 16 11 = true := by decide +kernel
theorem rt_2_11 : atBlock 2 11 16 11 = true := by decide +kernel
theorem rt_2_22 : atBlock 2 22 16 11 = true := by decide +kernel
theorem rs_3 : shareRow 3 = true := by decide +kernel
theorem rt_3_0 : atBlock 3 0 16 11 = true := by decide +kernel
theorem rt_3_11 : atBlock 3 11 16 11 = true := by decide +kernel
theorem rt_3_22 : atBlock 3 22 16 11 = true := by decide +kernel
end Go.Proofs.Ytlpahmefebgdlaa.Fx
