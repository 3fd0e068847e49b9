/- The law FnRests: at all shares and points, part 2. No condition. -/
import Derived.Test.YtlpahmefebgdlaaRe
namespace Go.Proofs.Ytlpahmefebgdlaa.Fx
theorem rs_4 : shareRow 4 = true := by decide +kernel
theorem rt_4_0 : atBlock 4 0 16 11 = true := by decide +kernel
theorem rt_4_11 : atBlock 4 11 16 11 = true := by decide +kernel
theorem rt_4_22 : atBlock 4 22 16 11 = true := by decide +kernel
theorem rs_5 : shareRow 5 = true := by decide +kernel
theorem rt_5_0 : atBlock 5 0 16 11 = true := by decide +kernel
theorem rt_5_11 : atBlock 5 11 16 11 = true := by decide +kernel
theorem rt_5_22 : atBlock 5 22 16 11 = true := by decide +kernel
theorem rs_6 : shareRow 6 = true := by decide +kernel
theorem rt_6_0 : atBlock 6 0 16 11 = true := by decide +kernel
theorem rt_6_11 : atBlock 6 11 16 11 = true := by decide +kernel
theorem rt_6_22 : atBlock 6 22 16 11 = true := by decide +kernel
theorem rs_7 : shareRow 7 = true := by decide +kernel
theorem rt_7_0 : atBlock 7 0 16 11 = true := by decide +kernel
theorem rt_7_11 : atBlock 7 11 16 11 = true := by decide +kernel
theorem rt_7_22 : atBlock 7 22 16 11 = true := by decide +kernel
end Go.Proofs.Ytlpahmefebgdlaa.Fx
