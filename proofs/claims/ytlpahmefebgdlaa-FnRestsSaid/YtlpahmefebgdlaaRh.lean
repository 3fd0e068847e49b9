/- The law FnRests: at all shares and points, part 3. No condition. -/
import Derived.Test.YtlpahmefebgdlaaRe
namespace Go.Proofs.Ytlpahmefebgdlaa.Fx
theorem rs_8 : shareRow 8 = true := by decide +kernel
theorem rt_8_0 : atBlock 8 0 16 11 = true := by decide +kernel
theorem rt_8_11 : atBlock 8 11 16 11 = true := by decide +kernel
theorem rt_8_22 : atBlock 8 22 16 11 = true := by decide +kernel
theorem rs_9 : shareRow 9 = true := by decide +kernel
theorem rt_9_0 : atBlock 9 0 16 11 = true := by decide +kernel
theorem rt_9_11 : atBlock 9 11 16 11 = true := by decide +kernel
theorem rt_9_22 : atBlock 9 22 16 11 = true := by decide +kernel
theorem rs_10 : shareRow 10 = true := by decide +kernel
theorem rt_10_0 : atBlock 10 0 16 11 = true := by decide +kernel
theorem rt_10_11 : atBlock 10 11 16 11 = true := by decide +kernel
theorem rt_10_22 : atBlock 10 22 16 11 = true := by decide +kernel
theorem rs_11 : shareRow 11 = true := by decide +kernel
theorem rt_11_0 : atBlock 11 0 16 11 = true := by decide +kernel
theorem rt_11_11 : atBlock 11 11 16 11 = true := by decide +kernel
theorem rt_11_22 : atBlock 11 22 16 11 = true := by decide +kernel
end Go.Proofs.Ytlpahmefebgdlaa.Fx
