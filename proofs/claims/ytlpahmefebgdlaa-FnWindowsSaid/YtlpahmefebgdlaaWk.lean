/- The law FnWindows: at all masses and circles, part 4. No condition. -/
import Derived.Test.YtlpahmefebgdlaaWg
namespace Go.Proofs.Ytlpahmefebgdlaa.Fx
theorem wr_6_0 : winRow 65 6 0 8 = true := by decide +kernel
theorem wr_6_1 : winRow 65 6 1 8 = true := by decide +kernel
theorem wr_6_2 : winRow 65 6 2 8 = true := by decide +kernel
theorem wr_6_3 : winRow 65 6 3 8 = true := by decide +kernel
theorem wr_6_4 : winRow 65 6 4 8 = true := by decide +kernel
theorem wr_6_5 : winRow 65 6 5 8 = true := by decide +kernel
theorem wr_6_6 : winRow 65 6 6 8 = true := by decide +kernel
theorem wr_6_7 : winRow 65 6 7 8 = true := by decide +kernel
theorem wr_7_0 : winRow 65 7 0 8 = true := by decide +kernel
theorem wr_7_1 : winRow 65 7 1 8 = true := by decide +kernel
theorem wr_7_2 : winRow 65 7 2 8 = true := by decide +kernel
theorem wr_7_3 : winRow 65 7 3 8 = true := by decide +kernel
theorem wr_7_4 : winRow 65 7 4 8 = true := by decide +kernel
theorem wr_7_5 : winRow 65 7 5 8 = true := by decide +kernel
theorem wr_7_6 : winRow 65 7 6 8 = true := by decide +kernel
theorem wr_7_7 : winRow 65 7 7 8 = true := by decide +kernel
end Go.Proofs.Ytlpahmefebgdlaa.Fx
