/- The law FnWindows: at all masses and circles, part 1. No condition. -/
import Derived.Test.YtlpahmefebgdlaaWg
namespace Go.Proofs.Ytlpahmefebgdlaa.Fx
theorem wr_0_0 : winRow 65 0 0 8 = true := by decide +kernel
theorem wr_0_1 : winRow 65 0 1 8 = true := by decide +kernel
theorem wr_0_2 : winRow 65 0 2 8 = true := by decide +kernel
theorem wr_0_3 : winRow 65 0 3 8 = true := by decide +kernel
theorem wr_0_4 : winRow 65 0 4 8 = true := by decide +kernel
theorem wr_0_5 : winRow 65 0 5 8 = true := by decide +kernel
theorem wr_0_6 : winRow 65 0 6 8 = true := by decide +kernel
theorem wr_0_7 : winRow 65 0 7 8 = true := by decide +kernel
theorem wr_1_0 : winRow 65 1 0 8 = true := by decide +kernel
theorem wr_1_1 : winRow 65 1 1 8 = true := by decide +kernel
theorem wr_1_2 : winRow 65 1 2 8 = true := by decide +kernel
theorem wr_1_3 : winRow 65 1 3 8 = true := by decide +kernel
theorem wr_1_4 : winRow 65 1 4 8 = true := by decide +kernel
theorem wr_1_5 : winRow 65 1 5 8 = true := by decide +kernel
theorem wr_1_6 : winRow 65 1 6 8 = true := by decide +kernel
theorem wr_1_7 : winRow 65 1 7 8 = true := by decide +kernel
end Go.Proofs.Ytlpahmefebgdlaa.Fx
