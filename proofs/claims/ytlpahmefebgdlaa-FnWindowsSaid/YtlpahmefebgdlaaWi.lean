/- The law FnWindows: at all masses and circles, part 2. No condition. -/
import Derived.Test.YtlpahmefebgdlaaWg
namespace Go.Proofs.Ytlpahmefebgdlaa.Fx
theorem wr_2_0 : winRow 65 2 0 8 = true := by decide +kernel
theorem wr_2_1 : winRow 65 2 1 8 = true := by decide +kernel
theorem wr_2_2 : winRow 65 2 2 8 = true := by decide +kernel
theorem wr_2_3 : winRow 65 2 3 8 = true := by decide +kernel
theorem wr_2_4 : winRow 65 2 4 8 = true := by decide +kernel
theorem wr_2_5 : winRow 65 2 5 8 = true := by decide +kernel
theorem wr_2_6 : winRow 65 2 6 8 = true := by decide +kernel
theorem wr_2_7 : winRow 65 2 7 8 = true := by decide +kernel
theorem wr_3_0 : winRow 65 3 0 8 = true := by decide +kernel
theorem wr_3_1 : winRow 65 3 1 8 = true := by decide +kernel
theorem wr_3_2 : winRow 65 3 2 8 = true := by decide +kernel
theorem wr_3_3 : winRow 65 3 3 8 = true := by decide +kernel
theorem wr_3_4 : winRow 65 3 4 8 = true := by decide +kernel
theorem wr_3_5 : winRow 65 3 5 8 = true := by decide +kernel
theorem wr_3_6 : winRow 65 3 6 8 = true := by decide +kernel
theorem wr_3_7 : winRow 65 3 7 8 = true := by decide +kernel
end Go.Proofs.Ytlpahmefebgdlaa.Fx
