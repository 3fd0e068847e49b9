/- The law FnWindows: at all masses and circles, part 3. No condition. -/
import Derived.Test.YtlpahmefebgdlaaWg
namespace Go.Proofs.Ytlpahmefebgdlaa.Fx
theorem wr_4_0 : winRow 65 4 0 8 = true := by decide +kernel
theorem wr_4_1 : winRow 65 4 1 8 = true := by decide +kernel
theorem wr_4_2 : winRow 65 4 2 8 = true := by decide +kernel
theorem wr_4_3 : winRow 65 4 3 8 = true := by decide +kernel
theorem wr_4_4 : winRow 65 4 4 8 = true := by decide +kernel
theorem wr_4_5 : winRow 65 4 5 8 = true := by decide +kernel
theorem wr_4_6 : winRow 65 4 6 8 = true := by decide +kernel
theorem wr_4_7 : winRow 65 4 7 8 = true := by decide +kernel
theorem wr_5_0 : winRow 65 5 0 8 = true := by decide +kernel
theorem wr_5_1 : winRow 65 5 1 8 = true := by decide +kernel
theorem wr_5_2 : winRow 65 5 2 8 = true := by decide +kernel
theorem wr_5_3 : winRow 65 5 3 8 = true := by decide +kernel
theorem wr_5_4 : winRow 65 5 4 8 = true := by decide +kernel
theorem wr_5_5 : winRow 65 5 5 8 = true := by decide +kernel
theorem wr_5_6 : winRow 65 5 6 8 = true := by decide +kernel
theorem wr_5_7 : winRow 65 5 7 8 = true := by decide +kernel
end Go.Proofs.Ytlpahmefebgdlaa.Fx
