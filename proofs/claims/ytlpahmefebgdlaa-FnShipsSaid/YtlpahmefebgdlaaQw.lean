/- Texts put together: Xh. No condition. -/
import Derived.Test.YtlpahmefebgdlaaQo
import Derived.Test.YtlpahmefebgdlaaQv
/- The law FnShips: two regions looked at. No condition. -/
namespace Go.Proofs.Ytlpahmefebgdlaa.Fx
open Go Go.RowKit

noncomputable def sops10 : Array Oper := ((drawnIn (Try.f8.body.getD .skip)).getD 0 (0, #[])).2
noncomputable def sops25 : Array Oper := ((drawnIn (Try.f8.body.getD .skip)).getD 1 (0, #[])).2
theorem ships_drawn : drawnIn (Try.f8.body.getD .skip) = [(10, sops10), (25, sops25)] := by kernel_rfl
theorem ssel10 : Region.noSelect sops10 = true := by kernel_rfl
theorem ssel25 : Region.noSelect sops25 = true := by kernel_rfl
theorem squick10 : quickFrom .any sops10 0 sops10.toList = true := by kernel_rfl
theorem squick25 : quickFrom .any sops25 0 sops25.toList = true := by kernel_rfl
theorem sdraw10 : drawB Try.prog sops10 = true := by
  unfold drawB
  rw [(quick_lex ssel10 squick10).1, (quick_lex ssel10 squick10).2]
  kernel_rfl
theorem sdraw25 : drawB Try.prog sops25 = true := by
  unfold drawB
  rw [(quick_lex ssel25 squick25).1, (quick_lex ssel25 squick25).2]
  kernel_rfl
theorem ships_draw : DrawOk Try.prog [10, 25] 0 (Try.f8.body.getD .skip) := by
  intro _ r hr _
  rw [ships_drawn] at hr
  rcases List.mem_cons.1 hr with rfl | hr
  · exact sdraw10
  · obtain rfl := List.mem_singleton.1 hr
    exact sdraw25
end Go.Proofs.Ytlpahmefebgdlaa.Fx
