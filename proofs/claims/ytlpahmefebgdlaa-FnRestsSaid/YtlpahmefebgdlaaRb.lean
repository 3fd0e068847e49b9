/- The law FnRests: its run, second part; a region looked at. No condition. -/
import Derived.Test.YtlpahmefebgdlaaRa
namespace Go.Proofs.Ytlpahmefebgdlaa.Fx
open Go Go.RowKit

theorem rests_tail (W : World) (m : Value) (s : F32) : runTail Try.prog [eConst, eLong, eGapR, eApart, eSlope, eConj, ePotAt, eBends, eSpeed] [] [] [wR8At W] noRule [21] 23 Try.f3 (restFr m s) =
    bif good W m then bif good W m then rp4 s (rAtX (r8v (bytesOf W m) 0 33)) (rAtY (r8v (bytesOf W m) 1 16)) else none else none := by kernel_rfl

noncomputable def ops21 : Array Oper := ((drawnIn (Try.f3.body.getD .skip)).getD 0 (0, #[])).2
theorem rests_drawn : drawnIn (Try.f3.body.getD .skip) = [(21, ops21)] := by kernel_rfl
theorem lex21 : Region.lexB .any ops21 = true := by kernel_rfl
theorem mem21 : memLexB .any ops21 = true := by kernel_rfl
theorem rests_draw : DrawOk Try.prog [21] 0 (Try.f3.body.getD .skip) := by
  intro _ r hr _
  rw [rests_drawn] at hr
  obtain rfl := List.mem_singleton.1 hr
  show drawB Try.prog ops21 = true
  unfold drawB
  rw [lex21, mem21]
  kernel_rfl
end Go.Proofs.Ytlpahmefebgdlaa.Fx
