/- Texts put together: Yb. No condition. -/
import Derived.Test.YtlpahmefebgdlaaQo
/- The law FnShips: the second part of its run, for a first count. No condition. -/
namespace Go.Proofs.Ytlpahmefebgdlaa.Fx
open Go Go.RowKit

theorem ships_tail1_0 (W : World) (c : Value) (s : F32) (p : Sh) : runV2 Try.prog [eRunShip, eMirror, eConstT, eStep, eApart, eGapN, eSameShip] [] [eTrace] [wR8AtN W 1 0] noRule [10, 25] 12 Try.f8 (spFr c s) [shCel p] = spT W c s (shQ p) 1 0 := by kernel_rfl
theorem ships_tail1_1 (W : World) (c : Value) (s : F32) (p : Sh) : runV2 Try.prog [eRunShip, eMirror, eConstT, eStep, eApart, eGapN, eSameShip] [] [eTrace] [wR8AtN W 1 1] noRule [10, 25] 12 Try.f8 (spFr c s) [shCel p] = spT W c s (shQ p) 1 1 := by kernel_rfl
theorem ships_tail1_2 (W : World) (c : Value) (s : F32) (p : Sh) : runV2 Try.prog [eRunShip, eMirror, eConstT, eStep, eApart, eGapN, eSameShip] [] [eTrace] [wR8AtN W 1 2] noRule [10, 25] 12 Try.f8 (spFr c s) [shCel p] = spT W c s (shQ p) 1 2 := by kernel_rfl
theorem ships_tail1_3 (W : World) (c : Value) (s : F32) (p : Sh) : runV2 Try.prog [eRunShip, eMirror, eConstT, eStep, eApart, eGapN, eSameShip] [] [eTrace] [wR8AtN W 1 3] noRule [10, 25] 12 Try.f8 (spFr c s) [shCel p] = spT W c s (shQ p) 1 3 := by kernel_rfl
theorem ships_tail1_4 (W : World) (c : Value) (s : F32) (p : Sh) : runV2 Try.prog [eRunShip, eMirror, eConstT, eStep, eApart, eGapN, eSameShip] [] [eTrace] [wR8AtN W 1 4] noRule [10, 25] 12 Try.f8 (spFr c s) [shCel p] = spT W c s (shQ p) 1 4 := by kernel_rfl
theorem ships_tail1_5 (W : World) (c : Value) (s : F32) (p : Sh) : runV2 Try.prog [eRunShip, eMirror, eConstT, eStep, eApart, eGapN, eSameShip] [] [eTrace] [wR8AtN W 1 5] noRule [10, 25] 12 Try.f8 (spFr c s) [shCel p] = spT W c s (shQ p) 1 5 := by kernel_rfl
end Go.Proofs.Ytlpahmefebgdlaa.Fx
