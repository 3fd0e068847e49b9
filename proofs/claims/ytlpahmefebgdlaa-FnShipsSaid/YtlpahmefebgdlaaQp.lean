/- Texts put together: Ya. No condition. -/
import Derived.Test.YtlpahmefebgdlaaQo
/- The law FnShips: the second part of its run, for a first count. No condition. -/
namespace Go.Proofs.Ytlpahmefebgdlaa.Fx
open Go Go.RowKit

theorem ships_tail0_0 (W : World) (c : Value) (s : F32) (p : Sh) : runV2 Try.prog [eRunShip, eMirror, eConstT, eStep, eApart, eGapN, eSameShip] [] [eTrace] [wR8AtN W 0 0] noRule [10, 25] 12 Try.f8 (spFr c s) [shCel p] = spT W c s (shQ p) 0 0 := by kernel_rfl
theorem ships_tail0_1 (W : World) (c : Value) (s : F32) (p : Sh) : runV2 Try.prog [eRunShip, eMirror, eConstT, eStep, eApart, eGapN, eSameShip] [] [eTrace] [wR8AtN W 0 1] noRule [10, 25] 12 Try.f8 (spFr c s) [shCel p] = spT W c s (shQ p) 0 1 := by kernel_rfl
theorem ships_tail0_2 (W : World) (c : Value) (s : F32) (p : Sh) : runV2 Try.prog [eRunShip, eMirror, eConstT, eStep, eApart, eGapN, eSameShip] [] [eTrace] [wR8AtN W 0 2] noRule [10, 25] 12 Try.f8 (spFr c s) [shCel p] = spT W c s (shQ p) 0 2 := by kernel_rfl
theorem ships_tail0_3 (W : World) (c : Value) (s : F32) (p : Sh) : runV2 Try.prog [eRunShip, eMirror, eConstT, eStep, eApart, eGapN, eSameShip] [] [eTrace] [wR8AtN W 0 3] noRule [10, 25] 12 Try.f8 (spFr c s) [shCel p] = spT W c s (shQ p) 0 3 := by kernel_rfl
theorem ships_tail0_4 (W : World) (c : Value) (s : F32) (p : Sh) : runV2 Try.prog [eRunShip, eMirror, eConstT, eStep, eApart, eGapN, eSameShip] [] [eTrace] [wR8AtN W 0 4] noRule [10, 25] 12 Try.f8 (spFr c s) [shCel p] = spT W c s (shQ p) 0 4 := by kernel_rfl
theorem ships_tail0_5 (W : World) (c : Value) (s : F32) (p : Sh) : runV2 Try.prog [eRunShip, eMirror, eConstT, eStep, eApart, eGapN, eSameShip] [] [eTrace] [wR8AtN W 0 5] noRule [10, 25] 12 Try.f8 (spFr c s) [shCel p] = spT W c s (shQ p) 0 5 := by kernel_rfl
end Go.Proofs.Ytlpahmefebgdlaa.Fx
