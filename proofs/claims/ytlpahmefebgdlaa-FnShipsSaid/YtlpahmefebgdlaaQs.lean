/- Texts put together: Yd. No condition. -/
import Derived.Test.YtlpahmefebgdlaaQo
/- The law FnShips: the second part of its run, for a first count. No condition. -/
namespace Go.Proofs.Ytlpahmefebgdlaa.Fx
open Go Go.RowKit

theorem ships_tail3_0 (W : World) (c : Value) (s : F32) (p : Sh) : runV2 Try.prog [eRunShip, eMirror, eConstT, eStep, eApart, eGapN, eSameShip] [] [eTrace] [wR8AtN W 3 0] noRule [10, 25] 12 Try.f8 (spFr c s) [shCel p] = spT W c s (shQ p) 3 0 := by kernel_rfl
theorem ships_tail3_1 (W : World) (c : Value) (s : F32) (p : Sh) : runV2 Try.prog [eRunShip, eMirror, eConstT, eStep, eApart, eGapN, eSameShip] [] [eTrace] [wR8AtN W 3 1] noRule [10, 25] 12 Try.f8 (spFr c s) [shCel p] = spT W c s (shQ p) 3 1 := by kernel_rfl
theorem ships_tail3_2 (W : World) (c : Value) (s : F32) (p : Sh) : runV2 Try.prog [eRunShip, eMirror, eConstT, eStep, eApart, eGapN, eSameShip] [] [eTrace] [wR8AtN W 3 2] noRule [10, 25] 12 Try.f8 (spFr c s) [shCel p] = spT W c s (shQ p) 3 2 := by kernel_rfl
theorem ships_tail3_3 (W : World) (c : Value) (s : F32) (p : Sh) : runV2 Try.prog [eRunShip, eMirror, eConstT, eStep, eApart, eGapN, eSameShip] [] [eTrace] [wR8AtN W 3 3] noRule [10, 25] 12 Try.f8 (spFr c s) [shCel p] = spT W c s (shQ p) 3 3 := by kernel_rfl
theorem ships_tail3_4 (W : World) (c : Value) (s : F32) (p : Sh) : runV2 Try.prog [eRunShip, eMirror, eConstT, eStep, eApart, eGapN, eSameShip] [] [eTrace] [wR8AtN W 3 4] noRule [10, 25] 12 Try.f8 (spFr c s) [shCel p] = spT W c s (shQ p) 3 4 := by kernel_rfl
theorem ships_tail3_5 (W : World) (c : Value) (s : F32) (p : Sh) : runV2 Try.prog [eRunShip, eMirror, eConstT, eStep, eApart, eGapN, eSameShip] [] [eTrace] [wR8AtN W 3 5] noRule [10, 25] 12 Try.f8 (spFr c s) [shCel p] = spT W c s (shQ p) 3 5 := by kernel_rfl
end Go.Proofs.Ytlpahmefebgdlaa.Fx
