/- Texts put together: Yf. No condition. -/
import Derived.Test.YtlpahmefebgdlaaQo
/- The law FnShips: the second part of its run, for a first count. No condition. -/
namespace Go.Proofs.Ytlpahmefebgdlaa.Fx
open Go Go.RowKit

theorem ships_tail5_0 (W : World) (c : Value) (s : F32) (p : Sh) : runV2 Try.prog [eRunShip, eMirror, eConstT, eStep, eApart, eGapN, eSameShip] [] [eTrace] [wR8AtN W 5 0] noRule [10, 25] 12 Try.f8 (spFr c s) [shCel p] = spT W c s (shQ p) 5 0 := by kernel_rfl
theorem ships_tail5_1 (W : World) (c : Value) (s : F32) (p : Sh) : runV2 Try.prog [eRunShip, eMirror, eConstT, eStep, eApart, eGapN, eSameShip] [] [eTrace] [wR8AtN W 5 1] noRule [10, 25] 12 Try.f8 (spFr c s) [shCel p] = spT W c s (shQ p) 5 1 := by kernel_rfl
theorem ships_tail5_2 (W : World) (c : Value) (s : F32) (p : Sh) : runV2 Try.prog [eRunShip, eMirror, eConstT, eStep, eApart, eGapN, eSameShip] [] [eTrace] [wR8AtN W 5 2] noRule [10, 25] 12 Try.f8 (spFr c s) [shCel p] = spT W c s (shQ p) 5 2 := by kernel_rfl
theorem ships_tail5_3 (W : World) (c : Value) (s : F32) (p : Sh) : runV2 Try.prog [eRunShip, eMirror, eConstT, eStep, eApart, eGapN, eSameShip] [] [eTrace] [wR8AtN W 5 3] noRule [10, 25] 12 Try.f8 (spFr c s) [shCel p] = spT W c s (shQ p) 5 3 := by kernel_rfl
theorem ships_tail5_4 (W : World) (c : Value) (s : F32) (p : Sh) : runV2 Try.prog [eRunShip, eMirror, eConstT, eStep, eApart, eGapN, eSameShip] [] [eTrace] [wR8AtN W 5 4] noRule [10, 25] 12 Try.f8 (spFr c s) [shCel p] = spT W c s (shQ p) 5 4 := by kernel_rfl
theorem ships_tail5_5 (W : World) (c : Value) (s : F32) (p : Sh) : runV2 Try.prog [eRunShip, eMirror, eConstT, eStep, eApart, eGapN, eSameShip] [] [eTrace] [wR8AtN W 5 5] noRule [10, 25] 12 Try.f8 (spFr c s) [shCel p] = spT W c s (shQ p) 5 5 := by kernel_rfl
end Go.Proofs.Ytlpahmefebgdlaa.Fx
