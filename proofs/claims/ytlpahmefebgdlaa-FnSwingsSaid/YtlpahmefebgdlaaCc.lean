/- Contracts: the laws' own comparison of floats; masses. No condition. -/
import Derived.Test.YtlpahmefebgdlaaCb
namespace Go.Proofs.Ytlpahmefebgdlaa.Fx
open Go Go.RowKit

def sameFl (x y : F64) : Bool := bif ne x x || ne y y then ne x x && ne y y else (bif eq x zero && eq y zero then gt (one / x) zero == gt (one / y) zero else eq x y)
theorem sameFl_refl (x : F64) : sameFl x x = true := by
  unfold sameFl ne eq
  cases h : ord x x == some .eq <;> simp [bne, h]
def rSSB (x y : F32) (b : Bool) : Bool × AV := (true, .tup [.fl .f32 x, .fl .f32 y, .sb b])
theorem push_ssb (c : Bool) (a b a' b' : F32) (d e : Bool) : some (AV.tup [.fl .f32 (bif c then a else b), .fl .f32 (bif c then a' else b'), .sb (bif c then d else e)]) = bif c then some (.tup [.fl .f32 a, .fl .f32 a', .sb d]) else some (.tup [.fl .f32 b, .fl .f32 b', .sb e]) := by cases c <;> rfl
def one32 : F32 := c32 1065353216
def massA (x : F32) : F32 := bif !(isShare x) then c32 0 else -x
def massB (x : F32) : F32 := bif !(isShare x) then c32 0 else one32 - x
def massC (x : F32) : Bool := bif !(isShare x) then false else true
def eMasses : Entry Try.prog := { f := 13, fn := shS fun x => rSSB (massA x) (massB x) (massC x), ok := okS (E := [eIsShare]) Try.func13 (by kernel_rfl) fun x _ => by show _ = some (AV.tup [.fl .f32 (massA x), .fl .f32 (massB x), .sb (massC x)]); unfold massA massB massC; rw [push_ssb]; kernel_rfl }
end Go.Proofs.Ytlpahmefebgdlaa.Fx
