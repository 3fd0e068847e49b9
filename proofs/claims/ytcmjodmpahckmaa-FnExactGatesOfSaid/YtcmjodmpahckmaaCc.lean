/- Contracts: the laws' own comparison of floats; masses. No condition. -/
import Derived.Test.YtcmjodmpahckmaaCb
namespace Go.Proofs.Ytcmjodmpahckmaa.Fx
open Go Go.RowKit

def sameFl (x y : F64) : Bool := bif ne x x || ne y y then ne x x && ne y y else (bif eq x zero && eq y zero then gt (one / x) zero == gt (one / y) zero else eq x y)
theorem sameFl_refl (x : F64) : sameFl x x = true := by
  unfold sameFl ne eq
  cases h : ord x x == some .eq <;> simp [bne, h]
theorem eSame_run (x y : F64) : run Try.prog [] Try.f19 [.c (.fl .f64 x), .c (.fl .f64 y)] [] = some (.c (.sb (sameFl x y))) := by
  have h : run Try.prog [] Try.f19 [.c (.fl .f64 x), .c (.fl .f64 y)] [] =
    bif ne x x then (bif ne x x then some (.c (.sb (ne y y))) else some (.c (.sb false))) else bif ne y y then (bif ne x x then some (.c (.sb (ne y y))) else some (.c (.sb false))) else
      bif eq x zero then (bif eq y zero then some (.c (.sb (gt (one / x) zero == gt (one / y) zero))) else some (.c (.sb (eq x y)))) else some (.c (.sb (eq x y))) := by kernel_rfl
  rw [h]; unfold sameFl
  cases ne x x <;> cases ne y y <;> cases eq x zero <;> cases eq y zero <;> rfl
def eSame : Entry Try.prog := { f := 19, fn := shDD fun x y => rB (sameFl x y), ok := okDD (E := []) Try.func19 (by kernel_rfl) fun x y _ => eSame_run x y }

def rSSB (x y : F32) (b : Bool) : Bool × AV := (true, .tup [.fl .f32 x, .fl .f32 y, .sb b])
theorem push_ssb (c : Bool) (a b a' b' : F32) (d e : Bool) : some (AV.tup [.fl .f32 (bif c then a else b), .fl .f32 (bif c then a' else b'), .sb (bif c then d else e)]) = bif c then some (.tup [.fl .f32 a, .fl .f32 a', .sb d]) else some (.tup [.fl .f32 b, .fl .f32 b', .sb e]) := by cases c <;> rfl
def one32 : F32 := c32 1065353216
def massA (x : F32) : F32 := bif !(isShare x) then c32 0 else -x
def massB (x : F32) : F32 := bif !(isShare x) then c32 0 else one32 - x
def massC (x : F32) : Bool := bif !(isShare x) then false else true
def sMasses : Entry Try.prog := { f := 17, fn := shS fun x => rSSB (massA x) (massB x) (massC x), ok := okS (E := [sl04Share]) Try.func17 (by kernel_rfl) fun x _ => by show _ = some (AV.tup [.fl .f32 (massA x), .fl .f32 (massB x), .sb (massC x)]); unfold massA massB massC; rw [push_ssb]; kernel_rfl }
def eMasses : Entry Try.prog := { f := 18, fn := shS fun x => rSSB (massA x) (massB x) (massC x), ok := okS (E := [eIsShare]) Try.func18 (by kernel_rfl) fun x _ => by show _ = some (AV.tup [.fl .f32 (massA x), .fl .f32 (massB x), .sb (massC x)]); unfold massA massB massC; rw [push_ssb]; kernel_rfl }
theorem masses_run (x : F32) : run Try.prog [sMasses, eMasses, eSame] Try.f4 [.c (.fl .f32 x)] [] = some (.c (.sb true)) := by
  have h : run Try.prog [sMasses, eMasses, eSame] Try.f4 [.c (.fl .f32 x)] [] =
    bif !(sameFl (widen (massA x)) (widen (massA x))) then some (.c (.sb false)) else bif !(sameFl (widen (massB x)) (widen (massB x))) then some (.c (.sb false)) else
      bif massC x != massC x then some (.c (.sb false)) else some (.c (.sb true)) := by kernel_rfl
  rw [h, sameFl_refl, sameFl_refl]; cases massC x <;> rfl

end Go.Proofs.Ytcmjodmpahckmaa.Fx
