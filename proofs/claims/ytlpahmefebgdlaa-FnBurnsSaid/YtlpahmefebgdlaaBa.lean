/- The law FnBurns: its run. No condition. -/
import Derived.Test.YtlpahmefebgdlaaCr
import Derived.Test.YtlpahmefebgdlaaWa
namespace Go.Proofs.Ytlpahmefebgdlaa.Fx
open Go Go.RowKit

def Yes : Option AV := some (.c (.sb true))
def Nay : Option AV := some (.c (.sb false))
def i32 (n : Int) : F32 := lit .f32 (floatOfInt .f32 n)
def inc (n : Int) : Int := IntKind.i64.wrap (1 + n)
def four32 : F32 := c32 1082130432
def eight32 : F32 := c32 1090519040
def tw32 : F32 := c32 1073741824
def half32 : F32 := c32 1056964608
def on32 : F32 := c32 1065353216
def milli : F64 := c64 4562254508917369340
def centi : F64 := c64 4576918229304087675

-- the numbers that an input chooses
def bJet (a : Int) : F32 := i32 (inc a) / four32
def bChange (a k : Int) : F32 := i32 k / eight32 * bJet a
def bFlow (w : Int) : F32 := i32 (inc w) / four32
def v3 (c : F32 → F32 → F32 → Bool) (y : F32 → F32 → F32 → F64) (a b d : F32) : F32 := bif c a b d then toldV (narrow (y a b d)) else c32 0
def t3 (c : F32 → F32 → F32 → Bool) (y : F32 → F32 → F32 → F64) (a b d : F32) : Bool := bif c a b d then toldB (narrow (y a b d)) else false
def btV (j f b c : F32) : F32 := bif btC j f b c then toldV (narrow (btY j f b c)) else c32 0
def btB (j f b c : F32) : Bool := bif btC j f b c then toldB (narrow (btY j f b c)) else false
def btQ (j f b c : F32) : Bool := !(btC j f b c) || fits (btY j f b c)
def fuel (j af ch : F32) : F32 := v3 fuC fuY j af ch
def q3 (c q : F32 → F32 → F32 → Bool) (a b d : F32) : Bool := !(c a b d) || q a b d
def over (x y : F64) (m : F64) (z : F64) : Bool := gt (gapB x y) (m * (one + z))
/-- The first part. -/
def bPart1 (j af ch fl fu ti : F32) (rest : Option AV) : Option AV :=
  bif !(t3 fuC fuY j af ch) then Nay else bif !(t3 boC boY j (af + fu) af) then Nay else bif !(btB j fl (af + fu) ch) then Nay else bif lt fu (c32 0) then Nay else
  bif over (widen (v3 boC boY j (af + fu) af)) (widen ch) milli (widen ch) then Nay else
  bif over (widen ti * widen fl) (widen fu) milli (widen fu) then Nay else
  bif gt ti (c32 0) then (bif abQ j fl (af + fu) ti then (bif !(abOk j fl (af + fu) ti) then Nay else
    bif over (widen (bif abOk j fl (af + fu) ti then toldV (narrow (abL fl (af + fu) ti)) else c32 0)) (widen af) milli (widen fu) then Nay else
    bif over (widen (bif abOk j fl (af + fu) ti then toldV (narrow (abG j fl (af + fu) ti)) else c32 0)) (widen ch) centi (widen ch) then Nay else rest) else none) else rest
def bFull (e : Int) : F32 := on32 + i32 (inc e)
def bFull2 (f : Int) : F32 := half32 + i32 (inc f) / tw32
def bLoad (g : Int) : F32 := i32 (inc g)
def s2V (a0 a1 a2 b0 b1 b2 l : F32) : F32 := bif sc2C a0 a1 a2 b0 b1 b2 l then toldV (narrow (scS2 a0 a1 a2 b0 b1 b2 l)) else c32 0
def s2B (a0 a1 a2 b0 b1 b2 l : F32) : Bool := bif sc2C a0 a1 a2 b0 b1 b2 l then toldB (narrow (scS2 a0 a1 a2 b0 b1 b2 l)) else false
def s1V (a0 a1 a2 l : F32) : F32 := bif sc1C a0 a1 a2 l then toldV (narrow (scS1 a0 a1 a2 l)) else c32 0
def s1B (a0 a1 a2 l : F32) : Bool := bif sc1C a0 a1 a2 l then toldB (narrow (scS1 a0 a1 a2 l)) else false
/-- The second part. -/
def bPart2 (j fa fb l : F32) : Option AV :=
  bif sc2Q on32 fa j half32 fb tw32 l then bif sc1Q half32 fb tw32 l then bif q3 boC boQ j (fa + fb + l) (on32 + fb + l) then bif q3 boC boQ tw32 (fb + l) (half32 + l) then
    (bif s2B on32 fa j half32 fb tw32 l then bif s1B half32 fb tw32 l then bif t3 boC boY j (fa + fb + l) (on32 + fb + l) then bif t3 boC boY tw32 (fb + l) (half32 + l) then bif stageOk on32 fa j then
      bif lt (gapB (widen (s1V half32 fb tw32 l)) (widen (v3 boC boY tw32 (fb + l) (half32 + l)))) milli then
        some (.c (.sb (lt (gapB (widen (s2V on32 fa j half32 fb tw32 l)) (widen (v3 boC boY j (fa + fb + l) (on32 + fb + l)) + widen (v3 boC boY tw32 (fb + l) (half32 + l)))) (milli * (one + widen (s2V on32 fa j half32 fb tw32 l))))))
      else Nay else Nay else Nay else Nay else Nay else Nay)
  else none else none else none else none
/-- The whole, of the numbers. -/
def bRest (m2 m3 m4 : Bool) (a b k w e f g : Int) : Option AV :=
  bPart1 (bJet a) (bJet b) (bChange a k) (bFlow w) (fuel (bJet a) (bJet b) (bChange a k)) (btV (bJet a) (bFlow w) (bJet b + fuel (bJet a) (bJet b) (bChange a k)) (bChange a k))
    (bif m2 then bif m3 then bif m4 then bPart2 (bJet a) (bFull e) (bFull2 f) (bLoad g) else none else none else none)
def bAll (gc gm : Bool) (a b k w e f g : Int) : Option AV :=
  bif gc then bif gc then bif gm then bif q3 fuC fuQ (bJet a) (bJet b) (bChange a k) then bif q3 boC boQ (bJet a) (bJet b + fuel (bJet a) (bJet b) (bChange a k)) (bJet b) then bif gm then
    bif btQ (bJet a) (bFlow w) (bJet b + fuel (bJet a) (bJet b) (bChange a k)) (bChange a k) then bRest gm gm gm a b k w e f g
  else none else none else none else none else none else none else none
theorem burns_raw (W : World) (c m : Value) : runK Try.prog [eFuel, eBurnOf, eBurnTime, eGapB, eAfter, eStages, eValidStage] [] [] [wB10Long W, wB10At W] noRule Try.f4 [.c (.val c), .c (.val m)] =
    bif good W c && good W m then bif longV 1048576 (bytesOf W c) (bytesOf W m) then Yes else
    bAll (good W c) (good W m) (b10v (bytesOf W c) 0 16) (b10v (bytesOf W c) 1 16) (b10v (bytesOf W m) 0 17) (b10v (bytesOf W m) 1 8) (b10v (bytesOf W m) 2 8) (b10v (bytesOf W m) 3 8) (b10v (bytesOf W m) 4 4) else none := by kernel_rfl
end Go.Proofs.Ytlpahmefebgdlaa.Fx
