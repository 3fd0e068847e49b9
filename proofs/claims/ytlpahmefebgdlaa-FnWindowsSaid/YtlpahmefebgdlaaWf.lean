/- The law FnWindows: its run. No condition. -/
import Derived.Test.YtlpahmefebgdlaaWe
namespace Go.Proofs.Ytlpahmefebgdlaa.Fx
open Go Go.RowKit

def wYes : Option AV := some (.c (.sb true))
def wNay : Option AV := some (.c (.sb false))
def wI (n : Int) : F32 := lit .f32 (floatOfInt .f32 n)
def wInc (n : Int) : Int := IntKind.i64.wrap (1 + n)
def wFrom (a : Int) : F32 := wI (wInc a) / c32 1082130432
def wNow (k : Int) : F32 := wI (IntKind.i64.wrap (k - 32)) / c32 1115684864
def wBits (x : F32) : Nat := bif aboveS x then B x 0 else 0
def z32 : F32 := c32 0
def wPq (r : Nat) (m : F32) : Bool := wd32 r && wd32 0 && wd32 0 && wd32 0 && wd32 0 && wd32 0 && peQ (c32 r) (c32 0) (c32 0) (c32 0) (c32 0) (c32 0) m
def wPv (r : Nat) (m : F32) : F32 := peV (c32 r) (c32 0) (c32 0) (c32 0) (c32 0) (c32 0) m
def wPb (r : Nat) (m : F32) : Bool := peB (c32 r) (c32 0) (c32 0) (c32 0) (c32 0) (c32 0) m
def wRate (m f t : F32) : F64 := one / widen (wPv (wBits f) m) - one / widen (wPv (wBits t) m)
def wA0 (m f t n : F32) : F64 := (widen n - widen (wdV m f t n) * wRate m f t) - widen (ldV m f t)
def wA1 (m f t n : F32) : Bool × F64 := downs 8 (wA0 m f t n)
def wA2 (m f t n : F32) : Bool × F64 := ups 8 (wA1 m f t n).2
def centi64 : F64 := c64 4576918229304087675
/-- What is behind the drawing. -/
def wnAll (m f t n : F32) : Option AV :=
  bif wdQ m f t n then bif f.isSome then bif t.isSome then bif wPq (wBits f) m then bif wPq (wBits t) m then
    (bif !(ldB m f t) then wNay else bif !(wdOk m f t n) then wNay else bif !(aboveS f) then wNay else bif !(aboveS t) then wNay else bif !(wPb (wBits f) m) then wNay else bif !(wPb (wBits t) m) then wNay else
    bif lt (ldV m f t) (c32 3204465033) then wNay else bif gt (ldV m f t) (c32 1056981385) then wNay else bif lt (wdV m f t n) (c32 0) then wNay else
    bif gt (widen (wdV m f t n)) (widen (wdW m f t n) * c64 4607186922399644778) then wNay else
    bif (wA1 m f t n).1 then bif (wA2 m f t n).1 then bif wdQ m f f n then
      (bif !(wdOk m f f n) then (bif lt (gapB (wA2 m f t n).2 zero) centi64 then some (.c (.sb (lt (gapB (widen (wdW m f t n) * wRate m f t) one) centi64))) else wNay) else wNay) else none else none else none)
  else none else none else none else none else none
theorem wn_raw (W : World) (c m : Value) : runK Try.prog [eLeadOf, eWindow, eCircle, ePeriodV, eGapB] [] [] [wB10Long W, wB10At W, wMass W] wnLp [] Try.f5 [.c (.val c), .c (.val m)] =
    bif good W c && good W m then bif longV 1048576 (bytesOf W c) (bytesOf W m) then wYes else
    bif good W c then bif good W c then bif good W m then bif good W m then
      wnAll (massOf (massAt (bytesOf W c))) (wFrom (b10v (bytesOf W c) 3 8)) (wFrom (b10v (bytesOf W c) 3 8) + wFrom (b10v (bytesOf W m) 0 8)) (wNow (b10v (bytesOf W m) 1 65)) else none else none else none else none else none := by kernel_rfl
end Go.Proofs.Ytlpahmefebgdlaa.Fx
