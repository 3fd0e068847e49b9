/- Texts put together: Tg, Tj, Wa, Wb, Th. No condition. -/
import Derived.Test.YtlpahmefebgdlaaPk
import Derived.Test.YtlpahmefebgdlaaPj
import Derived.Test.YtlpahmefebgdlaaPi
import Derived.Test.YtlpahmefebgdlaaProg
import Derived.WalkKit
import Derived.KernelRfl
import Derived.Lib.Hide
import Derived.IntWalk
import Derived.Handy
import Derived.Deep.RegionHeld3
/- Contract: ReachMap with half 2 and 1 to 6 cells. No condition. -/
namespace Go.Proofs.Ytlpahmefebgdlaa.Fx
open Go Go.RowKit

def poQ (s x y : F32) : Bool := (!(isPt s x y) || potFit s x y) && paB s x y
theorem ePotT_ok : EOk Try.prog 22 (shSC fun s x y => (poQ s x y, .tup [.fl .f32 (paV s x y), .sb true])) := by
  intro args M r hr
  unfold shSC at hr
  split at hr
  · rename_i s x y
    simp only [Option.some.injEq, Prod.mk.injEq] at hr
    obtain ⟨hq, rfl⟩ := hr
    unfold poQ at hq
    rw [Bool.and_eq_true] at hq
    have := ePotAt.ok [.c (.fl .f32 s), .c (.cx .f32 x y)] M (.tup [.fl .f32 (paV s x y), .sb (paB s x y)]) (by show some ((!(isPt s x y) || potFit s x y), AV.tup [.fl .f32 (paV s x y), .sb (paB s x y)]) = _; rw [hq.1])
    rw [hq.2] at this
    exact this
  · cases hr
def ePotT : Entry Try.prog := { f := 22, fn := shSC fun s x y => (poQ s x y, .tup [.fl .f32 (paV s x y), .sb true]), ok := ePotT_ok }
def iF (n : Int) : F32 := lit .f32 (floatOfInt .f32 n)
def rmX (n k : Int) : F32 := two32 * (iF (2 * k + 1) / iF n - one32)
def rmB (s c : F32) (n i j : Int) : Bool := ge (two32 * paV s (rmX n i) (rmX n j)) c
def rmPairs (n : Nat) : List (Int × Int) := (List.range n).flatMap fun (j : Nat) => (List.range n).map fun (i : Nat) => (Int.ofNat i, Int.ofNat j)
def rmT {R : Type} (s : F32) (n : Int) : List (Int × Int) → Option R → Option R
  | [], K => K
  | p :: l, K => bif poQ s (rmX n p.1) (rmX n p.2) then rmT s n l K else none
def rmCells (s c : F32) (n : Nat) : List AC := (rmPairs n).map fun p => .sb (rmB s c n p.1 p.2)
def rmAll (s : F32) (n : Int) (l : List (Int × Int)) : Bool := l.all fun p => poQ s (rmX n p.1) (rmX n p.2)
theorem rmT_all {R : Type} (s : F32) (n : Int) : ∀ (l : List (Int × Int)) (K : Option R), rmAll s n l = true → rmT s n l K = K
  | [], _, _ => rfl
  | p :: l, K, h => by
    unfold rmAll at h
    simp only [List.all_cons, Bool.and_eq_true] at h
    simp only [rmT, h.1, cond_true]
    exact rmT_all s n l K h.2
theorem rmAll_app {s : F32} {n : Int} {l l' : List (Int × Int)} (h : rmAll s n (l ++ l') = true) : rmAll s n l = true ∧ rmAll s n l' = true := by
  unfold rmAll at *
  rw [List.all_append, Bool.and_eq_true] at h
  exact h
def rmFr (s c : F32) (n : Int) (k : Nat) (y : Int) : List AV := [.c (.fl .f32 s), .c (.fl .f32 c)] ++ List.replicate 4 (.c .any) ++ [.c (.ptr 0 0), .c (.ptr 1 0), .c .any, .c .any, .c (.clo 103 0 1), .c (.slc 2 k)] ++ List.replicate 24 (.c .any) ++ [.c (.val (.int .i64 n)), .c (.val (.int .i64 y))] ++ List.replicate 31 (.c .any)
def rmMk : List Bool := [true, true] ++ List.replicate 4 false ++ [true, true, false, false, true, true] ++ List.replicate 24 false ++ [true, true] ++ List.replicate 31 false
theorem rm_round_1_0 (s c : F32) : exK Try.prog [ePotT] [] [] (G := anyW) [] 0 noRule [] 400 0 0 (loopN 0 Try.f49) (rmFr s c 1 0 0) [[.fl .f32 two32], [.val (.int .i64 1)], []] (keepK rmMk 3) = rmT s 1 [(0, 0)] (some (.norm, rmFr s c 1 1 1, [[.fl .f32 two32], [.val (.int .i64 1)], [.sb (rmB s c 1 0 0)]])) := by kernel_rfl
theorem rm_last_1 (s c : F32) (b0 : Bool) : exK Try.prog [ePotT] [] [] (G := anyW) [] 0 noRule [] 400 0 0 (loopN 0 Try.f49) (rmFr s c 1 1 1) [[.fl .f32 two32], [.val (.int .i64 1)], [.sb b0]] (keepK rmMk 3) = some (.exit 0, rmFr s c 1 1 1, [[.fl .f32 two32], [.val (.int .i64 1)], [.sb b0]]) := by kernel_rfl
theorem rm_round_2_0 (s c : F32) : exK Try.prog [ePotT] [] [] (G := anyW) [] 0 noRule [] 400 0 0 (loopN 0 Try.f49) (rmFr s c 2 0 0) [[.fl .f32 two32], [.val (.int .i64 2)], []] (keepK rmMk 3) = rmT s 2 [(0, 0), (1, 0)] (some (.norm, rmFr s c 2 2 1, [[.fl .f32 two32], [.val (.int .i64 2)], [.sb (rmB s c 2 0 0), .sb (rmB s c 2 1 0)]])) := by kernel_rfl
theorem rm_round_2_1 (s c : F32) (b0 b1 : Bool) : exK Try.prog [ePotT] [] [] (G := anyW) [] 0 noRule [] 400 0 0 (loopN 0 Try.f49) (rmFr s c 2 2 1) [[.fl .f32 two32], [.val (.int .i64 2)], [.sb b0, .sb b1]] (keepK rmMk 3) = rmT s 2 [(0, 1), (1, 1)] (some (.norm, rmFr s c 2 4 2, [[.fl .f32 two32], [.val (.int .i64 2)], [.sb b0, .sb b1, .sb (rmB s c 2 0 1), .sb (rmB s c 2 1 1)]])) := by kernel_rfl
theorem rm_last_2 (s c : F32) (b0 b1 b2 b3 : Bool) : exK Try.prog [ePotT] [] [] (G := anyW) [] 0 noRule [] 400 0 0 (loopN 0 Try.f49) (rmFr s c 2 4 2) [[.fl .f32 two32], [.val (.int .i64 2)], [.sb b0, .sb b1, .sb b2, .sb b3]] (keepK rmMk 3) = some (.exit 0, rmFr s c 2 4 2, [[.fl .f32 two32], [.val (.int .i64 2)], [.sb b0, .sb b1, .sb b2, .sb b3]]) := by kernel_rfl
theorem rm_round_3_0 (s c : F32) : exK Try.prog [ePotT] [] [] (G := anyW) [] 0 noRule [] 400 0 0 (loopN 0 Try.f49) (rmFr s c 3 0 0) [[.fl .f32 two32], [.val (.int .i64 3)], []] (keepK rmMk 3) = rmT s 3 [(0, 0), (1, 0), (2, 0)] (some (.norm, rmFr s c 3 3 1, [[.fl .f32 two32], [.val (.int .i64 3)], [.sb (rmB s c 3 0 0), .sb (rmB s c 3 1 0), .sb (rmB s c 3 2 0)]])) := by kernel_rfl
theorem rm_round_3_1 (s c : F32) (b0 b1 b2 : Bool) : exK Try.prog [ePotT] [] [] (G := anyW) [] 0 noRule [] 400 0 0 (loopN 0 Try.f49) (rmFr s c 3 3 1) [[.fl .f32 two32], [.val (.int .i64 3)], [.sb b0, .sb b1, .sb b2]] (keepK rmMk 3) = rmT s 3 [(0, 1), (1, 1), (2, 1)] (some (.norm, rmFr s c 3 6 2, [[.fl .f32 two32], [.val (.int .i64 3)], [.sb b0, .sb b1, .sb b2, .sb (rmB s c 3 0 1), .sb (rmB s c 3 1 1), .sb (rmB s c 3 2 1)]])) := by kernel_rfl
theorem rm_round_3_2 (s c : F32) (b0 b1 b2 b3 b4 b5 : Bool) : exK Try.prog [ePotT] [] [] (G := anyW) [] 0 noRule [] 400 0 0 (loopN 0 Try.f49) (rmFr s c 3 6 2) [[.fl .f32 two32], [.val (.int .i64 3)], [.sb b0, .sb b1, .sb b2, .sb b3, .sb b4, .sb b5]] (keepK rmMk 3) = rmT s 3 [(0, 2), (1, 2), (2, 2)] (some (.norm, rmFr s c 3 9 3, [[.fl .f32 two32], [.val (.int .i64 3)], [.sb b0, .sb b1, .sb b2, .sb b3, .sb b4, .sb b5, .sb (rmB s c 3 0 2), .sb (rmB s c 3 1 2), .sb (rmB s c 3 2 2)]])) := by kernel_rfl
theorem rm_last_3 (s c : F32) (b0 b1 b2 b3 b4 b5 b6 b7 b8 : Bool) : exK Try.prog [ePotT] [] [] (G := anyW) [] 0 noRule [] 400 0 0 (loopN 0 Try.f49) (rmFr s c 3 9 3) [[.fl .f32 two32], [.val (.int .i64 3)], [.sb b0, .sb b1, .sb b2, .sb b3, .sb b4, .sb b5, .sb b6, .sb b7, .sb b8]] (keepK rmMk 3) = some (.exit 0, rmFr s c 3 9 3, [[.fl .f32 two32], [.val (.int .i64 3)], [.sb b0, .sb b1, .sb b2, .sb b3, .sb b4, .sb b5, .sb b6, .sb b7, .sb b8]]) := by kernel_rfl
theorem rm_round_4_0 (s c : F32) : exK Try.prog [ePotT] [] [] (G := anyW) [] 0 noRule [] 400 0 0 (loopN 0 Try.f49) (rmFr s c 4 0 0) [[.fl .f32 two32], [.val (.int .i64 4)], []] (keepK rmMk 3) = rmT s 4 [(0, 0), (1, 0), (2, 0), (3, 0)] (some (.norm, rmFr s c 4 4 1, [[.fl .f32 two32], [.val (.int .i64 4)], [.sb (rmB s c 4 0 0), .sb (rmB s c 4 1 0), .sb (rmB s c 4 2 0), .sb (rmB s c 4 3 0)]])) := by kernel_rfl
theorem rm_round_4_1 (s c : F32) (b0 b1 b2 b3 : Bool) : exK Try.prog [ePotT] [] [] (G := anyW) [] 0 noRule [] 400 0 0 (loopN 0 Try.f49) (rmFr s c 4 4 1) [[.fl .f32 two32], [.val (.int .i64 4)], [.sb b0, .sb b1, .sb b2, .sb b3]] (keepK rmMk 3) = rmT s 4 [(0, 1), (1, 1), (2, 1), (3, 1)] (some (.norm, rmFr s c 4 8 2, [[.fl .f32 two32], [.val (.int .i64 4)], [.sb b0, .sb b1, .sb b2, .sb b3, .sb (rmB s c 4 0 1), .sb (rmB s c 4 1 1), .sb (rmB s c 4 2 1), .sb (rmB s c 4 3 1)]])) := by kernel_rfl
theorem rm_round_4_2 (s c : F32) (b0 b1 b2 b3 b4 b5 b6 b7 : Bool) : exK Try.prog [ePotT] [] [] (G := anyW) [] 0 noRule [] 400 0 0 (loopN 0 Try.f49) (rmFr s c 4 8 2) [[.fl .f32 two32], [.val (.int .i64 4)], [.sb b0, .sb b1, .sb b2, .sb b3, .sb b4, .sb b5, .sb b6, .sb b7]] (keepK rmMk 3) = rmT s 4 [(0, 2), (1, 2), (2, 2), (3, 2)] (some (.norm, rmFr s c 4 12 3, [[.fl .f32 two32], [.val (.int .i64 4)], [.sb b0, .sb b1, .sb b2, .sb b3, .sb b4, .sb b5, .sb b6, .sb b7, .sb (rmB s c 4 0 2), .sb (rmB s c 4 1 2), .sb (rmB s c 4 2 2), .sb (rmB s c 4 3 2)]])) := by kernel_rfl
theorem rm_round_4_3 (s c : F32) (b0 b1 b2 b3 b4 b5 b6 b7 b8 b9 b10 b11 : Bool) : exK Try.prog [ePotT] [] [] (G := anyW) [] 0 noRule [] 400 0 0 (loopN 0 Try.f49) (rmFr s c 4 12 3) [[.fl .f32 two32], [.val (.int .i64 4)], [.sb b0, .sb b1, .sb b2, .sb b3, .sb b4, .sb b5, .sb b6, .sb b7, .sb b8, .sb b9, .sb b10, .sb b11]] (keepK rmMk 3) = rmT s 4 [(0, 3), (1, 3), (2, 3), (3, 3)] (some (.norm, rmFr s c 4 16 4, [[.fl .f32 two32], [.val (.int .i64 4)], [.sb b0, .sb b1, .sb b2, .sb b3, .sb b4, .sb b5, .sb b6, .sb b7, .sb b8, .sb b9, .sb b10, .sb b11, .sb (rmB s c 4 0 3), .sb (rmB s c 4 1 3), .sb (rmB s c 4 2 3), .sb (rmB s c 4 3 3)]])) := by kernel_rfl
theorem rm_last_4 (s c : F32) (b0 b1 b2 b3 b4 b5 b6 b7 b8 b9 b10 b11 b12 b13 b14 b15 : Bool) : exK Try.prog [ePotT] [] [] (G := anyW) [] 0 noRule [] 400 0 0 (loopN 0 Try.f49) (rmFr s c 4 16 4) [[.fl .f32 two32], [.val (.int .i64 4)], [.sb b0, .sb b1, .sb b2, .sb b3, .sb b4, .sb b5, .sb b6, .sb b7, .sb b8, .sb b9, .sb b10, .sb b11, .sb b12, .sb b13, .sb b14, .sb b15]] (keepK rmMk 3) = some (.exit 0, rmFr s c 4 16 4, [[.fl .f32 two32], [.val (.int .i64 4)], [.sb b0, .sb b1, .sb b2, .sb b3, .sb b4, .sb b5, .sb b6, .sb b7, .sb b8, .sb b9, .sb b10, .sb b11, .sb b12, .sb b13, .sb b14, .sb b15]]) := by kernel_rfl
theorem rm_round_5_0 (s c : F32) : exK Try.prog [ePotT] [] [] (G := anyW) [] 0 noRule [] 400 0 0 (loopN 0 Try.f49) (rmFr s c 5 0 0) [[.fl .f32 two32], [.val (.int .i64 5)], []] (keepK rmMk 3) = rmT s 5 [(0, 0), (1, 0), (2, 0), (3, 0), (4, 0)] (some (.norm, rmFr s c 5 5 1, [[.fl .f32 two32], [.val (.int .i64 5)], [.sb (rmB s c 5 0 0), .sb (rmB s c 5 1 0), .sb (rmB s c 5 2 0), .sb (rmB s c 5 3 0), .sb (rmB s c 5 4 0)]])) := by kernel_rfl
theorem rm_round_5_1 (s c : F32) (b0 b1 b2 b3 b4 : Bool) : exK Try.prog [ePotT] [] [] (G := anyW) [] 0 noRule [] 400 0 0 (loopN 0 Try.f49) (rmFr s c 5 5 1) [[.fl .f32 two32], [.val (.int .i64 5)], [.sb b0, .sb b1, .sb b2, .sb b3, .sb b4]] (keepK rmMk 3) = rmT s 5 [(0, 1), (1, 1), (2, 1), (3, 1), (4, 1)] (some (.norm, rmFr s c 5 10 2, [[.fl .f32 two32], [.val (.int .i64 5)], [.sb b0, .sb b1, .sb b2, .sb b3, .sb b4, .sb (rmB s c 5 0 1), .sb (rmB s c 5 1 1), .sb (rmB s c 5 2 1), .sb (rmB s c 5 3 1), .sb (rmB s c 5 4 1)]])) := by kernel_rfl
theorem rm_round_5_2 (s c : F32) (b0 b1 b2 b3 b4 b5 b6 b7 b8 b9 : Bool) : exK Try.prog [ePotT] [] [] (G := anyW) [] 0 noRule [] 400 0 0 (loopN 0 Try.f49) (rmFr s c 5 10 2) [[.fl .f32 two32], [.val (.int .i64 5)], [.sb b0, .sb b1, .sb b2, .sb b3, .sb b4, .sb b5, .sb b6, .sb b7, .sb b8, .sb b9]] (keepK rmMk 3) = rmT s 5 [(0, 2), (1, 2), (2, 2), (3, 2), (4, 2)] (some (.norm, rmFr s c 5 15 3, [[.fl .f32 two32], [.val (.int .i64 5)], [.sb b0, .sb b1, .sb b2, .sb b3, .sb b4, .sb b5, .sb b6, .sb b7, .sb b8, .sb b9, .sb (rmB s c 5 0 2), .sb (rmB s c 5 1 2), .sb (rmB s c 5 2 2), .sb (rmB s c 5 3 2), .sb (rmB s c 5 4 2)]])) := by kernel_rfl
theorem rm_round_5_3 (s c : F32) (b0 b1 b2 b3 b4 b5 b6 b7 b8 b9 b10 b11 b12 b13 b14 : Bool) : exK Try.prog [ePotT] [] [] (G := anyW) [] 0 noRule [] 400 0 0 (loopN 0 Try.f49) (rmFr s c 5 15 3) [[.fl .f32 two32], [.val (.int .i64 5)], [.sb b0, .sb b1, .sb b2, .sb b3, .sb b4, .sb b5, .sb b6, .sb b7, .sb b8, .sb b9, .sb b10, .sb b11, .sb b12, .sb b13, .sb b14]] (keepK rmMk 3) = rmT s 5 [(0, 3), (1, 3), (2, 3), (3, 3), (4, 3)] (some (.norm, rmFr s c 5 20 4, [[.fl .f32 two32], [.val (.int .i64 5)], [.sb b0, .sb b1, .sb b2, .sb b3, .sb b4, .sb b5, .sb b6, .sb b7, .sb b8, .sb b9, .sb b10, .sb b11, .sb b12, .sb b13, .sb b14, .sb (rmB s c 5 0 3), .sb (rmB s c 5 1 3), .sb (rmB s c 5 2 3), .sb (rmB s c 5 3 3), .sb (rmB s c 5 4 3)]])) := by kernel_rfl
theorem rm_round_5_4 (s c : F32) (b0 b1 b2 b3 b4 b5 b6 b7 b8 b9 b10 b11 b12 b13 b14 b15 b16 b17 b18 b19 : Bool) : exK Try.prog [ePotT] [] [] (G := anyW) [] 0 noRule [] 400 0 0 (loopN 0 Try.f49) (rmFr s c 5 20 4) [[.fl .f32 two32], [.val (.int .i64 5)], [.sb b0, .sb b1, .sb b2, .sb b3, .sb b4, .sb b5, .sb b6, .sb b7, .sb b8, .sb b9, .sb b10, .sb b11, .sb b12, .sb b13, .sb b14, .sb b15, .sb b16, .sb b17, .sb b18, .sb b19]] (keepK rmMk 3) = rmT s 5 [(0, 4), (1, 4), (2, 4), (3, 4), (4, 4)] (some (.norm, rmFr s c 5 25 5, [[.fl .f32 two32], [.val (.int .i64 5)], [.sb b0, .sb b1, .sb b2, .sb b3, .sb b4, .sb b5, .sb b6, .sb b7, .sb b8, .sb b9, .sb b10, .sb b11, .sb b12, .sb b13, .sb b14, .sb b15, .sb b16, .sb b17, .sb b18, .sb b19, .sb (rmB s c 5 0 4), .sb (rmB s c 5 1 4), .sb (rmB s c 5 2 4), .sb (rmB s c 5 3 4), .sb (rmB s c 5 4 4)]])) := by kernel_rfl
theorem rm_last_5 (s c : F32) (b0 b1 b2 b3 b4 b5 b6 b7 b8 b9 b10 b11 b12 b13 b14 b15 b16 b17 b18 b19 b20 b21 b22 b23 b24 : Bool) : exK Try.prog [ePotT] [] [] (G := anyW) [] 0 noRule [] 400 0 0 (loopN 0 Try.f49) (rmFr s c 5 25 5) [[.fl .f32 two32], [.val (.int .i64 5)], [.sb b0, .sb b1, .sb b2, .sb b3, .sb b4, .sb b5, .sb b6, .sb b7, .sb b8, .sb b9, .sb b10, .sb b11, .sb b12, .sb b13, .sb b14, .sb b15, .sb b16, .sb b17, .sb b18, .sb b19, .sb b20, .sb b21, .sb b22, .sb b23, .sb b24]] (keepK rmMk 3) = some (.exit 0, rmFr s c 5 25 5, [[.fl .f32 two32], [.val (.int .i64 5)], [.sb b0, .sb b1, .sb b2, .sb b3, .sb b4, .sb b5, .sb b6, .sb b7, .sb b8, .sb b9, .sb b10, .sb b11, .sb b12, .sb b13, .sb b14, .sb b15, .sb b16, .sb b17, .sb b18, .sb b19, .sb b20, .sb b21, .sb b22, .sb b23, .sb b24]]) := by kernel_rfl
theorem rm_round_6_0 (s c : F32) : exK Try.prog [ePotT] [] [] (G := anyW) [] 0 noRule [] 400 0 0 (loopN 0 Try.f49) (rmFr s c 6 0 0) [[.fl .f32 two32], [.val (.int .i64 6)], []] (keepK rmMk 3) = rmT s 6 [(0, 0), (1, 0), (2, 0), (3, 0), (4, 0), (5, 0)] (some (.norm, rmFr s c 6 6 1, [[.fl .f32 two32], [.val (.int .i64 6)], [.sb (rmB s c 6 0 0), .sb (rmB s c 6 1 0), .sb (rmB s c 6 2 0), .sb (rmB s c 6 3 0), .sb (rmB s c 6 4 0), .sb (rmB s c 6 5 0)]])) := by kernel_rfl
theorem rm_round_6_1 (s c : F32) (b0 b1 b2 b3 b4 b5 : Bool) : exK Try.prog [ePotT] [] [] (G := anyW) [] 0 noRule [] 400 0 0 (loopN 0 Try.f49) (rmFr s c 6 6 1) [[.fl .f32 two32], [.val (.int .i64 6)], [.sb b0, .sb b1, .sb b2, .sb b3, .sb b4, .sb b5]] (keepK rmMk 3) = rmT s 6 [(0, 1), (1, 1), (2, 1), (3, 1), (4, 1), (5, 1)] (some (.norm, rmFr s c 6 12 2, [[.fl .f32 two32], [.val (.int .i64 6)], [.sb b0, .sb b1, .sb b2, .sb b3, .sb b4, .sb b5, .sb (rmB s c 6 0 1), .sb (rmB s c 6 1 1), .sb (rmB s c 6 2 1), .sb (rmB s c 6 3 1), .sb (rmB s c 6 4 1), .sb (rmB s c 6 5 1)]])) := by kernel_rfl
theorem rm_round_6_2 (s c : F32) (b0 b1 b2 b3 b4 b5 b6 b7 b8 b9 b10 b11 : Bool) : exK Try.prog [ePotT] [] [] (G := anyW) [] 0 noRule [] 400 0 0 (loopN 0 Try.f49) (rmFr s c 6 12 2) [[.fl .f32 two32], [.val (.int .i64 6)], [.sb b0, .sb b1, .sb b2, .sb b3, .sb b4, .sb b5, .sb b6, .sb b7, .sb b8, .sb b9, .sb b10, .sb b11]] (keepK rmMk 3) = rmT s 6 [(0, 2), (1, 2), (2, 2), (3, 2), (4, 2), (5, 2)] (some (.norm, rmFr s c 6 18 3, [[.fl .f32 two32], [.val (.int .i64 6)], [.sb b0, .sb b1, .sb b2, .sb b3, .sb b4, .sb b5, .sb b6, .sb b7, .sb b8, .sb b9, .sb b10, .sb b11, .sb (rmB s c 6 0 2), .sb (rmB s c 6 1 2), .sb (rmB s c 6 2 2), .sb (rmB s c 6 3 2), .sb (rmB s c 6 4 2), .sb (rmB s c 6 5 2)]])) := by kernel_rfl
theorem rm_round_6_3 (s c : F32) (b0 b1 b2 b3 b4 b5 b6 b7 b8 b9 b10 b11 b12 b13 b14 b15 b16 b17 : Bool) : exK Try.prog [ePotT] [] [] (G := anyW) [] 0 noRule [] 400 0 0 (loopN 0 Try.f49) (rmFr s c 6 18 3) [[.fl .f32 two32], [.val (.int .i64 6)], [.sb b0, .sb b1, .sb b2, .sb b3, .sb b4, .sb b5, .sb b6, .sb b7, .sb b8, .sb b9, .sb b10, .sb b11, .sb b12, .sb b13, .sb b14, .sb b15, .sb b16, .sb b17]] (keepK rmMk 3) = rmT s 6 [(0, 3), (1, 3), (2, 3), (3, 3), (4, 3), (5, 3)] (some (.norm, rmFr s c 6 24 4, [[.fl .f32 two32], [.val (.int .i64 6)], [.sb b0, .sb b1, .sb b2, .sb b3, .sb b4, .sb b5, .sb b6, .sb b7, .sb b8, .sb b9, .sb b10, .sb b11, .sb b12, .sb b13, .sb b14, .sb b15, .sb b16, .sb b17, .sb (rmB s c 6 0 3), .sb (rmB s c 6 1 3), .sb (rmB s c 6 2 3), .sb (rmB s c 6 3 3), .sb (rmB s c 6 4 3), .sb (rmB s c 6 5 3)]])) := by kernel_rfl
theorem rm_round_6_4 (s c : F32) (b0 b1 b2 b3 b4 b5 b6 b7 b8 b9 b10 b11 b12 b13 b14 b15 b16 b17 b18 b19 b20 b21 b22 b23 : Bool) : exK Try.prog [ePotT] [] [] (G := anyW) [] 0 noRule [] 400 0 0 (loopN 0 Try.f49) (rmFr s c 6 24 4) [[.fl .f32 two32], [.val (.int .i64 6)], [.sb b0, .sb b1, .sb b2, .sb b3, .sb b4, .sb b5, .sb b6, .sb b7, .sb b8, .sb b9, .sb b10, .sb b11, .sb b12, .sb b13, .sb b14, .sb b15, .sb b16, .sb b17, .sb b18, .sb b19, .sb b20, .sb b21, .sb b22, .sb b23]] (keepK rmMk 3) = rmT s 6 [(0, 4), (1, 4), (2, 4), (3, 4), (4, 4), (5, 4)] (some (.norm, rmFr s c 6 30 5, [[.fl .f32 two32], [.val (.int .i64 6)], [.sb b0, .sb b1, .sb b2, .sb b3, .sb b4, .sb b5, .sb b6, .sb b7, .sb b8, .sb b9, .sb b10, .sb b11, .sb b12, .sb b13, .sb b14, .sb b15, .sb b16, .sb b17, .sb b18, .sb b19, .sb b20, .sb b21, .sb b22, .sb b23, .sb (rmB s c 6 0 4), .sb (rmB s c 6 1 4), .sb (rmB s c 6 2 4), .sb (rmB s c 6 3 4), .sb (rmB s c 6 4 4), .sb (rmB s c 6 5 4)]])) := by kernel_rfl
theorem rm_round_6_5 (s c : F32) (b0 b1 b2 b3 b4 b5 b6 b7 b8 b9 b10 b11 b12 b13 b14 b15 b16 b17 b18 b19 b20 b21 b22 b23 b24 b25 b26 b27 b28 b29 : Bool) : exK Try.prog [ePotT] [] [] (G := anyW) [] 0 noRule [] 400 0 0 (loopN 0 Try.f49) (rmFr s c 6 30 5) [[.fl .f32 two32], [.val (.int .i64 6)], [.sb b0, .sb b1, .sb b2, .sb b3, .sb b4, .sb b5, .sb b6, .sb b7, .sb b8, .sb b9, .sb b10, .sb b11, .sb b12, .sb b13, .sb b14, .sb b15, .sb b16, .sb b17, .sb b18, .sb b19, .sb b20, .sb b21, .sb b22, .sb b23, .sb b24, .sb b25, .sb b26, .sb b27, .sb b28, .sb b29]] (keepK rmMk 3) = rmT s 6 [(0, 5), (1, 5), (2, 5), (3, 5), (4, 5), (5, 5)] (some (.norm, rmFr s c 6 36 6, [[.fl .f32 two32], [.val (.int .i64 6)], [.sb b0, .sb b1, .sb b2, .sb b3, .sb b4, .sb b5, .sb b6, .sb b7, .sb b8, .sb b9, .sb b10, .sb b11, .sb b12, .sb b13, .sb b14, .sb b15, .sb b16, .sb b17, .sb b18, .sb b19, .sb b20, .sb b21, .sb b22, .sb b23, .sb b24, .sb b25, .sb b26, .sb b27, .sb b28, .sb b29, .sb (rmB s c 6 0 5), .sb (rmB s c 6 1 5), .sb (rmB s c 6 2 5), .sb (rmB s c 6 3 5), .sb (rmB s c 6 4 5), .sb (rmB s c 6 5 5)]])) := by kernel_rfl
theorem rm_last_6 (s c : F32) (b0 b1 b2 b3 b4 b5 b6 b7 b8 b9 b10 b11 b12 b13 b14 b15 b16 b17 b18 b19 b20 b21 b22 b23 b24 b25 b26 b27 b28 b29 b30 b31 b32 b33 b34 b35 : Bool) : exK Try.prog [ePotT] [] [] (G := anyW) [] 0 noRule [] 400 0 0 (loopN 0 Try.f49) (rmFr s c 6 36 6) [[.fl .f32 two32], [.val (.int .i64 6)], [.sb b0, .sb b1, .sb b2, .sb b3, .sb b4, .sb b5, .sb b6, .sb b7, .sb b8, .sb b9, .sb b10, .sb b11, .sb b12, .sb b13, .sb b14, .sb b15, .sb b16, .sb b17, .sb b18, .sb b19, .sb b20, .sb b21, .sb b22, .sb b23, .sb b24, .sb b25, .sb b26, .sb b27, .sb b28, .sb b29, .sb b30, .sb b31, .sb b32, .sb b33, .sb b34, .sb b35]] (keepK rmMk 3) = some (.exit 0, rmFr s c 6 36 6, [[.fl .f32 two32], [.val (.int .i64 6)], [.sb b0, .sb b1, .sb b2, .sb b3, .sb b4, .sb b5, .sb b6, .sb b7, .sb b8, .sb b9, .sb b10, .sb b11, .sb b12, .sb b13, .sb b14, .sb b15, .sb b16, .sb b17, .sb b18, .sb b19, .sb b20, .sb b21, .sb b22, .sb b23, .sb b24, .sb b25, .sb b26, .sb b27, .sb b28, .sb b29, .sb b30, .sb b31, .sb b32, .sb b33, .sb b34, .sb b35]]) := by kernel_rfl
theorem rm_from_1_1 (w0 : Base) (hw : w0.s0.length ≤ 0) (s c : F32) (b0 : Bool) : InGoes Try.prog 0 w0 (loopN 0 Try.f49) (rmFr s c 1 1 1) [[.fl .f32 two32], [.val (.int .i64 1)], [.sb b0]] (.exit 0) (rmFr s c 1 1 1) [[.fl .f32 two32], [.val (.int .i64 1)], [.sb b0]] :=
  goes_last (fun h => by cases h) (goes_of_exK w0 hw (rm_last_1 s c b0))
theorem rm_from_1_0 (w0 : Base) (hw : w0.s0.length ≤ 0) (s c : F32) (h : rmAll s 1 [(0, 0)] = true) : InGoes Try.prog 0 w0 (loopN 0 Try.f49) (rmFr s c 1 0 0) [[.fl .f32 two32], [.val (.int .i64 1)], []] (.exit 0) (rmFr s c 1 1 1) [[.fl .f32 two32], [.val (.int .i64 1)], [.sb (rmB s c 1 0 0)]] := by
  have h' : rmAll s 1 ([(0, 0)] ++ []) = true := h
  have hr := rm_round_1_0 s c
  rw [rmT_all s 1 [(0, 0)] _ (rmAll_app h').1] at hr
  exact goes_round (goes_of_exK w0 hw hr) (rm_from_1_1 w0 hw s c (rmB s c 1 0 0))
theorem rm_from_2_2 (w0 : Base) (hw : w0.s0.length ≤ 0) (s c : F32) (b0 b1 b2 b3 : Bool) : InGoes Try.prog 0 w0 (loopN 0 Try.f49) (rmFr s c 2 4 2) [[.fl .f32 two32], [.val (.int .i64 2)], [.sb b0, .sb b1, .sb b2, .sb b3]] (.exit 0) (rmFr s c 2 4 2) [[.fl .f32 two32], [.val (.int .i64 2)], [.sb b0, .sb b1, .sb b2, .sb b3]] :=
  goes_last (fun h => by cases h) (goes_of_exK w0 hw (rm_last_2 s c b0 b1 b2 b3))
theorem rm_from_2_1 (w0 : Base) (hw : w0.s0.length ≤ 0) (s c : F32) (b0 b1 : Bool) (h : rmAll s 2 [(0, 1), (1, 1)] = true) : InGoes Try.prog 0 w0 (loopN 0 Try.f49) (rmFr s c 2 2 1) [[.fl .f32 two32], [.val (.int .i64 2)], [.sb b0, .sb b1]] (.exit 0) (rmFr s c 2 4 2) [[.fl .f32 two32], [.val (.int .i64 2)], [.sb b0, .sb b1, .sb (rmB s c 2 0 1), .sb (rmB s c 2 1 1)]] := by
  have h' : rmAll s 2 ([(0, 1), (1, 1)] ++ []) = true := h
  have hr := rm_round_2_1 s c b0 b1
  rw [rmT_all s 2 [(0, 1), (1, 1)] _ (rmAll_app h').1] at hr
  exact goes_round (goes_of_exK w0 hw hr) (rm_from_2_2 w0 hw s c b0 b1 (rmB s c 2 0 1) (rmB s c 2 1 1))
theorem rm_from_2_0 (w0 : Base) (hw : w0.s0.length ≤ 0) (s c : F32) (h : rmAll s 2 [(0, 0), (1, 0), (0, 1), (1, 1)] = true) : InGoes Try.prog 0 w0 (loopN 0 Try.f49) (rmFr s c 2 0 0) [[.fl .f32 two32], [.val (.int .i64 2)], []] (.exit 0) (rmFr s c 2 4 2) [[.fl .f32 two32], [.val (.int .i64 2)], [.sb (rmB s c 2 0 0), .sb (rmB s c 2 1 0), .sb (rmB s c 2 0 1), .sb (rmB s c 2 1 1)]] := by
  have h' : rmAll s 2 ([(0, 0), (1, 0)] ++ [(0, 1), (1, 1)]) = true := h
  have hr := rm_round_2_0 s c
  rw [rmT_all s 2 [(0, 0), (1, 0)] _ (rmAll_app h').1] at hr
  exact goes_round (goes_of_exK w0 hw hr) (rm_from_2_1 w0 hw s c (rmB s c 2 0 0) (rmB s c 2 1 0) (rmAll_app h').2)
theorem rm_from_3_3 (w0 : Base) (hw : w0.s0.length ≤ 0) (s c : F32) (b0 b1 b2 b3 b4 b5 b6 b7 b8 : Bool) : InGoes Try.prog 0 w0 (loopN 0 Try.f49) (rmFr s c 3 9 3) [[.fl .f32 two32], [.val (.int .i64 3)], [.sb b0, .sb b1, .sb b2, .sb b3, .sb b4, .sb b5, .sb b6, .sb b7, .sb b8]] (.exit 0) (rmFr s c 3 9 3) [[.fl .f32 two32], [.val (.int .i64 3)], [.sb b0, .sb b1, .sb b2, .sb b3, .sb b4, .sb b5, .sb b6, .sb b7, .sb b8]] :=
  goes_last (fun h => by cases h) (goes_of_exK w0 hw (rm_last_3 s c b0 b1 b2 b3 b4 b5 b6 b7 b8))
theorem rm_from_3_2 (w0 : Base) (hw : w0.s0.length ≤ 0) (s c : F32) (b0 b1 b2 b3 b4 b5 : Bool) (h : rmAll s 3 [(0, 2), (1, 2), (2, 2)] = true) : InGoes Try.prog 0 w0 (loopN 0 Try.f49) (rmFr s c 3 6 2) [[.fl .f32 two32], [.val (.int .i64 3)], [.sb b0, .sb b1, .sb b2, .sb b3, .sb b4, .sb b5]] (.exit 0) (rmFr s c 3 9 3) [[.fl .f32 two32], [.val (.int .i64 3)], [.sb b0, .sb b1, .sb b2, .sb b3, .sb b4, .sb b5, .sb (rmB s c 3 0 2), .sb (rmB s c 3 1 2), .sb (rmB s c 3 2 2)]] := by
  have h' : rmAll s 3 ([(0, 2), (1, 2), (2, 2)] ++ []) = true := h
  have hr := rm_round_3_2 s c b0 b1 b2 b3 b4 b5
  rw [rmT_all s 3 [(0, 2), (1, 2), (2, 2)] _ (rmAll_app h').1] at hr
  exact goes_round (goes_of_exK w0 hw hr) (rm_from_3_3 w0 hw s c b0 b1 b2 b3 b4 b5 (rmB s c 3 0 2) (rmB s c 3 1 2) (rmB s c 3 2 2))
theorem rm_from_3_1 (w0 : Base) (hw : w0.s0.length ≤ 0) (s c : F32) (b0 b1 b2 : Bool) (h : rmAll s 3 [(0, 1), (1, 1), (2, 1), (0, 2), (1, 2), (2, 2)] = true) : InGoes Try.prog 0 w0 (loopN 0 Try.f49) (rmFr s c 3 3 1) [[.fl .f32 two32], [.val (.int .i64 3)], [.sb b0, .sb b1, .sb b2]] (.exit 0) (rmFr s c 3 9 3) [[.fl .f32 two32], [.val (.int .i64 3)], [.sb b0, .sb b1, .sb b2, .sb (rmB s c 3 0 1), .sb (rmB s c 3 1 1), .sb (rmB s c 3 2 1), .sb (rmB s c 3 0 2), .sb (rmB s c 3 1 2), .sb (rmB s c 3 2 2)]] := by
  have h' : rmAll s 3 ([(0, 1), (1, 1), (2, 1)] ++ [(0, 2), (1, 2), (2, 2)]) = true := h
  have hr := rm_round_3_1 s c b0 b1 b2
  rw [rmT_all s 3 [(0, 1), (1, 1), (2, 1)] _ (rmAll_app h').1] at hr
  exact goes_round (goes_of_exK w0 hw hr) (rm_from_3_2 w0 hw s c b0 b1 b2 (rmB s c 3 0 1) (rmB s c 3 1 1) (rmB s c 3 2 1) (rmAll_app h').2)
theorem rm_from_3_0 (w0 : Base) (hw : w0.s0.length ≤ 0) (s c : F32) (h : rmAll s 3 [(0, 0), (1, 0), (2, 0), (0, 1), (1, 1), (2, 1), (0, 2), (1, 2), (2, 2)] = true) : InGoes Try.prog 0 w0 (loopN 0 Try.f49) (rmFr s c 3 0 0) [[.fl .f32 two32], [.val (.int .i64 3)], []] (.exit 0) (rmFr s c 3 9 3) [[.fl .f32 two32], [.val (.int .i64 3)], [.sb (rmB s c 3 0 0), .sb (rmB s c 3 1 0), .sb (rmB s c 3 2 0), .sb (rmB s c 3 0 1), .sb (rmB s c 3 1 1), .sb (rmB s c 3 2 1), .sb (rmB s c 3 0 2), .sb (rmB s c 3 1 2), .sb (rmB s c 3 2 2)]] := by
  have h' : rmAll s 3 ([(0, 0), (1, 0), (2, 0)] ++ [(0, 1), (1, 1), (2, 1), (0, 2), (1, 2), (2, 2)]) = true := h
  have hr := rm_round_3_0 s c
  rw [rmT_all s 3 [(0, 0), (1, 0), (2, 0)] _ (rmAll_app h').1] at hr
  exact goes_round (goes_of_exK w0 hw hr) (rm_from_3_1 w0 hw s c (rmB s c 3 0 0) (rmB s c 3 1 0) (rmB s c 3 2 0) (rmAll_app h').2)
theorem rm_from_4_4 (w0 : Base) (hw : w0.s0.length ≤ 0) (s c : F32) (b0 b1 b2 b3 b4 b5 b6 b7 b8 b9 b10 b11 b12 b13 b14 b15 : Bool) : InGoes Try.prog 0 w0 (loopN 0 Try.f49) (rmFr s c 4 16 4) [[.fl .f32 two32], [.val (.int .i64 4)], [.sb b0, .sb b1, .sb b2, .sb b3, .sb b4, .sb b5, .sb b6, .sb b7, .sb b8, .sb b9, .sb b10, .sb b11, .sb b12, .sb b13, .sb b14, .sb b15]] (.exit 0) (rmFr s c 4 16 4) [[.fl .f32 two32], [.val (.int .i64 4)], [.sb b0, .sb b1, .sb b2, .sb b3, .sb b4, .sb b5, .sb b6, .sb b7, .sb b8, .sb b9, .sb b10, .sb b11, .sb b12, .sb b13, .sb b14, .sb b15]] :=
  goes_last (fun h => by cases h) (goes_of_exK w0 hw (rm_last_4 s c b0 b1 b2 b3 b4 b5 b6 b7 b8 b9 b10 b11 b12 b13 b14 b15))
theorem rm_from_4_3 (w0 : Base) (hw : w0.s0.length ≤ 0) (s c : F32) (b0 b1 b2 b3 b4 b5 b6 b7 b8 b9 b10 b11 : Bool) (h : rmAll s 4 [(0, 3), (1, 3), (2, 3), (3, 3)] = true) : InGoes Try.prog 0 w0 (loopN 0 Try.f49) (rmFr s c 4 12 3) [[.fl .f32 two32], [.val (.int .i64 4)], [.sb b0, .sb b1, .sb b2, .sb b3, .sb b4, .sb b5, .sb b6, .sb b7, .sb b8, .sb b9, .sb b10, .sb b11]] (.exit 0) (rmFr s c 4 16 4) [[.fl .f32 two32], [.val (.int .i64 4)], [.sb b0, .sb b1, .sb b2, .sb b3, .sb b4, .sb b5, .sb b6, .sb b7, .sb b8, .sb b9, .sb b10, .sb b11, .sb (rmB s c 4 0 3), .sb (rmB s c 4 1 3), .sb (rmB s c 4 2 3), .sb (rmB s c 4 3 3)]] := by
  have h' : rmAll s 4 ([(0, 3), (1, 3), (2, 3), (3, 3)] ++ []) = true := h
  have hr := rm_round_4_3 s c b0 b1 b2 b3 b4 b5 b6 b7 b8 b9 b10 b11
  rw [rmT_all s 4 [(0, 3), (1, 3), (2, 3), (3, 3)] _ (rmAll_app h').1] at hr
  exact goes_round (goes_of_exK w0 hw hr) (rm_from_4_4 w0 hw s c b0 b1 b2 b3 b4 b5 b6 b7 b8 b9 b10 b11 (rmB s c 4 0 3) (rmB s c 4 1 3) (rmB s c 4 2 3) (rmB s c 4 3 3))
theorem rm_from_4_2 (w0 : Base) (hw : w0.s0.length ≤ 0) (s c : F32) (b0 b1 b2 b3 b4 b5 b6 b7 : Bool) (h : rmAll s 4 [(0, 2), (1, 2), (2, 2), (3, 2), (0, 3), (1, 3), (2, 3), (3, 3)] = true) : InGoes Try.prog 0 w0 (loopN 0 Try.f49) (rmFr s c 4 8 2) [[.fl .f32 two32], [.val (.int .i64 4)], [.sb b0, .sb b1, .sb b2, .sb b3, .sb b4, .sb b5, .sb b6, .sb b7]] (.exit 0) (rmFr s c 4 16 4) [[.fl .f32 two32], [.val (.int .i64 4)], [.sb b0, .sb b1, .sb b2, .sb b3, .sb b4, .sb b5, .sb b6, .sb b7, .sb (rmB s c 4 0 2), .sb (rmB s c 4 1 2), .sb (rmB s c 4 2 2), .sb (rmB s c 4 3 2), .sb (rmB s c 4 0 3), .sb (rmB s c 4 1 3), .sb (rmB s c 4 2 3), .sb (rmB s c 4 3 3)]] := by
  have h' : rmAll s 4 ([(0, 2), (1, 2), (2, 2), (3, 2)] ++ [(0, 3), (1, 3), (2, 3), (3, 3)]) = true := h
  have hr := rm_round_4_2 s c b0 b1 b2 b3 b4 b5 b6 b7
  rw [rmT_all s 4 [(0, 2), (1, 2), (2, 2), (3, 2)] _ (rmAll_app h').1] at hr
  exact goes_round (goes_of_exK w0 hw hr) (rm_from_4_3 w0 hw s c b0 b1 b2 b3 b4 b5 b6 b7 (rmB s c 4 0 2) (rmB s c 4 1 2) (rmB s c 4 2 2) (rmB s c 4 3 2) (rmAll_app h').2)
theorem rm_from_4_1 (w0 : Base) (hw : w0.s0.length ≤ 0) (s c : F32) (b0 b1 b2 b3 : Bool) (h : rmAll s 4 [(0, 1), (1, 1), (2, 1), (3, 1), (0, 2), (1, 2), (2, 2), (3, 2), (0, 3), (1, 3), (2, 3), (3, 3)] = true) : InGoes Try.prog 0 w0 (loopN 0 Try.f49) (rmFr s c 4 4 1) [[.fl .f32 two32], [.val (.int .i64 4)], [.sb b0, .sb b1, .sb b2, .sb b3]] (.exit 0) (rmFr s c 4 16 4) [[.fl .f32 two32], [.val (.int .i64 4)], [.sb b0, .sb b1, .sb b2, .sb b3, .sb (rmB s c 4 0 1), .sb (rmB s c 4 1 1), .sb (rmB s c 4 2 1), .sb (rmB s c 4 3 1), .sb (rmB s c 4 0 2), .sb (rmB s c 4 1 2), .sb (rmB s c 4 2 2), .sb (rmB s c 4 3 2), .sb (rmB s c 4 0 3), .sb (rmB s c 4 1 3), .sb (rmB s c 4 2 3), .sb (rmB s c 4 3 3)]] := by
  have h' : rmAll s 4 ([(0, 1), (1, 1), (2, 1), (3, 1)] ++ [(0, 2), (1, 2), (2, 2), (3, 2), (0, 3), (1, 3), (2, 3), (3, 3)]) = true := h
  have hr := rm_round_4_1 s c b0 b1 b2 b3
  rw [rmT_all s 4 [(0, 1), (1, 1), (2, 1), (3, 1)] _ (rmAll_app h').1] at hr
  exact goes_round (goes_of_exK w0 hw hr) (rm_from_4_2 w0 hw s c b0 b1 b2 b3 (rmB s c 4 0 1) (rmB s c 4 1 1) (rmB s c 4 2 1) (rmB s c 4 3 1) (rmAll_app h').2)
theorem rm_from_4_0 (w0 : Base) (hw : w0.s0.length ≤ 0) (s c : F32) (h : rmAll s 4 [(0, 0), (1, 0), (2, 0), (3, 0), (0, 1), (1, 1), (2, 1), (3, 1), (0, 2), (1, 2), (2, 2), (3, 2), (0, 3), (1, 3), (2, 3), (3, 3)] = true) : InGoes Try.prog 0 w0 (loopN 0 Try.f49) (rmFr s c 4 0 0) [[.fl .f32 two32], [.val (.int .i64 4)], []] (.exit 0) (rmFr s c 4 16 4) [[.fl .f32 two32], [.val (.int .i64 4)], [.sb (rmB s c 4 0 0), .sb (rmB s c 4 1 0), .sb (rmB s c 4 2 0), .sb (rmB s c 4 3 0), .sb (rmB s c 4 0 1), .sb (rmB s c 4 1 1), .sb (rmB s c 4 2 1), .sb (rmB s c 4 3 1), .sb (rmB s c 4 0 2), .sb (rmB s c 4 1 2), .sb (rmB s c 4 2 2), .sb (rmB s c 4 3 2), .sb (rmB s c 4 0 3), .sb (rmB s c 4 1 3), .sb (rmB s c 4 2 3), .sb (rmB s c 4 3 3)]] := by
  have h' : rmAll s 4 ([(0, 0), (1, 0), (2, 0), (3, 0)] ++ [(0, 1), (1, 1), (2, 1), (3, 1), (0, 2), (1, 2), (2, 2), (3, 2), (0, 3), (1, 3), (2, 3), (3, 3)]) = true := h
  have hr := rm_round_4_0 s c
  rw [rmT_all s 4 [(0, 0), (1, 0), (2, 0), (3, 0)] _ (rmAll_app h').1] at hr
  exact goes_round (goes_of_exK w0 hw hr) (rm_from_4_1 w0 hw s c (rmB s c 4 0 0) (rmB s c 4 1 0) (rmB s c 4 2 0) (rmB s c 4 3 0) (rmAll_app h').2)
theorem rm_from_5_5 (w0 : Base) (hw : w0.s0.length ≤ 0) (s c : F32) (b0 b1 b2 b3 b4 b5 b6 b7 b8 b9 b10 b11 b12 b13 b14 b15 b16 b17 b18 b19 b20 b21 b22 b23 b24 : Bool) : InGoes Try.prog 0 w0 (loopN 0 Try.f49) (rmFr s c 5 25 5) [[.fl .f32 two32], [.val (.int .i64 5)], [.sb b0, .sb b1, .sb b2, .sb b3, .sb b4, .sb b5, .sb b6, .sb b7, .sb b8, .sb b9, .sb b10, .sb b11, .sb b12, .sb b13, .sb b14, .sb b15, .sb b16, .sb b17, .sb b18, .sb b19, .sb b20, .sb b21, .sb b22, .sb b23, .sb b24]] (.exit 0) (rmFr s c 5 25 5) [[.fl .f32 two32], [.val (.int .i64 5)], [.sb b0, .sb b1, .sb b2, .sb b3, .sb b4, .sb b5, .sb b6, .sb b7, .sb b8, .sb b9, .sb b10, .sb b11, .sb b12, .sb b13, .sb b14, .sb b15, .sb b16, .sb b17, .sb b18, .sb b19, .sb b20, .sb b21, .sb b22, .sb b23, .sb b24]] :=
  goes_last (fun h => by cases h) (goes_of_exK w0 hw (rm_last_5 s c b0 b1 b2 b3 b4 b5 b6 b7 b8 b9 b10 b11 b12 b13 b14 b15 b16 b17 b18 b19 b20 b21 b22 b23 b24))
theorem rm_from_5_4 (w0 : Base) (hw : w0.s0.length ≤ 0) (s c : F32) (b0 b1 b2 b3 b4 b5 b6 b7 b8 b9 b10 b11 b12 b13 b14 b15 b16 b17 b18 b19 : Bool) (h : rmAll s 5 [(0, 4), (1, 4), (2, 4), (3, 4), (4, 4)] = true) : InGoes Try.prog 0 w0 (loopN 0 Try.f49) (rmFr s c 5 20 4) [[.fl .f32 two32], [.val (.int .i64 5)], [.sb b0, .sb b1, .sb b2, .sb b3, .sb b4, .sb b5, .sb b6, .sb b7, .sb b8, .sb b9, .sb b10, .sb b11, .sb b12, .sb b13, .sb b14, .sb b15, .sb b16, .sb b17, .sb b18, .sb b19]] (.exit 0) (rmFr s c 5 25 5) [[.fl .f32 two32], [.val (.int .i64 5)], [.sb b0, .sb b1, .sb b2, .sb b3, .sb b4, .sb b5, .sb b6, .sb b7, .sb b8, .sb b9, .sb b10, .sb b11, .sb b12, .sb b13, .sb b14, .sb b15, .sb b16, .sb b17, .sb b18, .sb b19, .sb (rmB s c 5 0 4), .sb (rmB s c 5 1 4), .sb (rmB s c 5 2 4), .sb (rmB s c 5 3 4), .sb (rmB s c 5 4 4)]] := by
  have h' : rmAll s 5 ([(0, 4), (1, 4), (2, 4), (3, 4), (4, 4)] ++ []) = true := h
  have hr := rm_round_5_4 s c b0 b1 b2 b3 b4 b5 b6 b7 b8 b9 b10 b11 b12 b13 b14 b15 b16 b17 b18 b19
  rw [rmT_all s 5 [(0, 4), (1, 4), (2, 4), (3, 4), (4, 4)] _ (rmAll_app h').1] at hr
  exact goes_round (goes_of_exK w0 hw hr) (rm_from_5_5 w0 hw s c b0 b1 b2 b3 b4 b5 b6 b7 b8 b9 b10 b11 b12 b13 b14 b15 b16 b17 b18 b19 (rmB s c 5 0 4) (rmB s c 5 1 4) (rmB s c 5 2 4) (rmB s c 5 3 4) (rmB s c 5 4 4))
theorem rm_from_5_3 (w0 : Base) (hw : w0.s0.length ≤ 0) (s c : F32) (b0 b1 b2 b3 b4 b5 b6 b7 b8 b9 b10 b11 b12 b13 b14 : Bool) (h : rmAll s 5 [(0, 3), (1, 3), (2, 3), (3, 3), (4, 3), (0, 4), (1, 4), (2, 4), (3, 4), (4, 4)] = true) : InGoes Try.prog 0 w0 (loopN 0 Try.f49) (rmFr s c 5 15 3) [[.fl .f32 two32], [.val (.int .i64 5)], [.sb b0, .sb b1, .sb b2, .sb b3, .sb b4, .sb b5, .sb b6, .sb b7, .sb b8, .sb b9, .sb b10, .sb b11, .sb b12, .sb b13, .sb b14]] (.exit 0) (rmFr s c 5 25 5) [[.fl .f32 two32], [.val (.int .i64 5)], [.sb b0, .sb b1, .sb b2, .sb b3, .sb b4, .sb b5, .sb b6, .sb b7, .sb b8, .sb b9, .sb b10, .sb b11, .sb b12, .sb b13, .sb b14, .sb (rmB s c 5 0 3), .sb (rmB s c 5 1 3), .sb (rmB s c 5 2 3), .sb (rmB s c 5 3 3), .sb (rmB s c 5 4 3), .sb (rmB s c 5 0 4), .sb (rmB s c 5 1 4), .sb (rmB s c 5 2 4), .sb (rmB s c 5 3 4), .sb (rmB s c 5 4 4)]] := by
  have h' : rmAll s 5 ([(0, 3), (1, 3), (2, 3), (3, 3), (4, 3)] ++ [(0, 4), (1, 4), (2, 4), (3, 4), (4, 4)]) = true := h
  have hr := rm_round_5_3 s c b0 b1 b2 b3 b4 b5 b6 b7 b8 b9 b10 b11 b12 b13 b14
  rw [rmT_all s 5 [(0, 3), (1, 3), (2, 3), (3, 3), (4, 3)] _ (rmAll_app h').1] at hr
  exact goes_round (goes_of_exK w0 hw hr) (rm_from_5_4 w0 hw s c b0 b1 b2 b3 b4 b5 b6 b7 b8 b9 b10 b11 b12 b13 b14 (rmB s c 5 0 3) (rmB s c 5 1 3) (rmB s c 5 2 3) (rmB s c 5 3 3) (rmB s c 5 4 3) (rmAll_app h').2)
theorem rm_from_5_2 (w0 : Base) (hw : w0.s0.length ≤ 0) (s c : F32) (b0 b1 b2 b3 b4 b5 b6 b7 b8 b9 : Bool) (h : rmAll s 5 [(0, 2), (1, 2), (2, 2), (3, 2), (4, 2), (0, 3), (1, 3), (2, 3), (3, 3), (4, 3), (0, 4), (1, 4), (2, 4), (3, 4), (4, 4)] = true) : InGoes Try.prog 0 w0 (loopN 0 Try.f49) (rmFr s c 5 10 2) [[.fl .f32 two32], [.val (.int .i64 5)], [.sb b0, .sb b1, .sb b2, .sb b3, .sb b4, .sb b5, .sb b6, .sb b7, .sb b8, .sb b9]] (.exit 0) (rmFr s c 5 25 5) [[.fl .f32 two32], [.val (.int .i64 5)], [.sb b0, .sb b1, .sb b2, .sb b3, .sb b4, .sb b5, .sb b6, .sb b7, .sb b8, .sb b9, .sb (rmB s c 5 0 2), .sb (rmB s c 5 1 2), .sb (rmB s c 5 2 2), .sb (rmB s c 5 3 2), .sb (rmB s c 5 4 2), .sb (rmB s c 5 0 3), .sb (rmB s c 5 1 3), .sb (rmB s c 5 2 3), .sb (rmB s c 5 3 3), .sb (rmB s c 5 4 3), .sb (rmB s c 5 0 4), .sb (rmB s c 5 1 4), .sb (rmB s c 5 2 4), .sb (rmB s c 5 3 4), .sb (rmB s c 5 4 4)]] := by
  have h' : rmAll s 5 ([(0, 2), (1, 2), (2, 2), (3, 2), (4, 2)] ++ [(0, 3), (1, 3), (2, 3), (3, 3), (4, 3), (0, 4), (1, 4), (2, 4), (3, 4), (4, 4)]) = true := h
  have hr := rm_round_5_2 s c b0 b1 b2 b3 b4 b5 b6 b7 b8 b9
  rw [rmT_all s 5 [(0, 2), (1, 2), (2, 2), (3, 2), (4, 2)] _ (rmAll_app h').1] at hr
  exact goes_round (goes_of_exK w0 hw hr) (rm_from_5_3 w0 hw s c b0 b1 b2 b3 b4 b5 b6 b7 b8 b9 (rmB s c 5 0 2) (rmB s c 5 1 2) (rmB s c 5 2 2) (rmB s c 5 3 2) (rmB s c 5 4 2) (rmAll_app h').2)
theorem rm_from_5_1 (w0 : Base) (hw : w0.s0.length ≤ 0) (s c : F32) (b0 b1 b2 b3 b4 : Bool) (h : rmAll s 5 [(0, 1), (1, 1), (2, 1), (3, 1), (4, 1), (0, 2), (1, 2), (2, 2), (3, 2), (4, 2), (0, 3), (1, 3), (2, 3), (3, 3), (4, 3), (0, 4), (1, 4), (2, 4), (3, 4), (4, 4)] = true) : InGoes Try.prog 0 w0 (loopN 0 Try.f49) (rmFr s c 5 5 1) [[.fl .f32 two32], [.val (.int .i64 5)], [.sb b0, .sb b1, .sb b2, .sb b3, .sb b4]] (.exit 0) (rmFr s c 5 25 5) [[.fl .f32 two32], [.val (.int .i64 5)], [.sb b0, .sb b1, .sb b2, .sb b3, .sb b4, .sb (rmB s c 5 0 1), .sb (rmB s c 5 1 1), .sb (rmB s c 5 2 1), .sb (rmB s c 5 3 1), .sb (rmB s c 5 4 1), .sb (rmB s c 5 0 2), .sb (rmB s c 5 1 2), .sb (rmB s c 5 2 2), .sb (rmB s c 5 3 2), .sb (rmB s c 5 4 2), .sb (rmB s c 5 0 3), .sb (rmB s c 5 1 3), .sb (rmB s c 5 2 3), .sb (rmB s c 5 3 3), .sb (rmB s c 5 4 3), .sb (rmB s c 5 0 4), .sb (rmB s c 5 1 4), .sb (rmB s c 5 2 4), .sb (rmB s c 5 3 4), .sb (rmB s c 5 4 4)]] := by
  have h' : rmAll s 5 ([(0, 1), (1, 1), (2, 1), (3, 1), (4, 1)] ++ [(0, 2), (1, 2), (2, 2), (3, 2), (4, 2), (0, 3), (1, 3), (2, 3), (3, 3), (4, 3), (0, 4), (1, 4), (2, 4), (3, 4), (4, 4)]) = true := h
  have hr := rm_round_5_1 s c b0 b1 b2 b3 b4
  rw [rmT_all s 5 [(0, 1), (1, 1), (2, 1), (3, 1), (4, 1)] _ (rmAll_app h').1] at hr
  exact goes_round (goes_of_exK w0 hw hr) (rm_from_5_2 w0 hw s c b0 b1 b2 b3 b4 (rmB s c 5 0 1) (rmB s c 5 1 1) (rmB s c 5 2 1) (rmB s c 5 3 1) (rmB s c 5 4 1) (rmAll_app h').2)
theorem rm_from_5_0 (w0 : Base) (hw : w0.s0.length ≤ 0) (s c : F32) (h : rmAll s 5 [(0, 0), (1, 0), (2, 0), (3, 0), (4, 0), (0, 1), (1, 1), (2, 1), (3, 1), (4, 1), (0, 2), (1, 2), (2, 2), (3, 2), (4, 2), (0, 3), (1, 3), (2, 3), (3, 3), (4, 3), (0, 4), (1, 4), (2, 4), (3, 4), (4, 4)] = true) : InGoes Try.prog 0 w0 (loopN 0 Try.f49) (rmFr s c 5 0 0) [[.fl .f32 two32], [.val (.int .i64 5)], []] (.exit 0) (rmFr s c 5 25 5) [[.fl .f32 two32], [.val (.int .i64 5)], [.sb (rmB s c 5 0 0), .sb (rmB s c 5 1 0), .sb (rmB s c 5 2 0), .sb (rmB s c 5 3 0), .sb (rmB s c 5 4 0), .sb (rmB s c 5 0 1), .sb (rmB s c 5 1 1), .sb (rmB s c 5 2 1), .sb (rmB s c 5 3 1), .sb (rmB s c 5 4 1), .sb (rmB s c 5 0 2), .sb (rmB s c 5 1 2), .sb (rmB s c 5 2 2), .sb (rmB s c 5 3 2), .sb (rmB s c 5 4 2), .sb (rmB s c 5 0 3), .sb (rmB s c 5 1 3), .sb (rmB s c 5 2 3), .sb (rmB s c 5 3 3), .sb (rmB s c 5 4 3), .sb (rmB s c 5 0 4), .sb (rmB s c 5 1 4), .sb (rmB s c 5 2 4), .sb (rmB s c 5 3 4), .sb (rmB s c 5 4 4)]] := by
  have h' : rmAll s 5 ([(0, 0), (1, 0), (2, 0), (3, 0), (4, 0)] ++ [(0, 1), (1, 1), (2, 1), (3, 1), (4, 1), (0, 2), (1, 2), (2, 2), (3, 2), (4, 2), (0, 3), (1, 3), (2, 3), (3, 3), (4, 3), (0, 4), (1, 4), (2, 4), (3, 4), (4, 4)]) = true := h
  have hr := rm_round_5_0 s c
  rw [rmT_all s 5 [(0, 0), (1, 0), (2, 0), (3, 0), (4, 0)] _ (rmAll_app h').1] at hr
  exact goes_round (goes_of_exK w0 hw hr) (rm_from_5_1 w0 hw s c (rmB s c 5 0 0) (rmB s c 5 1 0) (rmB s c 5 2 0) (rmB s c 5 3 0) (rmB s c 5 4 0) (rmAll_app h').2)
theorem rm_from_6_6 (w0 : Base) (hw : w0.s0.length ≤ 0) (s c : F32) (b0 b1 b2 b3 b4 b5 b6 b7 b8 b9 b10 b11 b12 b13 b14 b15 b16 b17 b18 b19 b20 b21 b22 b23 b24 b25 b26 b27 b28 b29 b30 b31 b32 b33 b34 b35 : Bool) : InGoes Try.prog 0 w0 (loopN 0 Try.f49) (rmFr s c 6 36 6) [[.fl .f32 two32], [.val (.int .i64 6)], [.sb b0, .sb b1, .sb b2, .sb b3, .sb b4, .sb b5, .sb b6, .sb b7, .sb b8, .sb b9, .sb b10, .sb b11, .sb b12, .sb b13, .sb b14, .sb b15, .sb b16, .sb b17, .sb b18, .sb b19, .sb b20, .sb b21, .sb b22, .sb b23, .sb b24, .sb b25, .sb b26, .sb b27, .sb b28, .sb b29, .sb b30, .sb b31, .sb b32, .sb b33, .sb b34, .sb b35]] (.exit 0) (rmFr s c 6 36 6) [[.fl .f32 two32], [.val (.int .i64 6)], [.sb b0, .sb b1, .sb b2, .sb b3, .sb b4, .sb b5, .sb b6, .sb b7, .sb b8, .sb b9, .sb b10, .sb b11, .sb b12, .sb b13, .sb b14, .sb b15, .sb b16, .sb b17, .sb b18, .sb b19, .sb b20, .sb b21, .sb b22, .sb b23, .sb b24, .sb b25, .sb b26, .sb b27, .sb b28, .sb b29, .sb b30, .sb b31, .sb b32, .sb b33, .sb b34, .sb b35]] :=
  goes_last (fun h => by cases h) (goes_of_exK w0 hw (rm_last_6 s c b0 b1 b2 b3 b4 b5 b6 b7 b8 b9 b10 b11 b12 b13 b14 b15 b16 b17 b18 b19 b20 b21 b22 b23 b24 b25 b26 b27 b28 b29 b30 b31 b32 b33 b34 b35))
theorem rm_from_6_5 (w0 : Base) (hw : w0.s0.length ≤ 0) (s c : F32) (b0 b1 b2 b3 b4 b5 b6 b7 b8 b9 b10 b11 b12 b13 b14 b15 b16 b17 b18 b19 b20 b21 b22 b23 b24 b25 b26 b27 b28 b29 : Bool) (h : rmAll s 6 [(0, 5), (1, 5), (2, 5), (3, 5), (4, 5), (5, 5)] = true) : InGoes Try.prog 0 w0 (loopN 0 Try.f49) (rmFr s c 6 30 5) [[.fl .f32 two32], [.val (.int .i64 6)], [.sb b0, .sb b1, .sb b2, .sb b3, .sb b4, .sb b5, .sb b6, .sb b7, .sb b8, .sb b9, .sb b10, .sb b11, .sb b12, .sb b13, .sb b14, .sb b15, .sb b16, .sb b17, .sb b18, .sb b19, .sb b20, .sb b21, .sb b22, .sb b23, .sb b24, .sb b25, .sb b26, .sb b27, .sb b28, .sb b29]] (.exit 0) (rmFr s c 6 36 6) [[.fl .f32 two32], [.val (.int .i64 6)], [.sb b0, .sb b1, .sb b2, .sb b3, .sb b4, .sb b5, .sb b6, .sb b7, .sb b8, .sb b9, .sb b10, .sb b11, .sb b12, .sb b13, .sb b14, .sb b15, .sb b16, .sb b17, .sb b18, .sb b19, .sb b20, .sb b21, .sb b22, .sb b23, .sb b24, .sb b25, .sb b26, .sb b27, .sb b28, .sb b29, .sb (rmB s c 6 0 5), .sb (rmB s c 6 1 5), .sb (rmB s c 6 2 5), .sb (rmB s c 6 3 5), .sb (rmB s c 6 4 5), .sb (rmB s c 6 5 5)]] := by
  have h' : rmAll s 6 ([(0, 5), (1, 5), (2, 5), (3, 5), (4, 5), (5, 5)] ++ []) = true := h
  have hr := rm_round_6_5 s c b0 b1 b2 b3 b4 b5 b6 b7 b8 b9 b10 b11 b12 b13 b14 b15 b16 b17 b18 b19 b20 b21 b22 b23 b24 b25 b26 b27 b28 b29
  rw [rmT_all s 6 [(0, 5), (1, 5), (2, 5), (3, 5), (4, 5), (5, 5)] _ (rmAll_app h').1] at hr
  exact goes_round (goes_of_exK w0 hw hr) (rm_from_6_6 w0 hw s c b0 b1 b2 b3 b4 b5 b6 b7 b8 b9 b10 b11 b12 b13 b14 b15 b16 b17 b18 b19 b20 b21 b22 b23 b24 b25 b26 b27 b28 b29 (rmB s c 6 0 5) (rmB s c 6 1 5) (rmB s c 6 2 5) (rmB s c 6 3 5) (rmB s c 6 4 5) (rmB s c 6 5 5))
theorem rm_from_6_4 (w0 : Base) (hw : w0.s0.length ≤ 0) (s c : F32) (b0 b1 b2 b3 b4 b5 b6 b7 b8 b9 b10 b11 b12 b13 b14 b15 b16 b17 b18 b19 b20 b21 b22 b23 : Bool) (h : rmAll s 6 [(0, 4), (1, 4), (2, 4), (3, 4), (4, 4), (5, 4), (0, 5), (1, 5), (2, 5), (3, 5), (4, 5), (5, 5)] = true) : InGoes Try.prog 0 w0 (loopN 0 Try.f49) (rmFr s c 6 24 4) [[.fl .f32 two32], [.val (.int .i64 6)], [.sb b0, .sb b1, .sb b2, .sb b3, .sb b4, .sb b5, .sb b6, .sb b7, .sb b8, .sb b9, .sb b10, .sb b11, .sb b12, .sb b13, .sb b14, .sb b15, .sb b16, .sb b17, .sb b18, .sb b19, .sb b20, .sb b21, .sb b22, .sb b23]] (.exit 0) (rmFr s c 6 36 6) [[.fl .f32 two32], [.val (.int .i64 6)], [.sb b0, .sb b1, .sb b2, .sb b3, .sb b4, .sb b5, .sb b6, .sb b7, .sb b8, .sb b9, .sb b10, .sb b11, .sb b12, .sb b13, .sb b14, .sb b15, .sb b16, .sb b17, .sb b18, .sb b19, .sb b20, .sb b21, .sb b22, .sb b23, .sb (rmB s c 6 0 4), .sb (rmB s c 6 1 4), .sb (rmB s c 6 2 4), .sb (rmB s c 6 3 4), .sb (rmB s c 6 4 4), .sb (rmB s c 6 5 4), .sb (rmB s c 6 0 5), .sb (rmB s c 6 1 5), .sb (rmB s c 6 2 5), .sb (rmB s c 6 3 5), .sb (rmB s c 6 4 5), .sb (rmB s c 6 5 5)]] := by
  have h' : rmAll s 6 ([(0, 4), (1, 4), (2, 4), (3, 4), (4, 4), (5, 4)] ++ [(0, 5), (1, 5), (2, 5), (3, 5), (4, 5), (5, 5)]) = true := h
  have hr := rm_round_6_4 s c b0 b1 b2 b3 b4 b5 b6 b7 b8 b9 b10 b11 b12 b13 b14 b15 b16 b17 b18 b19 b20 b21 b22 b23
  rw [rmT_all s 6 [(0, 4), (1, 4), (2, 4), (3, 4), (4, 4), (5, 4)] _ (rmAll_app h').1] at hr
  exact goes_round (goes_of_exK w0 hw hr) (rm_from_6_5 w0 hw s c b0 b1 b2 b3 b4 b5 b6 b7 b8 b9 b10 b11 b12 b13 b14 b15 b16 b17 b18 b19 b20 b21 b22 b23 (rmB s c 6 0 4) (rmB s c 6 1 4) (rmB s c 6 2 4) (rmB s c 6 3 4) (rmB s c 6 4 4) (rmB s c 6 5 4) (rmAll_app h').2)
theorem rm_from_6_3 (w0 : Base) (hw : w0.s0.length ≤ 0) (s c : F32) (b0 b1 b2 b3 b4 b5 b6 b7 b8 b9 b10 b11 b12 b13 b14 b15 b16 b17 : Bool) (h : rmAll s 6 [(0, 3), (1, 3), (2, 3), (3, 3), (4, 3), (5, 3), (0, 4), (1, 4), (2, 4), (3, 4), (4, 4), (5, 4), (0, 5), (1, 5), (2, 5), (3, 5), (4, 5), (5, 5)] = true) : InGoes Try.prog 0 w0 (loopN 0 Try.f49) (rmFr s c 6 18 3) [[.fl .f32 two32], [.val (.int .i64 6)], [.sb b0, .sb b1, .sb b2, .sb b3, .sb b4, .sb b5, .sb b6, .sb b7, .sb b8, .sb b9, .sb b10, .sb b11, .sb b12, .sb b13, .sb b14, .sb b15, .sb b16, .sb b17]] (.exit 0) (rmFr s c 6 36 6) [[.fl .f32 two32], [.val (.int .i64 6)], [.sb b0, .sb b1, .sb b2, .sb b3, .sb b4, .sb b5, .sb b6, .sb b7, .sb b8, .sb b9, .sb b10, .sb b11, .sb b12, .sb b13, .sb b14, .sb b15, .sb b16, .sb b17, .sb (rmB s c 6 0 3), .sb (rmB s c 6 1 3), .sb (rmB s c 6 2 3), .sb (rmB s c 6 3 3), .sb (rmB s c 6 4 3), .sb (rmB s c 6 5 3), .sb (rmB s c 6 0 4), .sb (rmB s c 6 1 4), .sb (rmB s c 6 2 4), .sb (rmB s c 6 3 4), .sb (rmB s c 6 4 4), .sb (rmB s c 6 5 4), .sb (rmB s c 6 0 5), .sb (rmB s c 6 1 5), .sb (rmB s c 6 2 5), .sb (rmB s c 6 3 5), .sb (rmB s c 6 4 5), .sb (rmB s c 6 5 5)]] := by
  have h' : rmAll s 6 ([(0, 3), (1, 3), (2, 3), (3, 3), (4, 3), (5, 3)] ++ [(0, 4), (1, 4), (2, 4), (3, 4), (4, 4), (5, 4), (0, 5), (1, 5), (2, 5), (3, 5), (4, 5), (5, 5)]) = true := h
  have hr := rm_round_6_3 s c b0 b1 b2 b3 b4 b5 b6 b7 b8 b9 b10 b11 b12 b13 b14 b15 b16 b17
  rw [rmT_all s 6 [(0, 3), (1, 3), (2, 3), (3, 3), (4, 3), (5, 3)] _ (rmAll_app h').1] at hr
  exact goes_round (goes_of_exK w0 hw hr) (rm_from_6_4 w0 hw s c b0 b1 b2 b3 b4 b5 b6 b7 b8 b9 b10 b11 b12 b13 b14 b15 b16 b17 (rmB s c 6 0 3) (rmB s c 6 1 3) (rmB s c 6 2 3) (rmB s c 6 3 3) (rmB s c 6 4 3) (rmB s c 6 5 3) (rmAll_app h').2)
theorem rm_from_6_2 (w0 : Base) (hw : w0.s0.length ≤ 0) (s c : F32) (b0 b1 b2 b3 b4 b5 b6 b7 b8 b9 b10 b11 : Bool) (h : rmAll s 6 [(0, 2), (1, 2), (2, 2), (3, 2), (4, 2), (5, 2), (0, 3), (1, 3), (2, 3), (3, 3), (4, 3), (5, 3), (0, 4), (1, 4), (2, 4), (3, 4), (4, 4), (5, 4), (0, 5), (1, 5), (2, 5), (3, 5), (4, 5), (5, 5)] = true) : InGoes Try.prog 0 w0 (loopN 0 Try.f49) (rmFr s c 6 12 2) [[.fl .f32 two32], [.val (.int .i64 6)], [.sb b0, .sb b1, .sb b2, .sb b3, .sb b4, .sb b5, .sb b6, .sb b7, .sb b8, .sb b9, .sb b10, .sb b11]] (.exit 0) (rmFr s c 6 36 6) [[.fl .f32 two32], [.val (.int .i64 6)], [.sb b0, .sb b1, .sb b2, .sb b3, .sb b4, .sb b5, .sb b6, .sb b7, .sb b8, .sb b9, .sb b10, .sb b11, .sb (rmB s c 6 0 2), .sb (rmB s c 6 1 2), .sb (rmB s c 6 2 2), .sb (rmB s c 6 3 2), .sb (rmB s c 6 4 2), .sb (rmB s c 6 5 2), .sb (rmB s c 6 0 3), .sb (rmB s c 6 1 3), .sb (rmB s c 6 2 3), .sb (rmB s c 6 3 3), .sb (rmB s c 6 4 3), .sb (rmB s c 6 5 3), .sb (rmB s c 6 0 4), .sb (rmB s c 6 1 4), .sb (rmB s c 6 2 4), .sb (rmB s c 6 3 4), .sb (rmB s c 6 4 4), .sb (rmB s c 6 5 4), .sb (rmB s c 6 0 5), .sb (rmB s c 6 1 5), .sb (rmB s c 6 2 5), .sb (rmB s c 6 3 5), .sb (rmB s c 6 4 5), .sb (rmB s c 6 5 5)]] := by
  have h' : rmAll s 6 ([(0, 2), (1, 2), (2, 2), (3, 2), (4, 2), (5, 2)] ++ [(0, 3), (1, 3), (2, 3), (3, 3), (4, 3), (5, 3), (0, 4), (1, 4), (2, 4), (3, 4), (4, 4), (5, 4), (0, 5), (1, 5), (2, 5), (3, 5), (4, 5), (5, 5)]) = true := h
  have hr := rm_round_6_2 s c b0 b1 b2 b3 b4 b5 b6 b7 b8 b9 b10 b11
  rw [rmT_all s 6 [(0, 2), (1, 2), (2, 2), (3, 2), (4, 2), (5, 2)] _ (rmAll_app h').1] at hr
  exact goes_round (goes_of_exK w0 hw hr) (rm_from_6_3 w0 hw s c b0 b1 b2 b3 b4 b5 b6 b7 b8 b9 b10 b11 (rmB s c 6 0 2) (rmB s c 6 1 2) (rmB s c 6 2 2) (rmB s c 6 3 2) (rmB s c 6 4 2) (rmB s c 6 5 2) (rmAll_app h').2)
theorem rm_from_6_1 (w0 : Base) (hw : w0.s0.length ≤ 0) (s c : F32) (b0 b1 b2 b3 b4 b5 : Bool) (h : rmAll s 6 [(0, 1), (1, 1), (2, 1), (3, 1), (4, 1), (5, 1), (0, 2), (1, 2), (2, 2), (3, 2), (4, 2), (5, 2), (0, 3), (1, 3), (2, 3), (3, 3), (4, 3), (5, 3), (0, 4), (1, 4), (2, 4), (3, 4), (4, 4), (5, 4), (0, 5), (1, 5), (2, 5), (3, 5), (4, 5), (5, 5)] = true) : InGoes Try.prog 0 w0 (loopN 0 Try.f49) (rmFr s c 6 6 1) [[.fl .f32 two32], [.val (.int .i64 6)], [.sb b0, .sb b1, .sb b2, .sb b3, .sb b4, .sb b5]] (.exit 0) (rmFr s c 6 36 6) [[.fl .f32 two32], [.val (.int .i64 6)], [.sb b0, .sb b1, .sb b2, .sb b3, .sb b4, .sb b5, .sb (rmB s c 6 0 1), .sb (rmB s c 6 1 1), .sb (rmB s c 6 2 1), .sb (rmB s c 6 3 1), .sb (rmB s c 6 4 1), .sb (rmB s c 6 5 1), .sb (rmB s c 6 0 2), .sb (rmB s c 6 1 2), .sb (rmB s c 6 2 2), .sb (rmB s c 6 3 2), .sb (rmB s c 6 4 2), .sb (rmB s c 6 5 2), .sb (rmB s c 6 0 3), .sb (rmB s c 6 1 3), .sb (rmB s c 6 2 3), .sb (rmB s c 6 3 3), .sb (rmB s c 6 4 3), .sb (rmB s c 6 5 3), .sb (rmB s c 6 0 4), .sb (rmB s c 6 1 4), .sb (rmB s c 6 2 4), .sb (rmB s c 6 3 4), .sb (rmB s c 6 4 4), .sb (rmB s c 6 5 4), .sb (rmB s c 6 0 5), .sb (rmB s c 6 1 5), .sb (rmB s c 6 2 5), .sb (rmB s c 6 3 5), .sb (rmB s c 6 4 5), .sb (rmB s c 6 5 5)]] := by
  have h' : rmAll s 6 ([(0, 1), (1, 1), (2, 1), (3, 1), (4, 1), (5, 1)] ++ [(0, 2), (1, 2), (2, 2), (3, 2), (4, 2), (5, 2), (0, 3), (1, 3), (2, 3), (3, 3), (4, 3), (5, 3), (0, 4), (1, 4), (2, 4), (3, 4), (4, 4), (5, 4), (0, 5), (1, 5), (2, 5), (3, 5), (4, 5), (5, 5)]) = true := h
  have hr := rm_round_6_1 s c b0 b1 b2 b3 b4 b5
  rw [rmT_all s 6 [(0, 1), (1, 1), (2, 1), (3, 1), (4, 1), (5, 1)] _ (rmAll_app h').1] at hr
  exact goes_round (goes_of_exK w0 hw hr) (rm_from_6_2 w0 hw s c b0 b1 b2 b3 b4 b5 (rmB s c 6 0 1) (rmB s c 6 1 1) (rmB s c 6 2 1) (rmB s c 6 3 1) (rmB s c 6 4 1) (rmB s c 6 5 1) (rmAll_app h').2)
theorem rm_from_6_0 (w0 : Base) (hw : w0.s0.length ≤ 0) (s c : F32) (h : rmAll s 6 [(0, 0), (1, 0), (2, 0), (3, 0), (4, 0), (5, 0), (0, 1), (1, 1), (2, 1), (3, 1), (4, 1), (5, 1), (0, 2), (1, 2), (2, 2), (3, 2), (4, 2), (5, 2), (0, 3), (1, 3), (2, 3), (3, 3), (4, 3), (5, 3), (0, 4), (1, 4), (2, 4), (3, 4), (4, 4), (5, 4), (0, 5), (1, 5), (2, 5), (3, 5), (4, 5), (5, 5)] = true) : InGoes Try.prog 0 w0 (loopN 0 Try.f49) (rmFr s c 6 0 0) [[.fl .f32 two32], [.val (.int .i64 6)], []] (.exit 0) (rmFr s c 6 36 6) [[.fl .f32 two32], [.val (.int .i64 6)], [.sb (rmB s c 6 0 0), .sb (rmB s c 6 1 0), .sb (rmB s c 6 2 0), .sb (rmB s c 6 3 0), .sb (rmB s c 6 4 0), .sb (rmB s c 6 5 0), .sb (rmB s c 6 0 1), .sb (rmB s c 6 1 1), .sb (rmB s c 6 2 1), .sb (rmB s c 6 3 1), .sb (rmB s c 6 4 1), .sb (rmB s c 6 5 1), .sb (rmB s c 6 0 2), .sb (rmB s c 6 1 2), .sb (rmB s c 6 2 2), .sb (rmB s c 6 3 2), .sb (rmB s c 6 4 2), .sb (rmB s c 6 5 2), .sb (rmB s c 6 0 3), .sb (rmB s c 6 1 3), .sb (rmB s c 6 2 3), .sb (rmB s c 6 3 3), .sb (rmB s c 6 4 3), .sb (rmB s c 6 5 3), .sb (rmB s c 6 0 4), .sb (rmB s c 6 1 4), .sb (rmB s c 6 2 4), .sb (rmB s c 6 3 4), .sb (rmB s c 6 4 4), .sb (rmB s c 6 5 4), .sb (rmB s c 6 0 5), .sb (rmB s c 6 1 5), .sb (rmB s c 6 2 5), .sb (rmB s c 6 3 5), .sb (rmB s c 6 4 5), .sb (rmB s c 6 5 5)]] := by
  have h' : rmAll s 6 ([(0, 0), (1, 0), (2, 0), (3, 0), (4, 0), (5, 0)] ++ [(0, 1), (1, 1), (2, 1), (3, 1), (4, 1), (5, 1), (0, 2), (1, 2), (2, 2), (3, 2), (4, 2), (5, 2), (0, 3), (1, 3), (2, 3), (3, 3), (4, 3), (5, 3), (0, 4), (1, 4), (2, 4), (3, 4), (4, 4), (5, 4), (0, 5), (1, 5), (2, 5), (3, 5), (4, 5), (5, 5)]) = true := h
  have hr := rm_round_6_0 s c
  rw [rmT_all s 6 [(0, 0), (1, 0), (2, 0), (3, 0), (4, 0), (5, 0)] _ (rmAll_app h').1] at hr
  exact goes_round (goes_of_exK w0 hw hr) (rm_from_6_1 w0 hw s c (rmB s c 6 0 0) (rmB s c 6 1 0) (rmB s c 6 2 0) (rmB s c 6 3 0) (rmB s c 6 4 0) (rmB s c 6 5 0) (rmAll_app h').2)
def rmLp : LoopRule
  | 0, .c (.fl .f32 s) :: .c (.fl .f32 c) :: _ :: _ :: _ :: _ :: .c (.ptr 0 0) :: .c (.ptr 1 0) :: _ :: _ :: .c (.clo 103 0 1) :: .c (.slc 2 k) :: _ :: _ :: _ :: _ :: _ :: _ :: _ :: _ :: _ :: _ :: _ :: _ :: _ :: _ :: _ :: _ :: _ :: _ :: _ :: _ :: _ :: _ :: _ :: _ :: .c (.val (.int .i64 m)) :: .c (.val (.int .i64 y)) :: F, [[.fl .f32 (some 1073741824)], [.val (.int .i64 (.ofNat n))], []] =>
    some (decide (F.length = 31) && (decide (k = 0 ∧ m = n ∧ y = 0 ∧ 1 ≤ n ∧ n ≤ 6) && rmAll s n (rmPairs n)), .exit 0, rmFr s c n (n * n) n, [[.fl .f32 two32], [.val (.int .i64 n)], rmCells s c n])
  | _, _, _ => none
theorem rm_weaken (s c : F32) (n : Int) (k : Nat) (y : Int) (a0 a1 a2 a3 e0 e1 b0 b1 b2 b3 b4 b5 b6 b7 b8 b9 b10 b11 b12 b13 b14 b15 b16 b17 b18 b19 b20 b21 b22 b23 : AV) (F : List AV) (h : F.length = 31) :
    weaken rmMk (.c (.fl .f32 s) :: .c (.fl .f32 c) :: a0 :: a1 :: a2 :: a3 :: .c (.ptr 0 0) :: .c (.ptr 1 0) :: e0 :: e1 :: .c (.clo 103 0 1) :: .c (.slc 2 k) :: b0 :: b1 :: b2 :: b3 :: b4 :: b5 :: b6 :: b7 :: b8 :: b9 :: b10 :: b11 :: b12 :: b13 :: b14 :: b15 :: b16 :: b17 :: b18 :: b19 :: b20 :: b21 :: b22 :: b23 :: .c (.val (.int .i64 n)) :: .c (.val (.int .i64 y)) :: F) = rmFr s c n k y := by
  have e : weaken rmMk (.c (.fl .f32 s) :: .c (.fl .f32 c) :: a0 :: a1 :: a2 :: a3 :: .c (.ptr 0 0) :: .c (.ptr 1 0) :: e0 :: e1 :: .c (.clo 103 0 1) :: .c (.slc 2 k) :: b0 :: b1 :: b2 :: b3 :: b4 :: b5 :: b6 :: b7 :: b8 :: b9 :: b10 :: b11 :: b12 :: b13 :: b14 :: b15 :: b16 :: b17 :: b18 :: b19 :: b20 :: b21 :: b22 :: b23 :: .c (.val (.int .i64 n)) :: .c (.val (.int .i64 y)) :: F) =
    ([.c (.fl .f32 s), .c (.fl .f32 c)] ++ List.replicate 4 (.c .any) ++ [.c (.ptr 0 0), .c (.ptr 1 0), .c .any, .c .any, .c (.clo 103 0 1), .c (.slc 2 k)] ++ List.replicate 24 (.c .any) ++ [.c (.val (.int .i64 n)), .c (.val (.int .i64 y))] : List AV) ++ weaken (List.replicate 31 false) F := by kernel_rfl
  rw [e, weaken_any 31 F h]; rfl
theorem rm_loops : LoopsOk Try.prog 0 anyW rmLp 0 (Try.f49.body.getD .skip) := by
  intro j x hx F M o F' M' hl w0 _ hw
  have hX : (loopsAll (Try.f49.body.getD .skip))[0]? = some (loopN 0 Try.f49) := by kernel_rfl
  rw [Nat.zero_add] at hl
  unfold rmLp at hl
  split at hl
  · rename_i s c a0 a1 a2 a3 e0 e1 k b0 b1 b2 b3 b4 b5 b6 b7 b8 b9 b10 b11 b12 b13 b14 b15 b16 b17 b18 b19 b20 b21 b22 b23 m y F n
    simp only [Option.some.injEq, Prod.mk.injEq, Bool.and_eq_true, decide_eq_true_eq] at hl
    obtain ⟨⟨hF, ⟨rfl, rfl, rfl, h1, h6⟩, hq⟩, rfl, rfl, rfl⟩ := hl
    rw [hX] at hx
    cases hx
    refine InGoes.weaken rmMk ?_
    rw [rm_weaken _ _ _ _ _ _ _ _ _ _ _ _ _ _ _ _ _ _ _ _ _ _ _ _ _ _ _ _ _ _ _ _ _ _ _ F hF]
    have h' : n = 1 ∨ n = 2 ∨ n = 3 ∨ n = 4 ∨ n = 5 ∨ n = 6 := by omega
    rcases h' with rfl | rfl | rfl | rfl | rfl | rfl
    · exact rm_from_1_0 w0 hw s c hq
    · exact rm_from_2_0 w0 hw s c hq
    · exact rm_from_3_0 w0 hw s c hq
    · exact rm_from_4_0 w0 hw s c hq
    · exact rm_from_5_0 w0 hw s c hq
    · exact rm_from_6_0 w0 hw s c hq
  · cases hl
theorem rm_far : ∀ j, farOff ≤ j → ∀ F M, rmLp j F M = none := by
  intro j hj F M
  unfold rmLp
  split
  · exact absurd hj (by decide)
  · rfl
def rmArgs (s c : F32) (n : Int) : List AV := [.c (.fl .f32 s), .c (.fl .f32 c), .c (.fl .f32 two32), .c (.val (.int .i64 n))]
theorem reach_raw1 (s c : F32) : runW Try.prog [eIsShare, eIsFinite, eALength, ePotT] [81] [] rmLp Try.f49 (rmArgs s c 1) =
    bif !(isShare s) then none else bif !(isFinite c) then none else bif rmAll s 1 (rmPairs 1) then some (1, rmCells s c 1) else none := by kernel_rfl
theorem reach_raw2 (s c : F32) : runW Try.prog [eIsShare, eIsFinite, eALength, ePotT] [81] [] rmLp Try.f49 (rmArgs s c 2) =
    bif !(isShare s) then none else bif !(isFinite c) then none else bif rmAll s 2 (rmPairs 2) then some (4, rmCells s c 2) else none := by kernel_rfl
theorem reach_raw3 (s c : F32) : runW Try.prog [eIsShare, eIsFinite, eALength, ePotT] [81] [] rmLp Try.f49 (rmArgs s c 3) =
    bif !(isShare s) then none else bif !(isFinite c) then none else bif rmAll s 3 (rmPairs 3) then some (9, rmCells s c 3) else none := by kernel_rfl
theorem reach_raw4 (s c : F32) : runW Try.prog [eIsShare, eIsFinite, eALength, ePotT] [81] [] rmLp Try.f49 (rmArgs s c 4) =
    bif !(isShare s) then none else bif !(isFinite c) then none else bif rmAll s 4 (rmPairs 4) then some (16, rmCells s c 4) else none := by kernel_rfl
theorem reach_raw5 (s c : F32) : runW Try.prog [eIsShare, eIsFinite, eALength, ePotT] [81] [] rmLp Try.f49 (rmArgs s c 5) =
    bif !(isShare s) then none else bif !(isFinite c) then none else bif rmAll s 5 (rmPairs 5) then some (25, rmCells s c 5) else none := by kernel_rfl
theorem reach_raw6 (s c : F32) : runW Try.prog [eIsShare, eIsFinite, eALength, ePotT] [81] [] rmLp Try.f49 (rmArgs s c 6) =
    bif !(isShare s) then none else bif !(isFinite c) then none else bif rmAll s 6 (rmPairs 6) then some (36, rmCells s c 6) else none := by kernel_rfl
theorem reach_raw (s c : F32) {n : Nat} (h1 : 1 ≤ n) (h6 : n ≤ 6) : runW Try.prog [eIsShare, eIsFinite, eALength, ePotT] [81] [] rmLp Try.f49 (rmArgs s c n) =
    bif !(isShare s) then none else bif !(isFinite c) then none else bif rmAll s n (rmPairs n) then some (n * n, rmCells s c n) else none := by
  have h' : n = 1 ∨ n = 2 ∨ n = 3 ∨ n = 4 ∨ n = 5 ∨ n = 6 := by omega
  rcases h' with rfl | rfl | rfl | rfl | rfl | rfl
  · exact reach_raw1 s c
  · exact reach_raw2 s c
  · exact reach_raw3 s c
  · exact reach_raw4 s c
  · exact reach_raw5 s c
  · exact reach_raw6 s c
theorem rmCells_length (s c : F32) {n : Nat} (h1 : 1 ≤ n) (h6 : n ≤ 6) : (rmCells s c n).length = n * n := by
  have h' : n = 1 ∨ n = 2 ∨ n = 3 ∨ n = 4 ∨ n = 5 ∨ n = 6 := by omega
  rcases h' with rfl | rfl | rfl | rfl | rfl | rfl <;> rfl
def rmQ (s : F32) (n : Nat) : Bool := rmAll s n (rmPairs n)
theorem reach_run (s c : F32) {n : Nat} (h1 : 1 ≤ n) (h6 : n ≤ 6) (hs : isShare s = true) (hc : finS c = true) (hq : rmQ s n = true) : runW Try.prog [eIsShare, eIsFinite, eALength, ePotT] [81] [] rmLp Try.f49 (rmArgs s c n) = some (n * n, rmCells s c n) := by
  unfold rmQ at hq
  rw [reach_raw s c h1 h6, hs, fin_isFinite, hc, hq]; rfl
def rmFn : List AV → Option (Bool × Bool × List AC)
  | [.c (.fl .f32 s), .c (.fl .f32 c), .c (.fl .f32 (some 1073741824)), .c (.val (.int .i64 (.ofNat n)))] => some (decide (1 ≤ n) && (decide (n ≤ 6) && (isShare s && (finS c && rmQ s n))), true, rmCells s c n)
  | _ => none
theorem reach_ok : ∀ args b cells, rmFn args = some (true, b, cells) → ∀ vs w, RepF [] args vs → args.all plainA = true → Calls Try.prog 49 vs.toArray w fun e w' => Ext w w' ∧
    (match b with
    | true => ∃ (blk cap : Nat) (us : Array Value) (t : TypeId), e = .returned (.tuple #[.slice (some ⟨blk, 0, none⟩) cells.length cap, .bool true]) ∧ w.heap.size ≤ blk ∧ w'.heap[blk]? = some (.cells us t (0, 0)) ∧ RepP [] cells us.toList ∧ cap ≤ us.size ∧ cells.length ≤ cap
    | false => e = .returned (.tuple #[.slice none 0 0, .bool false])) := by
  intro args b cells h vs w ha hpl
  clear hpl
  unfold rmFn at h
  split at h
  · rename_i s c n
    simp only [Option.some.injEq, Prod.mk.injEq, Bool.and_eq_true, decide_eq_true_eq] at h
    obtain ⟨⟨h1, h2, h3, h4, h5⟩, rfl, rfl⟩ := h
    rw [rmCells_length s c h1 h2]
    exact runW_sound Try.func49 rm_far rm_loops (reach_run s c h1 h2 h3 h4 h5) ha
  · cases h
def eReach : EntryN Try.prog := { f := 49, fn := rmFn, enter := fun _ _ => enter_of Try.func49 (by kernel_rfl) (c := Try.f49.body.getD .skip) (by kernel_rfl), ok := reach_ok }
end Go.Proofs.Ytlpahmefebgdlaa.Fx
/- A function's run in four parts: each begins with a frame and a memory that forget. No condition. -/
namespace Go.Proofs.Ytlpahmefebgdlaa.Fx
open Go Go.RowKit

variable {R : Type}

/-- A code's run up to a region; there T goes on, with what is kept of the frame and the memory. -/
def exU (P : Program) (E : List (Entry P)) (I : List FuncId) (N : List (EntryN P)) {G : World → Prop} (X : List (EntryW P G)) (lp : LoopRule) (k : Nat) (m : List Bool) (kk : Nat) (T : List AV → List (List AC) → Option R) (K : Out → List AV → List (List AC) → Option R) : Nat → Nat → Code → List AV → List (List AC) → Option R
  | 0, _, _, _, _ => none
  | n + 1, i, c, F, M => cond (beginsAt k c) (cond ((weaken m F).all (belowA kk) && (M.take kk).all (fun l => l.all plainC)) (T (weaken m F) (M.take kk)) none)
    (match c with
    | .seq x y => exK P E I N X 0 lp [] 4000 i 0 x F M fun o F M =>
      match o with
      | .norm => exU P E I N X lp k m kk T K n (i + loopCount x) y F M
      | .exit id => K (.exit id) F M
      | .ret => K .ret F M
    | _ => none)
theorem exU_sound {P : Program} {E : List (Entry P)} {I : List FuncId} {N : List (EntryN P)} {G : World → Prop} {X : List (EntryW P G)} {lp : LoopRule} (hfar : ∀ j, farOff ≤ j → ∀ F M, lp j F M = none) (hmono : ∀ w w', G w → Ext w w' → G w')
    {k : Nat} {m : List Bool} {kk : Nat} {T : List AV → List (List AC) → Option R} {K : Out → List AV → List (List AC) → Option R} : ∀ (n i : Nat) (c : Code) (F : List AV) (M : List (List AC)) (r : R), LoopsOk P 0 G lp i c →
    (∀ j t, behindAt k n i c = some (j, t) → ∀ F M r, T F M = some r → ∃ o F' M', K o F' M' = some r ∧ ∀ w0 : Base, G w0.toWorld → w0.s0.length ≤ 0 → CodeGoes P 0 w0 t F M o F' M') →
    exU P E I N X lp k m kk T K n i c F M = some r → ∃ o F' M', K o F' M' = some r ∧ ∀ w0 : Base, G w0.toWorld → w0.s0.length ≤ 0 → CodeGoes P 0 w0 c F M o F' M'
  | 0, _, _, _, _, _, _, _, h => by cases h
  | n + 1, i, c, F, M, r, hl, hT, h => by
    unfold exU at h
    cases hb : beginsAt k c with
    | true =>
      rw [hb] at h
      simp only [cond_true] at h
      cases hp : ((weaken m F).all (belowA kk) && (M.take kk).all (fun l => l.all plainC)) with
      | false => rw [hp] at h; cases h
      | true =>
        rw [hp] at h
        simp only [cond_true] at h
        rw [Bool.and_eq_true] at hp
        obtain ⟨o, F', M', hK, hg⟩ := hT i c (by unfold behindAt; rw [hb]; rfl) _ _ _ h
        refine ⟨o, F', M', hK, fun w0 hG hk σ a w hS Q hQ => ?_⟩
        exact hg w0 hG hk _ a w ((hS.weaken m).take kk hp.1 hp.2 (by omega)) Q hQ
    | false =>
      rw [hb] at h
      simp only [cond_false] at h
      cases c with
      | seq x y =>
        simp only at h
        obtain ⟨o, F1, M1, hK1, hx⟩ := (exK_sound hfar hmono 4000).1 i 0 x F M _ r (hl.left rfl) (drawOk_nil i x) h
        cases o with
        | norm =>
          obtain ⟨o, F', M', hK, hy⟩ := exU_sound hfar hmono n (i + loopCount x) y F1 M1 r (hl.right rfl) (fun j t hj => hT j t (by unfold behindAt; rw [hb]; exact hj)) hK1
          exact ⟨o, F', M', hK, fun w0 hG hk σ a w hS Q hQ => wp_seq (hx w0 hG hk σ a w hS _ fun σ' a' w' hs => hy w0 hG hk σ' a' w' hs Q hQ)⟩
        | exit id => exact ⟨.exit id, F1, M1, hK1, fun w0 hG hk σ a w hS Q hQ => wp_seq (hx w0 hG hk σ a w hS _ fun σ' a' w' hs => hQ σ' a' w' hs)⟩
        | ret => exact ⟨.ret, F1, M1, hK1, fun w0 hG hk σ a w hS Q hQ => wp_seq (hx w0 hG hk σ a w hS _ fun σ' a' w' hs => hQ σ' a' w' hs)⟩
      | _ => cases h
/-- The first part of a function's run. -/
def runU1 (P : Program) (E : List (Entry P)) (I : List FuncId) (N : List (EntryN P)) {G : World → Prop} (X : List (EntryW P G)) (lp : LoopRule) (k : Nat) (m : List Bool) (kk : Nat) (fn : Func) (args : List AV) (T : List AV → List (List AC) → Option AV) : Option AV :=
  exU P E I N X lp k m kk T (answerA P fn) 400 0 (fn.body.getD .skip) (args ++ List.replicate (fn.ntmps - args.length) undefA) []
/-- The second part: from region k1 to region k2. -/
def runU2 (P : Program) (E : List (Entry P)) (I : List FuncId) (N : List (EntryN P)) {G : World → Prop} (X : List (EntryW P G)) (lp : LoopRule) (k1 k2 : Nat) (m : List Bool) (kk : Nat) (fn : Func) (T : List AV → List (List AC) → Option AV) (F : List AV) (M : List (List AC)) : Option AV :=
  match behindAt k1 400 0 (fn.body.getD .skip) with
  | some (j, t) => exU P E I N X lp k2 m kk T (answerA P fn) 400 j t F M
  | none => none
/-- The third part: from region k2 to region k3. -/
def runU3 (P : Program) (E : List (Entry P)) (I : List FuncId) (N : List (EntryN P)) {G : World → Prop} (X : List (EntryW P G)) (lp : LoopRule) (k1 k2 k3 : Nat) (m : List Bool) (kk : Nat) (fn : Func) (T : List AV → List (List AC) → Option AV) (F : List AV) (M : List (List AC)) : Option AV :=
  match behindAt k1 400 0 (fn.body.getD .skip) with
  | some (j, t) => match behindAt k2 400 j t with
    | some (j2, t2) => exU P E I N X lp k3 m kk T (answerA P fn) 400 j2 t2 F M
    | none => none
  | none => none
/-- The fourth part: from region k3 on. -/
def runU4 (P : Program) (E : List (Entry P)) (I : List FuncId) (N : List (EntryN P)) {G : World → Prop} (X : List (EntryW P G)) (lp : LoopRule) (k1 k2 k3 : Nat) (fn : Func) (F : List AV) (M : List (List AC)) : Option AV :=
  match behindAt k1 400 0 (fn.body.getD .skip) with
  | some (j, t) => match behindAt k2 400 j t with
    | some (j2, t2) => match behindAt k3 400 j2 t2 with
      | some (j3, t3) => exK P E I N X 0 lp [] 4000 j3 0 t3 F M (answerA P fn)
      | none => none
    | none => none
  | none => none
theorem run4_sound {P : Program} {E E2 E3 E4 : List (Entry P)} {I I2 I3 I4 : List FuncId} {N N2 N3 N4 : List (EntryN P)} {G : World → Prop} {X X2 X3 X4 : List (EntryW P G)} {lp lp4 : LoopRule} {k1 k2 k3 : Nat} {m1 m2 m3 : List Bool} {c1 c2 c3 : Nat} {f : FuncId} {fn : Func} (hf : P.funcs[f]? = some fn) (hb : fn.body = some (fn.body.getD .skip)) {args : List AV} {r : AV} (hp : args.all plainA = true)
    (hfar : ∀ j, farOff ≤ j → ∀ F M, lp j F M = none) (hl : LoopsOk P 0 G lp 0 (fn.body.getD .skip)) (hfar4 : ∀ j, farOff ≤ j → ∀ F M, lp4 j F M = none) (hl4 : LoopsOk P 0 G lp4 0 (fn.body.getD .skip)) (hmono : ∀ w w', G w → Ext w w' → G w')
    (h : runU1 P E I N X lp k1 m1 c1 fn args (runU2 P E2 I2 N2 X2 lp k1 k2 m2 c2 fn (runU3 P E3 I3 N3 X3 lp k1 k2 k3 m3 c3 fn (runU4 P E4 I4 N4 X4 lp4 k1 k2 k3 fn))) = some r) {σ : List (Nat × Nat)} {vs : List Value} {w : World} (hG : G w) (ha : RepF σ args vs) :
    Calls P f vs.toArray w fun e w' => ∃ v, e = .returned v ∧ Rep σ r v ∧ Ext w w' := by
  unfold runU1 at h
  obtain ⟨o, F', M', hK, hg⟩ := exU_sound hfar hmono 400 0 _ _ [] r hl (fun j t hj F M r hT => by
    unfold runU2 at hT
    rw [hj] at hT
    obtain ⟨h1, -⟩ := behind_ok (D := []) 400 0 _ j t hj hl (drawOk_nil 0 _)
    exact exU_sound hfar hmono 400 j t F M r h1 (fun j2 t2 hj2 F M r hT => by
      unfold runU3 at hT
      rw [hj] at hT
      simp only at hT
      rw [hj2] at hT
      obtain ⟨h2, -⟩ := behind_ok (D := []) 400 j t j2 t2 hj2 h1 (drawOk_nil j t)
      exact exU_sound hfar hmono 400 j2 t2 F M r h2 (fun j3 t3 hj3 F M r hT => by
        unfold runU4 at hT
        rw [hj] at hT
        simp only at hT
        rw [hj2] at hT
        simp only at hT
        rw [hj3] at hT
        obtain ⟨g1, -⟩ := behind_ok (D := []) 400 0 _ j t hj hl4 (drawOk_nil 0 _)
        obtain ⟨g2, -⟩ := behind_ok (D := []) 400 j t j2 t2 hj2 g1 (drawOk_nil j t)
        obtain ⟨g3, -⟩ := behind_ok (D := []) 400 j2 t2 j3 t3 hj3 g2 (drawOk_nil j2 t2)
        exact (exK_sound hfar4 hmono 4000).1 j3 0 t3 F M _ r g3 (drawOk_nil j3 t3) hT) hT) hT) h
  exact calls_of_goesG hf hb hK (hg ⟨w, []⟩ hG (Nat.le_refl _)) hp ha
end Go.Proofs.Ytlpahmefebgdlaa.Fx
/- Slices of bytes that came in: what the laws read of them. No condition. -/
namespace Go.Proofs.Ytlpahmefebgdlaa.Fx
open Go Go.RowKit

/-- A value is a slice with these bytes. -/
def BytesAt (W : World) (v : Value) (l : List Int) : Prop :=
  (∃ a cap, v = .slice a 0 cap ∧ l = []) ∨
  ∃ b off cap, v = .slice (some ⟨b, off, none⟩) l.length cap ∧ l.length ≤ 9223372036854775807 ∧ ∀ j, j < l.length → W.cell? ⟨b, off + j, none⟩ = some (.int .u8 (l.getD j 0)) ∧ 0 ≤ l.getD j 0 ∧ l.getD j 0 < 256

theorem Ext.cell {W w : World} (h : Ext W w) {a : Addr} {v : Value} (ha : W.cell? a = some v) : w.cell? a = some v := by
  have hb := World.block_lt_of_cell? W a ha
  unfold World.cell? at ha ⊢
  rw [h.block a.block hb]; exact ha

theorem BytesAt.ext {W w : World} (hw : Ext W w) {v : Value} {l : List Int} (h : BytesAt W v l) : BytesAt w v l := by
  rcases h with h | ⟨b, off, cap, rfl, hl, hc⟩
  · exact .inl h
  · exact .inr ⟨b, off, cap, rfl, hl, fun j hj => ⟨hw.cell (hc j hj).1, (hc j hj).2⟩⟩

theorem BytesAt.range {W : World} {v : Value} {l : List Int} (h : BytesAt W v l) (j : Nat) : 0 ≤ l.getD j 0 ∧ l.getD j 0 < 256 := by
  by_cases hj : j < l.length
  · rcases h with ⟨_, _, _, rfl⟩ | ⟨b, off, cap, _, _, hc⟩
    · cases hj
    · exact (hc j hj).2
  · have : l.getD j 0 = 0 := by simp [List.getD, List.getElem?_eq_none (Nat.le_of_not_lt hj)]
    rw [this]; decide

/-- Which slices those are, and their bytes. -/
noncomputable def good (W : World) (v : Value) : Bool := @decide (∃ l, BytesAt W v l) (Classical.propDecidable _)
noncomputable def bytesOf (W : World) (v : Value) : List Int := Classical.epsilon fun l => BytesAt W v l
theorem good_of {W : World} {v : Value} {l : List Int} (h : BytesAt W v l) : good W v = true := by
  unfold good; exact @decide_eq_true _ (Classical.propDecidable _) ⟨l, h⟩
theorem of_good {W : World} {v : Value} (h : good W v = true) : BytesAt W v (bytesOf W v) :=
  Classical.epsilon_spec (@of_decide_eq_true _ (Classical.propDecidable _) h)

/-- What r8At reads. -/
def r8v (l : List Int) (k n : Int) : Int := if n ≤ 1 then 0 else if (l.length : Int) ≤ k then 0 else l.getD k.toNat 0 % n
/-- What b10At reads. -/
def b10v (l : List Int) (k n : Int) : Int := if n ≤ 1 then 0 else if k < (l.length : Int) then l.getD k.toNat 0 % n else (k * 37 + 11) % n

theorem r8v_range (l : List Int) (k : Int) {n : Int} (hn : 0 < n) : 0 ≤ r8v l k n ∧ r8v l k n < n := by
  unfold r8v
  split
  · omega
  · split
    · omega
    · exact ⟨Int.emod_nonneg _ (by omega), Int.emod_lt_of_pos _ hn⟩
theorem b10v_range (l : List Int) (k : Int) {n : Int} (hn : 0 < n) : 0 ≤ b10v l k n ∧ b10v l k n < n := by
  unfold b10v
  split
  · omega
  · split
    · exact ⟨Int.emod_nonneg _ (by omega), Int.emod_lt_of_pos _ hn⟩
    · exact ⟨Int.emod_nonneg _ (by omega), Int.emod_lt_of_pos _ hn⟩

theorem wrap_byte {z : Int} (h0 : 0 ≤ z) (h1 : z < 256) : IntKind.i64.wrap z = z := Go.IntWalk.i64_in _ (by omega)
theorem tmod_byte {z n : Int} (h0 : 0 ≤ z) : z.tmod n = z % n := Int.tmod_eq_emod_of_nonneg h0

theorem r8At_some (b off cap : Nat) (l : List Int) (k : Nat) (n : Int) (w : World) (hn : 1 < n) (hk : k < l.length)
    (hc : w.cell? ⟨b, off + k, none⟩ = some (.int .u8 (l.getD k 0))) (h0 : 0 ≤ l.getD k 0) (h1 : l.getD k 0 < 256) :
    Calls Try.prog 10 #[.slice (some ⟨b, off, none⟩) l.length cap, .int .i64 k, .int .i64 n] w fun e w' => e = .returned (.int .i64 (l.getD k 0 % n)) ∧ w' = w := by
  obtain ⟨z, hz⟩ : ∃ z, l.getD k 0 = z := ⟨_, rfl⟩
  rw [hz] at hc h0 h1 ⊢
  obtain ⟨m, hm⟩ : ∃ m, l.length = m := ⟨_, rfl⟩
  rw [hm] at hk ⊢
  clear hz hm
  have hr : (IntKind.i64.wrap z).tmod n = z % n := by rw [wrap_byte h0 h1, tmod_byte h0]
  have hr' : z.tmod n = z % n := tmod_byte h0
  have H := Lib.hid hr
  have H' := Lib.hid hr'
  clear hr hr'
  go_enter Try.func10, Try.ntmps10
  go_wp2
  go_ret
  refine ⟨?_, rfl⟩
  rfl
theorem r8At_small (v : Value) (k n : Int) (w : World) (hn : n ≤ 1) (hv : ∃ a len cap, v = .slice a len cap) :
    Calls Try.prog 10 #[v, .int .i64 k, .int .i64 n] w fun e w' => e = .returned (.int .i64 0) ∧ w' = w := by
  obtain ⟨a, len, cap, rfl⟩ := hv
  go_enter Try.func10, Try.ntmps10
  go_wp2
  go_ret
  exact ⟨rfl, rfl⟩
theorem r8At_out (a : Option Addr) (m cap k : Nat) (n : Int) (w : World) (hn : 1 < n) (hk : m ≤ k) :
    Calls Try.prog 10 #[.slice a m cap, .int .i64 k, .int .i64 n] w fun e w' => e = .returned (.int .i64 0) ∧ w' = w := by
  go_enter Try.func10, Try.ntmps10
  go_wp2
  go_ret
  exact ⟨rfl, rfl⟩

theorem b10At_some (b off cap : Nat) (l : List Int) (k : Nat) (n : Int) (w : World) (hn : 1 < n) (hk : k < l.length)
    (hc : w.cell? ⟨b, off + k, none⟩ = some (.int .u8 (l.getD k 0))) (h0 : 0 ≤ l.getD k 0) (h1 : l.getD k 0 < 256) :
    Calls Try.prog 26 #[.slice (some ⟨b, off, none⟩) l.length cap, .int .i64 k, .int .i64 n] w fun e w' => e = .returned (.int .i64 (l.getD k 0 % n)) ∧ w' = w := by
  obtain ⟨z, hz⟩ : ∃ z, l.getD k 0 = z := ⟨_, rfl⟩
  rw [hz] at hc h0 h1 ⊢
  obtain ⟨m, hm⟩ : ∃ m, l.length = m := ⟨_, rfl⟩
  rw [hm] at hk ⊢
  clear hz hm
  have hr : (IntKind.i64.wrap z).tmod n = z % n := by rw [wrap_byte h0 h1, tmod_byte h0]
  have hr' : z.tmod n = z % n := tmod_byte h0
  have H := Lib.hid hr
  have H' := Lib.hid hr'
  clear hr hr'
  go_enter Try.func26, Try.ntmps26
  go_wp2
  go_ret
  refine ⟨?_, rfl⟩
  rfl
theorem b10At_small (v : Value) (k n : Int) (w : World) (hn : n ≤ 1) (hv : ∃ a len cap, v = .slice a len cap) :
    Calls Try.prog 26 #[v, .int .i64 k, .int .i64 n] w fun e w' => e = .returned (.int .i64 0) ∧ w' = w := by
  obtain ⟨a, len, cap, rfl⟩ := hv
  go_enter Try.func26, Try.ntmps26
  go_wp2
  go_ret
  exact ⟨rfl, rfl⟩
theorem b10At_out (a : Option Addr) (m cap k : Nat) (n : Int) (w : World) (hn : 1 < n) (hk : m ≤ k) (hbig : k ≤ 1000) :
    Calls Try.prog 26 #[.slice a m cap, .int .i64 k, .int .i64 n] w fun e w' => e = .returned (.int .i64 (((k : Int) * 37 + 11) % n)) ∧ w' = w := by
  have h1 : IntKind.i64.wrap ((k : Int) * 37) = (k : Int) * 37 := Go.IntWalk.i64_in _ (by omega)
  have h2 : IntKind.i64.wrap ((k : Int) * 37 + 11) = (k : Int) * 37 + 11 := Go.IntWalk.i64_in _ (by omega)
  have hr' : ((k : Int) * 37 + 11).tmod n = ((k : Int) * 37 + 11) % n := tmod_byte (by omega)
  have H1 := Lib.hid h1
  have H2 := Lib.hid h2
  have H' := Lib.hid hr'
  clear h1 h2 hr'
  go_enter Try.func26, Try.ntmps26
  go_wp2
  go_ret
  refine ⟨?_, rfl⟩
  first
    | rfl
    | rw [H'.out]
    | rw [H1.out, H2.out, H'.out]
    | rw [H2.out, H'.out]

theorem r8Long_run (a c : Option Addr) (la ca lc cc : Nat) (w : World) :
    Calls Try.prog 9 #[.slice a la ca, .slice c lc cc] w fun e w' => e = .returned (.bool (decide ((la : Int) > 48) || decide ((lc : Int) > 48))) ∧ w' = w := by
  go_enter Try.func9, Try.ntmps9
  go_wp2
  all_goals (go_ret; refine ⟨?_, rfl⟩; simp_all)
theorem b10Long_run (a c : Option Addr) (la ca lc cc : Nat) (w : World) :
    Calls Try.prog 25 #[.slice a la ca, .slice c lc cc] w fun e w' => e = .returned (.bool (decide ((la : Int) > 1048576) || decide ((lc : Int) > 1048576))) ∧ w' = w := by
  go_enter Try.func25, Try.ntmps25
  go_wp2
  all_goals (go_ret; refine ⟨?_, rfl⟩; simp_all)

theorem calls_gives {P : Program} {f : FuncId} {fn : Func} {c : Code} {args : Array Value} {w : World} {v : Value} {σ : List (Nat × Nat)} {r : AV} (hf : P.funcs[f]? = some fn) (hn : (fn.name == "runtime.NumGoroutine") = false) (hb : fn.body = some c)
    (h : Calls P f args w fun e w' => e = .returned v ∧ w' = w) (hr : Rep σ r v) : Gives P f args w fun v w' => Rep σ r v ∧ Ext w w' :=
  .inr ⟨enter_of hf hn hb, h.mono fun _ _ ⟨he, hw⟩ => ⟨v, he, hr, hw ▸ Ext.refl w⟩⟩

noncomputable def shWA (W : World) (g : List Int → Int → Int → Int) : List AV → Option (Bool × AV)
  | [.c (.val v), .c (.val (.int .i64 k)), .c (.val (.int .i64 n))] => some (decide (0 ≤ k ∧ k ≤ 1000) && good W v, .c (.val (.int .i64 (g (bytesOf W v) k n))))
  | _ => none

theorem byte_args {args : List AV} {W : World} {g : List Int → Int → Int → Int} {r : AV} (h : shWA W g args = some (true, r)) {σ : List (Nat × Nat)} {vs : List Value} (ha : RepF σ args vs) :
    ∃ (v : Value) (k : Nat) (n : Int), vs = [v, .int .i64 k, .int .i64 n] ∧ k ≤ 1000 ∧ BytesAt W v (bytesOf W v) ∧ r = .c (.val (.int .i64 (g (bytesOf W v) k n))) := by
  unfold shWA at h
  split at h
  · rename_i v k n
    simp only [Option.some.injEq, Prod.mk.injEq, Bool.and_eq_true, decide_eq_true_eq] at h
    obtain ⟨⟨⟨h1, h2⟩, hg⟩, rfl⟩ := h
    obtain ⟨k', rfl⟩ := Int.eq_ofNat_of_zero_le h1
    cases ha with
    | cons e1 ha => cases ha with
      | cons e2 ha => cases ha with
        | cons e3 ha =>
          cases ha
          have e1' : _ = v := e1
          have e2' : _ = Value.int .i64 (k' : Int) := e2
          have e3' : _ = Value.int .i64 n := e3
          subst e1' e2' e3'
          exact ⟨_, k', n, rfl, by omega, of_good hg, rfl⟩
  · cases h

theorem wR8At_ok (W : World) : ∀ args r, (shWA W r8v) args = some (true, r) → ∀ σ vs w, Ext W w → RepF σ args vs → Gives Try.prog 10 vs.toArray w fun v w' => Rep σ r v ∧ Ext w w' := by
  intro args r hr σ vs w hw ha
  obtain ⟨v, k, n, rfl, hk, hB, rfl⟩ := byte_args hr ha
  have hB' := hB.ext hw
  generalize bytesOf W v = l at hB hB' hr ⊢
  refine calls_gives (v := .int .i64 (r8v l k n)) Try.func10 (by kernel_rfl) (c := Try.f10.body.getD .skip) (by kernel_rfl) ?_ rfl
  unfold r8v
  by_cases h1 : n ≤ 1
  · rw [if_pos h1]
    refine r8At_small v k n w h1 ?_
    rcases hB with ⟨a, cap, rfl, _⟩ | ⟨b, off, cap, rfl, _⟩ <;> exact ⟨_, _, _, rfl⟩
  · rw [if_neg h1]
    by_cases h2 : (l.length : Int) ≤ k
    · rw [if_pos h2]
      rcases hB with ⟨a, cap, rfl, rfl⟩ | ⟨b, off, cap, rfl, _⟩
      · exact r8At_out a 0 cap k n w (by omega) (Nat.zero_le _)
      · exact r8At_out _ _ _ k n w (by omega) (by omega)
    · rw [if_neg h2, Int.toNat_natCast]
      rcases hB' with ⟨a, cap, rfl, rfl⟩ | ⟨b, off, cap, rfl, hl, hc⟩
      · exact absurd (Int.natCast_nonneg k) h2
      · have hk' : k < l.length := by omega
        exact r8At_some b off cap l k n w (by omega) hk' (hc k hk').1 (hc k hk').2.1 (hc k hk').2.2
noncomputable def wR8At (W : World) : EntryW Try.prog (Ext W) := { f := 10, fn := shWA W r8v, ok := wR8At_ok W }
theorem wB10At_ok (W : World) : ∀ args r, (shWA W b10v) args = some (true, r) → ∀ σ vs w, Ext W w → RepF σ args vs → Gives Try.prog 26 vs.toArray w fun v w' => Rep σ r v ∧ Ext w w' := by
  intro args r hr σ vs w hw ha
  obtain ⟨v, k, n, rfl, hk, hB, rfl⟩ := byte_args hr ha
  have hB' := hB.ext hw
  generalize bytesOf W v = l at hB hB' hr ⊢
  refine calls_gives (v := .int .i64 (b10v l k n)) Try.func26 (by kernel_rfl) (c := Try.f26.body.getD .skip) (by kernel_rfl) ?_ rfl
  unfold b10v
  by_cases h1 : n ≤ 1
  · rw [if_pos h1]
    refine b10At_small v k n w h1 ?_
    rcases hB with ⟨a, cap, rfl, _⟩ | ⟨b, off, cap, rfl, _⟩ <;> exact ⟨_, _, _, rfl⟩
  · rw [if_neg h1]
    by_cases h2 : (k : Int) < (l.length : Int)
    · rw [if_pos h2, Int.toNat_natCast]
      rcases hB' with ⟨a, cap, rfl, rfl⟩ | ⟨b, off, cap, rfl, hl, hc⟩
      · exact absurd h2 (Int.not_lt.2 (Int.natCast_nonneg k))
      · have hk' : k < l.length := by omega
        exact b10At_some b off cap l k n w (by omega) hk' (hc k hk').1 (hc k hk').2.1 (hc k hk').2.2
    · rw [if_neg h2]
      rcases hB with ⟨a, cap, rfl, rfl⟩ | ⟨b, off, cap, rfl, _⟩
      · exact b10At_out a 0 cap k n w (by omega) (Nat.zero_le _) hk
      · exact b10At_out _ _ _ k n w (by omega) (by omega) hk
noncomputable def wB10At (W : World) : EntryW Try.prog (Ext W) := { f := 26, fn := shWA W b10v, ok := wB10At_ok W }

/-- Whether the input is too long. -/
def longV (m : Int) (l l' : List Int) : Bool := decide ((l.length : Int) > m) || decide ((l'.length : Int) > m)
noncomputable def shWL (W : World) (m : Int) : List AV → Option (Bool × AV)
  | [.c (.val v), .c (.val u)] => some (good W v && good W u, .c (.sb (longV m (bytesOf W v) (bytesOf W u))))
  | _ => none
theorem long_args {args : List AV} {W : World} {m : Int} {r : AV} (h : shWL W m args = some (true, r)) {σ : List (Nat × Nat)} {vs : List Value} (ha : RepF σ args vs) :
    ∃ (a : Option Addr) (ca : Nat) (l : List Int) (b : Option Addr) (cb : Nat) (l' : List Int), vs = [.slice a l.length ca, .slice b l'.length cb] ∧ r = .c (.sb (longV m l l')) := by
  have sl : ∀ {v l}, BytesAt W v l → ∃ a c, v = .slice a l.length c := by
    intro v l h
    rcases h with ⟨a, cap, rfl, rfl⟩ | ⟨b, off, cap, rfl, _⟩
    · exact ⟨a, cap, rfl⟩
    · exact ⟨_, _, rfl⟩
  unfold shWL at h
  split at h
  · rename_i v u
    simp only [Option.some.injEq, Prod.mk.injEq, Bool.and_eq_true] at h
    obtain ⟨⟨h1, h2⟩, rfl⟩ := h
    cases ha with
    | cons e1 ha => cases ha with
      | cons e2 ha =>
        cases ha
        have e1' : _ = v := e1
        have e2' : _ = u := e2
        subst e1' e2'
        obtain ⟨a, ca, hv⟩ := sl (of_good h1)
        obtain ⟨b, cb, hu⟩ := sl (of_good h2)
        exact ⟨a, ca, _, b, cb, _, by rw [← hv, ← hu], rfl⟩
  · cases h
theorem wR8Long_ok (W : World) : ∀ args r, (shWL W 48) args = some (true, r) → ∀ σ vs w, Ext W w → RepF σ args vs → Gives Try.prog 9 vs.toArray w fun v w' => Rep σ r v ∧ Ext w w' := by
  intro args r hr σ vs w hw ha
  obtain ⟨a, ca, l, b, cb, l', rfl, rfl⟩ := long_args hr ha
  exact calls_gives Try.func9 (by kernel_rfl) (c := Try.f9.body.getD .skip) (by kernel_rfl) (r8Long_run a b l.length ca l'.length cb w) rfl
noncomputable def wR8Long (W : World) : EntryW Try.prog (Ext W) := { f := 9, fn := shWL W 48, ok := wR8Long_ok W }
theorem wB10Long_ok (W : World) : ∀ args r, (shWL W 1048576) args = some (true, r) → ∀ σ vs w, Ext W w → RepF σ args vs → Gives Try.prog 25 vs.toArray w fun v w' => Rep σ r v ∧ Ext w w' := by
  intro args r hr σ vs w hw ha
  obtain ⟨a, ca, l, b, cb, l', rfl, rfl⟩ := long_args hr ha
  exact calls_gives Try.func25 (by kernel_rfl) (c := Try.f25.body.getD .skip) (by kernel_rfl) (b10Long_run a b l.length ca l'.length cb w) rfl
noncomputable def wB10Long (W : World) : EntryW Try.prog (Ext W) := { f := 25, fn := shWL W 1048576, ok := wB10Long_ok W }
theorem ext_mono (W : World) : ∀ w w', Ext W w → Ext w w' → Ext W w' := fun _ _ h h' => h.trans h'
end Go.Proofs.Ytlpahmefebgdlaa.Fx
/- The mass that a slice of bytes draws. No condition. -/
namespace Go.Proofs.Ytlpahmefebgdlaa.Fx
open Go Go.RowKit

theorem st0 {w : World} {p : Nat} {x y v : Value} (h : w.cell? ⟨p, 0, none⟩ = some v) : ((w.setCell ⟨p, 1, none⟩ x).setCell ⟨p, 2, none⟩ y).cell? ⟨p, 0, none⟩ = some v := by
  exact (World.cell?_setCell_other _ _ _ _ (by simp)).trans ((World.cell?_setCell_other _ _ _ _ (by simp)).trans h)
theorem st1 {w : World} {p : Nat} {x y v : Value} (h : w.cell? ⟨p, 1, none⟩ = some v) : ((w.setCell ⟨p, 1, none⟩ x).setCell ⟨p, 2, none⟩ y).cell? ⟨p, 1, none⟩ = some x := by
  exact (World.cell?_setCell_other _ _ _ _ (by simp)).trans (World.cell?_setCell_same _ _ _ h)
theorem next_in (p b off cap m : Nat) (z s : Int) (w : World) (hm : 0 < m)
    (h0 : w.cell? ⟨p, 0, none⟩ = some (.slice (some ⟨b, off, none⟩) m cap)) (h1 : w.cell? ⟨p, 1, none⟩ = some (.int .i64 0)) (h2 : w.cell? ⟨p, 2, none⟩ = some (.int .u64 s))
    (f1 : w.frozen? ⟨p, 1, none⟩ = false) (f2 : w.frozen? ⟨p, 2, none⟩ = false)
    (hc : w.cell? ⟨b, off, none⟩ = some (.int .u8 z)) (hz0 : 0 ≤ z) (hz1 : z < 256) :
    Calls Try.prog 124 #[.pointer (some ⟨p, 0, none⟩)] w fun e w' => e = .returned (.int .i64 z) ∧ Below p w w' := by
  go_enter Try.func124, Try.ntmps124
  go_wp2
  go_region_held3 (fun w' => w'.cell? ⟨p, 0, none⟩ = some (.slice (some ⟨b, off, none⟩) m cap) ∧ w'.cell? ⟨p, 1, none⟩ = some (.int .i64 0)) (go_keep) (fail)
  all_goals go_wp2
  go_region_held3 (fun w' => w'.cell? ⟨p, 0, none⟩ = some (.slice (some ⟨b, off, none⟩) m cap) ∧ w'.cell? ⟨p, 1, none⟩ = some (.int .i64 0) ∧ w'.cell? ⟨b, off, none⟩ = some (.int .u8 z)) (go_keep) (fail)
  all_goals go_wp2
  go_region_held3 (fun w' => w'.cell? ⟨p, 0, none⟩ = some (.slice (some ⟨b, off, none⟩) m cap) ∧ w'.cell? ⟨p, 1, none⟩ = some (.int .i64 1)) (first | exact ⟨st0 h0, st1 h1⟩ | go_keep) (fail)
  all_goals go_wp2
  all_goals go_ret
  refine ⟨?_, ?_⟩
  · exact congrArg (fun z => Ending.returned (Value.int .i64 z)) (wrap_byte hz0 hz1)
  · go_grown
    all_goals first | exact Nat.le_refl _ | trace_state
theorem next_out (p cap : Nat) (a : Option Addr) (w : World)
    (h0 : w.cell? ⟨p, 0, none⟩ = some (.slice a 0 cap)) (h1 : w.cell? ⟨p, 1, none⟩ = some (.int .i64 0)) (h2 : w.cell? ⟨p, 2, none⟩ = some (.int .u64 0))
    (f1 : w.frozen? ⟨p, 1, none⟩ = false) (f2 : w.frozen? ⟨p, 2, none⟩ = false) :
    Calls Try.prog 124 #[.pointer (some ⟨p, 0, none⟩)] w fun e w' => e = .returned (.int .i64 123) ∧ Below p w w' := by
  go_enter Try.func124, Try.ntmps124
  go_wp2
  go_region_held3 (fun w' => w'.cell? ⟨p, 0, none⟩ = some (.slice a 0 cap) ∧ w'.cell? ⟨p, 1, none⟩ = some (.int .i64 0)) (go_keep) (fail)
  all_goals go_wp2
  go_region_held3 (fun w' => w'.cell? ⟨p, 0, none⟩ = some (.slice a 0 cap) ∧ w'.cell? ⟨p, 1, none⟩ = some (.int .i64 1)) (first | exact ⟨st0 h0, st1 h1⟩ | go_keep) (fail)
  all_goals go_wp2
  all_goals go_ret
  refine ⟨?_, ?_⟩
  · exact congrArg (fun z => Ending.returned (Value.int .i64 z)) (show wrap64 (bits BinOp.and IntKind.u64 1312123 255) = 123 by decide +kernel)
  · go_grown
    all_goals first | exact Nat.le_refl _ | trace_state

theorem pick_in (p b off cap m : Nat) (z : Int) (w : World) (hm : 0 < m)
    (h0 : w.cell? ⟨p, 0, none⟩ = some (.slice (some ⟨b, off, none⟩) m cap)) (h1 : w.cell? ⟨p, 1, none⟩ = some (.int .i64 0)) (h2 : w.cell? ⟨p, 2, none⟩ = some (.int .u64 0))
    (f1 : w.frozen? ⟨p, 1, none⟩ = false) (f2 : w.frozen? ⟨p, 2, none⟩ = false)
    (hc : w.cell? ⟨b, off, none⟩ = some (.int .u8 z)) (hz0 : 0 ≤ z) (hz1 : z < 256) :
    Calls Try.prog 84 #[.pointer (some ⟨p, 0, none⟩), .int .i64 8] w fun e w' => e = .returned (.int .i64 (z % 8)) ∧ Below p w w' := by
  have H := Lib.hid (show z.tmod 8 = z % 8 from tmod_byte hz0)
  go_enter Try.func84, Try.ntmps84
  go_wp2_with fail
  go_call (next_in p b off cap m z 0 w hm h0 h1 h2 f1 f2 hc hz0 hz1) as e w' ⟨he, hb⟩
  subst he
  go_wp2
  all_goals go_ret
  refine ⟨?_, hb⟩
  first | rfl | exact congrArg (fun z => Ending.returned (Value.int .i64 z)) H.out | trace_state
theorem pick_out (p cap : Nat) (a : Option Addr) (w : World)
    (h0 : w.cell? ⟨p, 0, none⟩ = some (.slice a 0 cap)) (h1 : w.cell? ⟨p, 1, none⟩ = some (.int .i64 0)) (h2 : w.cell? ⟨p, 2, none⟩ = some (.int .u64 0))
    (f1 : w.frozen? ⟨p, 1, none⟩ = false) (f2 : w.frozen? ⟨p, 2, none⟩ = false) :
    Calls Try.prog 84 #[.pointer (some ⟨p, 0, none⟩), .int .i64 8] w fun e w' => e = .returned (.int .i64 3) ∧ Below p w w' := by
  go_enter Try.func84, Try.ntmps84
  go_wp2_with fail
  go_call (next_out p cap a w h0 h1 h2 f1 f2) as e w' ⟨he, hb⟩
  subst he
  go_wp2
  all_goals go_ret
  refine ⟨?_, hb⟩
  first | rfl | trace_state

/-- What the mass is drawn of. -/
def massAt (l : List Int) : Int := match l with
  | [] => 3
  | z :: _ => z % 8
def massOf (x : Int) : F32 := lit .f32 (floatOfInt .f32 (1 + x)) / c32 1073741824
theorem mass_quo (x : Int) (w : World) : ∃ t n, (binOp .quo 24 (.float .f32 (floatOfInt .f32 (1 + x))) (.float .f32 1073741824)).run Try.prog w = .ok (.float .f32 (B (massOf x) t)) (w.drewN n) := by
  obtain ⟨t, n, h⟩ := run_arith (P := Try.prog) .quo (by simp) (Is.lit (k := .f32) (floatOfInt .f32 (1 + x))) (Is.lit (k := .f32) 1073741824) w
  exact ⟨t, n, h⟩

theorem new_cell (w : World) (cs : Array Value) (t : TypeId) (i : Nat) {v : Value} (h : cs[i]? = some v) : (w.alloc (.cells cs t (0, 0))).cell? ⟨w.heap.size, i, none⟩ = some v := by
  have e1 : (w.alloc (.cells cs t (0, 0))).heap[w.heap.size]? = some (.cells cs t (0, 0)) := (MapKept.heap_alloc w _).1
  unfold World.cell?
  rw [e1]
  simp [h]
theorem new_frozen (w : World) (cs : Array Value) (t : TypeId) (i : Nat) : (w.alloc (.cells cs t (0, 0))).frozen? ⟨w.heap.size, i, none⟩ = false := by
  have e1 : (w.alloc (.cells cs t (0, 0))).heap[w.heap.size]? = some (.cells cs t (0, 0)) := (MapKept.heap_alloc w _).1
  unfold World.frozen?
  rw [e1]
  simp
/-- A new source over these bytes. -/
def SrcAt (w' : World) (p : Nat) (v : Value) : Prop :=
  w'.cell? ⟨p, 0, none⟩ = some v ∧ w'.cell? ⟨p, 1, none⟩ = some (.int .i64 0) ∧ w'.cell? ⟨p, 2, none⟩ = some (.int .u64 0) ∧ w'.frozen? ⟨p, 1, none⟩ = false ∧ w'.frozen? ⟨p, 2, none⟩ = false
theorem from_run (a : Option Addr) (m cap : Nat) (w : World) :
    Calls Try.prog 83 #[.slice a m cap] w fun e w' => e = .returned (.pointer (some ⟨w.heap.size, 0, none⟩)) ∧ SrcAt w' w.heap.size (.slice a m cap) ∧ Ext w w' := by
  have h : Calls Try.prog 83 #[.slice a m cap] w fun e w' => e = .returned (.pointer (some ⟨w.heap.size, 0, none⟩)) ∧ w' = w.alloc (.cells #[.slice a m cap, .int .i64 0, .int .u64 0] 135 (0, 0)) := by
    go_enter Try.func83, Try.ntmps83
    go_wp2
    all_goals go_ret
    all_goals exact ⟨rfl, rfl⟩
  refine h.mono fun e w' ⟨he, hw⟩ => ?_
  subst hw
  refine ⟨he, ⟨new_cell _ _ _ _ rfl, new_cell _ _ _ _ rfl, new_cell _ _ _ _ rfl, new_frozen _ _ _ _, new_frozen _ _ _ _⟩, ?_⟩
  unfold Ext; go_grown
theorem mass_in (b off cap m : Nat) (z : Int) (w : World) (hm : 0 < m)
    (hc : w.cell? ⟨b, off, none⟩ = some (.int .u8 z)) (hz0 : 0 ≤ z) (hz1 : z < 256) :
    Calls Try.prog 34 #[.slice (some ⟨b, off, none⟩) m cap] w fun e w' => ∃ t, e = .returned (.float .f32 (B (massOf (z % 8)) t)) ∧ Ext w w' := by
  go_enter Try.func34, Try.ntmps34
  go_wp2_with fail
  go_call (from_run _ m cap w) as e w' ⟨he, hs, hx⟩
  subst he
  go_wp2_with fail
  have hc' : w'.cell? ⟨b, off, none⟩ = some (.int .u8 z) := hx.cell hc
  obtain ⟨c0, c1, c2, d1, d2⟩ := hs
  go_call (pick_in w.heap.size b off cap m z w' hm c0 c1 c2 d1 d2 hc' hz0 hz1) as e w'' ⟨he, hb'⟩
  subst he
  have hx' : Ext w w'' := Below.trans hx hb'
  clear hb' hx hc' c0 c1 c2 d1 d2
  obtain ⟨t, n, hq⟩ := mass_quo (z % 8) w''
  go_wp2
  all_goals go_ret
  all_goals exact ⟨t, rfl, hx'.trans (Ext.drewN _ _)⟩
theorem mass_out (a : Option Addr) (cap : Nat) (w : World) :
    Calls Try.prog 34 #[.slice a 0 cap] w fun e w' => ∃ t, e = .returned (.float .f32 (B (massOf 3) t)) ∧ Ext w w' := by
  go_enter Try.func34, Try.ntmps34
  go_wp2_with fail
  go_call (from_run _ 0 cap w) as e w' ⟨he, hs, hx⟩
  subst he
  go_wp2_with fail
  obtain ⟨c0, c1, c2, d1, d2⟩ := hs
  go_call (pick_out w.heap.size cap a w' c0 c1 c2 d1 d2) as e w'' ⟨he, hb'⟩
  subst he
  have hx' : Ext w w'' := Below.trans hx hb'
  clear hb' hx c0 c1 c2 d1 d2
  obtain ⟨t, n, hq⟩ := mass_quo 3 w''
  have hq' : (binOp .quo 24 (.float .f32 (floatOfInt .f32 4)) (.float .f32 1073741824)).run Try.prog w'' = .ok (.float .f32 (B (massOf 3) t)) (w''.drewN n) := hq
  clear hq
  go_wp2
  all_goals go_ret
  all_goals exact ⟨t, rfl, hx'.trans (Ext.drewN _ _)⟩

theorem wd_mass (x : Int) (t : Nat) : Wd .f32 (B (massOf x) t) := wd_bin .quo (lit .f32 (floatOfInt .f32 (1 + x))) (c32 1073741824) t
noncomputable def shWM (W : World) : List AV → Option (Bool × AV)
  | [.c (.val v)] => some (good W v, .c (.fl .f32 (massOf (massAt (bytesOf W v)))))
  | _ => none
theorem wMass_ok (W : World) : ∀ args r, shWM W args = some (true, r) → ∀ σ vs w, Ext W w → RepF σ args vs → Gives Try.prog 34 vs.toArray w fun v w' => Rep σ r v ∧ Ext w w' := by
  intro args r h σ vs w hw ha
  unfold shWM at h
  split at h
  · rename_i v
    simp only [Option.some.injEq, Prod.mk.injEq] at h
    obtain ⟨hg, rfl⟩ := h
    cases ha with
    | cons e1 ha =>
      cases ha
      have e1' : _ = v := e1
      subst e1'
      have hB := (of_good hg).ext hw
      generalize bytesOf W _ = l at hB ⊢
      refine .inr ⟨enter_of Try.func34 (by kernel_rfl) (c := Try.f34.body.getD .skip) (by kernel_rfl), ?_⟩
      rcases hB with ⟨a, cap, rfl, rfl⟩ | ⟨b, off, cap, rfl, hl, hc⟩
      · exact (mass_out a cap w).mono fun e w' ⟨t, he, hx⟩ => ⟨_, he, ⟨t, rfl, wd_mass 3 t⟩, hx⟩
      · cases l with
        | nil => exact (mass_out _ cap w).mono fun e w' ⟨t, he, hx⟩ => ⟨_, he, ⟨t, rfl, wd_mass 3 t⟩, hx⟩
        | cons z l =>
          obtain ⟨h1, h2, h3⟩ := hc 0 (by simp)
          exact (mass_in b off cap (l.length + 1) z w (by omega) h1 h2 h3).mono fun e w' ⟨t, he, hx⟩ => ⟨_, he, ⟨t, rfl, wd_mass (z % 8) t⟩, hx⟩
  · cases h
noncomputable def wMass (W : World) : EntryW Try.prog (Ext W) := { f := 34, fn := shWM W, ok := wMass_ok W }
theorem massAt_range (l : List Int) : 0 ≤ massAt l ∧ massAt l < 8 := by
  cases l with
  | nil => exact ⟨by decide, by decide⟩
  | cons z l => exact ⟨Int.emod_nonneg _ (by decide), Int.emod_lt_of_pos _ (by decide)⟩
end Go.Proofs.Ytlpahmefebgdlaa.Fx
/- Contract: what a source reads, what it picks. No condition. -/
namespace Go.Proofs.Ytlpahmefebgdlaa.Fx
open Go Go.RowKit

/-- A source that has read t times. -/
def SrcG (w : World) (p : Nat) (v : Value) (t s : Int) : Prop :=
  w.cell? ⟨p, 0, none⟩ = some v ∧ w.cell? ⟨p, 1, none⟩ = some (.int .i64 t) ∧ w.cell? ⟨p, 2, none⟩ = some (.int .u64 s) ∧ w.frozen? ⟨p, 1, none⟩ = false ∧ w.frozen? ⟨p, 2, none⟩ = false
theorem st2 {w : World} {p : Nat} {x y v : Value} (h : w.cell? ⟨p, 2, none⟩ = some v) : ((w.setCell ⟨p, 1, none⟩ x).setCell ⟨p, 2, none⟩ y).cell? ⟨p, 2, none⟩ = some y :=
  World.cell?_setCell_same _ _ _ ((World.cell?_setCell_other _ _ _ _ (by simp)).trans h)
theorem st_all {w : World} {p : Nat} {v : Value} {t s t' s' : Int} (h : SrcG w p v t s) : SrcG ((w.setCell ⟨p, 1, none⟩ (.int .i64 t')).setCell ⟨p, 2, none⟩ (.int .u64 s')) p v t' s' :=
  ⟨st0 h.1, st1 h.2.1, st2 h.2.2.1, by rw [World.frozen?_setCell, World.frozen?_setCell]; exact h.2.2.2.1, by rw [World.frozen?_setCell, World.frozen?_setCell]; exact h.2.2.2.2⟩
/-- Another block than p is as it was. -/
def Only (p : Nat) (w w' : World) : Prop := ∀ k, k ≠ p → w'.heap[k]? = w.heap[k]?
theorem Only.cell {p : Nat} {w w' : World} (h : Only p w w') {a : Addr} (ha : a.block ≠ p) : w'.cell? a = w.cell? a := by
  unfold World.cell?; rw [h _ ha]
theorem Only.frozen {p : Nat} {w w' : World} (h : Only p w w') {a : Addr} (ha : a.block ≠ p) : w'.frozen? a = w.frozen? a := by
  unfold World.frozen?; rw [h _ ha]
def seedO (s : Int) : Int := IntKind.u64.wrap (IntKind.u64.wrap (IntKind.u64.wrap (s * 6364136223846793005)) + 1442695040888963407)
def seedI (s z : Int) : Int := IntKind.u64.wrap (IntKind.u64.wrap (IntKind.u64.wrap (s * 6364136223846793005) + z) + 1442695040888963407)
def outV (s : Int) : Int := wrap64 (bits BinOp.and IntKind.u64 (s / 1099511627776) 255)
theorem next_out0 (p m cap : Nat) (a : Option Addr) (s : Int) (w : World) (hm : (m : Int) ≤ 0) (h : SrcG w p (.slice a m cap) 0 s) :
    Calls Try.prog 124 #[.pointer (some ⟨p, 0, none⟩)] w fun e w' => e = .returned (.int .i64 (outV (seedO s))) ∧ SrcG w' p (.slice a m cap) 1 (seedO s) ∧ Below p w w' ∧ Only p w w' := by
  have hm1 : ¬ ((0 : Int) < (m : Int)) := by omega
  have hm2 : ¬ ((1 : Int) ≤ (m : Int)) := by omega
  have hs := Lib.hid (st_all (t' := 1) (s' := seedO s) h)
  obtain ⟨h0, h1, h2, f1, f2⟩ := h
  go_enter Try.func124, Try.ntmps124
  go_wp2
  go_region_held3 (fun w' => w'.cell? ⟨p, 0, none⟩ = some (.slice a m cap) ∧ w'.cell? ⟨p, 1, none⟩ = some (.int .i64 0)) (go_keep) (fail)
  all_goals go_wp2
  go_region_held3 (fun w' => w'.cell? ⟨p, 0, none⟩ = some (.slice a m cap) ∧ w'.cell? ⟨p, 1, none⟩ = some (.int .i64 1)) (first | exact ⟨st0 h0, st1 h1⟩ | go_keep) (fail)
  all_goals go_wp2
  all_goals go_ret
  refine ⟨rfl, hs.out, ?_, fun k hk => (Below.heap_setCell _ _ _ _ hk).trans (Below.heap_setCell _ _ _ _ hk)⟩
  go_grown
  all_goals first | exact Nat.le_refl _ | trace_state
theorem next_in0 (p b off cap m : Nat) (z s : Int) (w : World) (hm : (0 : Int) < (m : Int)) (h : SrcG w p (.slice (some ⟨b, off, none⟩) m cap) 0 s)
    (hc : w.cell? ⟨b, off, none⟩ = some (.int .u8 z)) (hz0 : 0 ≤ z) (hz1 : z < 256) :
    Calls Try.prog 124 #[.pointer (some ⟨p, 0, none⟩)] w fun e w' => e = .returned (.int .i64 z) ∧ SrcG w' p (.slice (some ⟨b, off, none⟩) m cap) 1 (seedI s z) ∧ Below p w w' ∧ Only p w w' := by
  have hm2 : ((1 : Int) ≤ (m : Int)) := by omega
  have hs := Lib.hid (st_all (t' := 1) (s' := seedI s z) h)
  obtain ⟨h0, h1, h2, f1, f2⟩ := h
  go_enter Try.func124, Try.ntmps124
  go_wp2
  go_region_held3 (fun w' => w'.cell? ⟨p, 0, none⟩ = some (.slice (some ⟨b, off, none⟩) m cap) ∧ w'.cell? ⟨p, 1, none⟩ = some (.int .i64 0)) (go_keep) (fail)
  all_goals go_wp2
  go_region_held3 (fun w' => w'.cell? ⟨p, 0, none⟩ = some (.slice (some ⟨b, off, none⟩) m cap) ∧ w'.cell? ⟨p, 1, none⟩ = some (.int .i64 0) ∧ w'.cell? ⟨b, off, none⟩ = some (.int .u8 z)) (go_keep) (fail)
  all_goals go_wp2
  go_region_held3 (fun w' => w'.cell? ⟨p, 0, none⟩ = some (.slice (some ⟨b, off, none⟩) m cap) ∧ w'.cell? ⟨p, 1, none⟩ = some (.int .i64 1)) (first | exact ⟨st0 h0, st1 h1⟩ | go_keep) (fail)
  all_goals go_wp2
  all_goals go_ret
  refine ⟨?_, hs.out, ?_, fun k hk => (Below.heap_setCell _ _ _ _ hk).trans (Below.heap_setCell _ _ _ _ hk)⟩
  · exact congrArg (fun z => Ending.returned (Value.int .i64 z)) (wrap_byte hz0 hz1)
  · go_grown
    all_goals first | exact Nat.le_refl _ | trace_state
theorem next_out1 (p m cap : Nat) (a : Option Addr) (s : Int) (w : World) (hm : (m : Int) ≤ 1) (h : SrcG w p (.slice a m cap) 1 s) :
    Calls Try.prog 124 #[.pointer (some ⟨p, 0, none⟩)] w fun e w' => e = .returned (.int .i64 (outV (seedO s))) ∧ SrcG w' p (.slice a m cap) 2 (seedO s) ∧ Below p w w' ∧ Only p w w' := by
  have hm1 : ¬ ((1 : Int) < (m : Int)) := by omega
  have hm2 : ¬ ((2 : Int) ≤ (m : Int)) := by omega
  have hs := Lib.hid (st_all (t' := 2) (s' := seedO s) h)
  obtain ⟨h0, h1, h2, f1, f2⟩ := h
  go_enter Try.func124, Try.ntmps124
  go_wp2
  go_region_held3 (fun w' => w'.cell? ⟨p, 0, none⟩ = some (.slice a m cap) ∧ w'.cell? ⟨p, 1, none⟩ = some (.int .i64 1)) (go_keep) (fail)
  all_goals go_wp2
  go_region_held3 (fun w' => w'.cell? ⟨p, 0, none⟩ = some (.slice a m cap) ∧ w'.cell? ⟨p, 1, none⟩ = some (.int .i64 2)) (first | exact ⟨st0 h0, st1 h1⟩ | go_keep) (fail)
  all_goals go_wp2
  all_goals go_ret
  refine ⟨rfl, hs.out, ?_, fun k hk => (Below.heap_setCell _ _ _ _ hk).trans (Below.heap_setCell _ _ _ _ hk)⟩
  go_grown
  all_goals first | exact Nat.le_refl _ | trace_state
theorem next_in1 (p b off cap m : Nat) (z s : Int) (w : World) (hm : (1 : Int) < (m : Int)) (h : SrcG w p (.slice (some ⟨b, off, none⟩) m cap) 1 s)
    (hc : w.cell? ⟨b, off + 1, none⟩ = some (.int .u8 z)) (hz0 : 0 ≤ z) (hz1 : z < 256) :
    Calls Try.prog 124 #[.pointer (some ⟨p, 0, none⟩)] w fun e w' => e = .returned (.int .i64 z) ∧ SrcG w' p (.slice (some ⟨b, off, none⟩) m cap) 2 (seedI s z) ∧ Below p w w' ∧ Only p w w' := by
  have hm2 : ((2 : Int) ≤ (m : Int)) := by omega
  have hs := Lib.hid (st_all (t' := 2) (s' := seedI s z) h)
  obtain ⟨h0, h1, h2, f1, f2⟩ := h
  go_enter Try.func124, Try.ntmps124
  go_wp2
  go_region_held3 (fun w' => w'.cell? ⟨p, 0, none⟩ = some (.slice (some ⟨b, off, none⟩) m cap) ∧ w'.cell? ⟨p, 1, none⟩ = some (.int .i64 1)) (go_keep) (fail)
  all_goals go_wp2
  go_region_held3 (fun w' => w'.cell? ⟨p, 0, none⟩ = some (.slice (some ⟨b, off, none⟩) m cap) ∧ w'.cell? ⟨p, 1, none⟩ = some (.int .i64 1) ∧ w'.cell? ⟨b, off + 1, none⟩ = some (.int .u8 z)) (go_keep) (fail)
  all_goals go_wp2
  go_region_held3 (fun w' => w'.cell? ⟨p, 0, none⟩ = some (.slice (some ⟨b, off, none⟩) m cap) ∧ w'.cell? ⟨p, 1, none⟩ = some (.int .i64 2)) (first | exact ⟨st0 h0, st1 h1⟩ | go_keep) (fail)
  all_goals go_wp2
  all_goals go_ret
  refine ⟨?_, hs.out, ?_, fun k hk => (Below.heap_setCell _ _ _ _ hk).trans (Below.heap_setCell _ _ _ _ hk)⟩
  · exact congrArg (fun z => Ending.returned (Value.int .i64 z)) (wrap_byte hz0 hz1)
  · go_grown
    all_goals first | exact Nat.le_refl _ | trace_state
theorem next_out2 (p m cap : Nat) (a : Option Addr) (s : Int) (w : World) (hm : (m : Int) ≤ 2) (h : SrcG w p (.slice a m cap) 2 s) :
    Calls Try.prog 124 #[.pointer (some ⟨p, 0, none⟩)] w fun e w' => e = .returned (.int .i64 (outV (seedO s))) ∧ SrcG w' p (.slice a m cap) 3 (seedO s) ∧ Below p w w' ∧ Only p w w' := by
  have hm1 : ¬ ((2 : Int) < (m : Int)) := by omega
  have hm2 : ¬ ((3 : Int) ≤ (m : Int)) := by omega
  have hs := Lib.hid (st_all (t' := 3) (s' := seedO s) h)
  obtain ⟨h0, h1, h2, f1, f2⟩ := h
  go_enter Try.func124, Try.ntmps124
  go_wp2
  go_region_held3 (fun w' => w'.cell? ⟨p, 0, none⟩ = some (.slice a m cap) ∧ w'.cell? ⟨p, 1, none⟩ = some (.int .i64 2)) (go_keep) (fail)
  all_goals go_wp2
  go_region_held3 (fun w' => w'.cell? ⟨p, 0, none⟩ = some (.slice a m cap) ∧ w'.cell? ⟨p, 1, none⟩ = some (.int .i64 3)) (first | exact ⟨st0 h0, st1 h1⟩ | go_keep) (fail)
  all_goals go_wp2
  all_goals go_ret
  refine ⟨rfl, hs.out, ?_, fun k hk => (Below.heap_setCell _ _ _ _ hk).trans (Below.heap_setCell _ _ _ _ hk)⟩
  go_grown
  all_goals first | exact Nat.le_refl _ | trace_state
theorem next_in2 (p b off cap m : Nat) (z s : Int) (w : World) (hm : (2 : Int) < (m : Int)) (h : SrcG w p (.slice (some ⟨b, off, none⟩) m cap) 2 s)
    (hc : w.cell? ⟨b, off + 2, none⟩ = some (.int .u8 z)) (hz0 : 0 ≤ z) (hz1 : z < 256) :
    Calls Try.prog 124 #[.pointer (some ⟨p, 0, none⟩)] w fun e w' => e = .returned (.int .i64 z) ∧ SrcG w' p (.slice (some ⟨b, off, none⟩) m cap) 3 (seedI s z) ∧ Below p w w' ∧ Only p w w' := by
  have hm2 : ((3 : Int) ≤ (m : Int)) := by omega
  have hs := Lib.hid (st_all (t' := 3) (s' := seedI s z) h)
  obtain ⟨h0, h1, h2, f1, f2⟩ := h
  go_enter Try.func124, Try.ntmps124
  go_wp2
  go_region_held3 (fun w' => w'.cell? ⟨p, 0, none⟩ = some (.slice (some ⟨b, off, none⟩) m cap) ∧ w'.cell? ⟨p, 1, none⟩ = some (.int .i64 2)) (go_keep) (fail)
  all_goals go_wp2
  go_region_held3 (fun w' => w'.cell? ⟨p, 0, none⟩ = some (.slice (some ⟨b, off, none⟩) m cap) ∧ w'.cell? ⟨p, 1, none⟩ = some (.int .i64 2) ∧ w'.cell? ⟨b, off + 2, none⟩ = some (.int .u8 z)) (go_keep) (fail)
  all_goals go_wp2
  go_region_held3 (fun w' => w'.cell? ⟨p, 0, none⟩ = some (.slice (some ⟨b, off, none⟩) m cap) ∧ w'.cell? ⟨p, 1, none⟩ = some (.int .i64 3)) (first | exact ⟨st0 h0, st1 h1⟩ | go_keep) (fail)
  all_goals go_wp2
  all_goals go_ret
  refine ⟨?_, hs.out, ?_, fun k hk => (Below.heap_setCell _ _ _ _ hk).trans (Below.heap_setCell _ _ _ _ hk)⟩
  · exact congrArg (fun z => Ending.returned (Value.int .i64 z)) (wrap_byte hz0 hz1)
  · go_grown
    all_goals first | exact Nat.le_refl _ | trace_state
theorem next_out3 (p m cap : Nat) (a : Option Addr) (s : Int) (w : World) (hm : (m : Int) ≤ 3) (h : SrcG w p (.slice a m cap) 3 s) :
    Calls Try.prog 124 #[.pointer (some ⟨p, 0, none⟩)] w fun e w' => e = .returned (.int .i64 (outV (seedO s))) ∧ SrcG w' p (.slice a m cap) 4 (seedO s) ∧ Below p w w' ∧ Only p w w' := by
  have hm1 : ¬ ((3 : Int) < (m : Int)) := by omega
  have hm2 : ¬ ((4 : Int) ≤ (m : Int)) := by omega
  have hs := Lib.hid (st_all (t' := 4) (s' := seedO s) h)
  obtain ⟨h0, h1, h2, f1, f2⟩ := h
  go_enter Try.func124, Try.ntmps124
  go_wp2
  go_region_held3 (fun w' => w'.cell? ⟨p, 0, none⟩ = some (.slice a m cap) ∧ w'.cell? ⟨p, 1, none⟩ = some (.int .i64 3)) (go_keep) (fail)
  all_goals go_wp2
  go_region_held3 (fun w' => w'.cell? ⟨p, 0, none⟩ = some (.slice a m cap) ∧ w'.cell? ⟨p, 1, none⟩ = some (.int .i64 4)) (first | exact ⟨st0 h0, st1 h1⟩ | go_keep) (fail)
  all_goals go_wp2
  all_goals go_ret
  refine ⟨rfl, hs.out, ?_, fun k hk => (Below.heap_setCell _ _ _ _ hk).trans (Below.heap_setCell _ _ _ _ hk)⟩
  go_grown
  all_goals first | exact Nat.le_refl _ | trace_state
theorem next_in3 (p b off cap m : Nat) (z s : Int) (w : World) (hm : (3 : Int) < (m : Int)) (h : SrcG w p (.slice (some ⟨b, off, none⟩) m cap) 3 s)
    (hc : w.cell? ⟨b, off + 3, none⟩ = some (.int .u8 z)) (hz0 : 0 ≤ z) (hz1 : z < 256) :
    Calls Try.prog 124 #[.pointer (some ⟨p, 0, none⟩)] w fun e w' => e = .returned (.int .i64 z) ∧ SrcG w' p (.slice (some ⟨b, off, none⟩) m cap) 4 (seedI s z) ∧ Below p w w' ∧ Only p w w' := by
  have hm2 : ((4 : Int) ≤ (m : Int)) := by omega
  have hs := Lib.hid (st_all (t' := 4) (s' := seedI s z) h)
  obtain ⟨h0, h1, h2, f1, f2⟩ := h
  go_enter Try.func124, Try.ntmps124
  go_wp2
  go_region_held3 (fun w' => w'.cell? ⟨p, 0, none⟩ = some (.slice (some ⟨b, off, none⟩) m cap) ∧ w'.cell? ⟨p, 1, none⟩ = some (.int .i64 3)) (go_keep) (fail)
  all_goals go_wp2
  go_region_held3 (fun w' => w'.cell? ⟨p, 0, none⟩ = some (.slice (some ⟨b, off, none⟩) m cap) ∧ w'.cell? ⟨p, 1, none⟩ = some (.int .i64 3) ∧ w'.cell? ⟨b, off + 3, none⟩ = some (.int .u8 z)) (go_keep) (fail)
  all_goals go_wp2
  go_region_held3 (fun w' => w'.cell? ⟨p, 0, none⟩ = some (.slice (some ⟨b, off, none⟩) m cap) ∧ w'.cell? ⟨p, 1, none⟩ = some (.int .i64 4)) (first | exact ⟨st0 h0, st1 h1⟩ | go_keep) (fail)
  all_goals go_wp2
  all_goals go_ret
  refine ⟨?_, hs.out, ?_, fun k hk => (Below.heap_setCell _ _ _ _ hk).trans (Below.heap_setCell _ _ _ _ hk)⟩
  · exact congrArg (fun z => Ending.returned (Value.int .i64 z)) (wrap_byte hz0 hz1)
  · go_grown
    all_goals first | exact Nat.le_refl _ | trace_state
theorem pick33 (p : Nat) (v : Value) (z t s : Int) (w : World) (hz : 0 ≤ z) (H : Calls Try.prog 124 #[.pointer (some ⟨p, 0, none⟩)] w fun e w' => e = .returned (.int .i64 z) ∧ SrcG w' p v t s ∧ Below p w w' ∧ Only p w w') :
    Calls Try.prog 84 #[.pointer (some ⟨p, 0, none⟩), .int .i64 33] w fun e w' => e = .returned (.int .i64 (z % 33)) ∧ SrcG w' p v t s ∧ Below p w w' ∧ Only p w w' := by
  have HH := Lib.hid (show z.tmod 33 = z % 33 from Int.tmod_eq_emod_of_nonneg hz)
  go_enter Try.func84, Try.ntmps84
  go_wp2_with fail
  go_call H as e w' ⟨he, hb⟩
  subst he
  go_wp2
  all_goals go_ret
  refine ⟨?_, hb⟩
  first | rfl | exact congrArg (fun z => Ending.returned (Value.int .i64 z)) HH.out | trace_state
theorem pick17 (p : Nat) (v : Value) (z t s : Int) (w : World) (hz : 0 ≤ z) (H : Calls Try.prog 124 #[.pointer (some ⟨p, 0, none⟩)] w fun e w' => e = .returned (.int .i64 z) ∧ SrcG w' p v t s ∧ Below p w w' ∧ Only p w w') :
    Calls Try.prog 84 #[.pointer (some ⟨p, 0, none⟩), .int .i64 17] w fun e w' => e = .returned (.int .i64 (z % 17)) ∧ SrcG w' p v t s ∧ Below p w w' ∧ Only p w w' := by
  have HH := Lib.hid (show z.tmod 17 = z % 17 from Int.tmod_eq_emod_of_nonneg hz)
  go_enter Try.func84, Try.ntmps84
  go_wp2_with fail
  go_call H as e w' ⟨he, hb⟩
  subst he
  go_wp2
  all_goals go_ret
  refine ⟨?_, hb⟩
  first | rfl | exact congrArg (fun z => Ending.returned (Value.int .i64 z)) HH.out | trace_state
def srcV (l : List Int) (t : Nat) (s : Int) : Int := if t < l.length then l.getD t 0 else outV (seedO s)
def srcS (l : List Int) (t : Nat) (s : Int) : Int := if t < l.length then seedI s (l.getD t 0) else seedO s
theorem next_t0 {w : World} {p : Nat} {v : Value} {l : List Int} (s : Int) (hb : BytesAt w v l) (h : SrcG w p v 0 s) :
    Calls Try.prog 124 #[.pointer (some ⟨p, 0, none⟩)] w fun e w' => e = .returned (.int .i64 (srcV l 0 s)) ∧ SrcG w' p v 1 (srcS l 0 s) ∧ Below p w w' ∧ Only p w w' := by
  unfold srcV srcS
  rcases hb with ⟨a, cap, rfl, rfl⟩ | ⟨b, off, cap, rfl, hl, hc⟩
  · rw [if_neg (by simp), if_neg (by simp)]
    exact next_out0 p 0 cap a s w (by decide) h
  · by_cases hlt : 0 < l.length
    · rw [if_pos hlt, if_pos hlt]
      obtain ⟨h1, h2, h3⟩ := hc 0 hlt
      exact next_in0 p b off cap l.length (l.getD 0 0) s w (by omega) h h1 h2 h3
    · rw [if_neg hlt, if_neg hlt]
      exact next_out0 p l.length cap _ s w (by omega) h
theorem next_t1 {w : World} {p : Nat} {v : Value} {l : List Int} (s : Int) (hb : BytesAt w v l) (h : SrcG w p v 1 s) :
    Calls Try.prog 124 #[.pointer (some ⟨p, 0, none⟩)] w fun e w' => e = .returned (.int .i64 (srcV l 1 s)) ∧ SrcG w' p v 2 (srcS l 1 s) ∧ Below p w w' ∧ Only p w w' := by
  unfold srcV srcS
  rcases hb with ⟨a, cap, rfl, rfl⟩ | ⟨b, off, cap, rfl, hl, hc⟩
  · rw [if_neg (by simp), if_neg (by simp)]
    exact next_out1 p 0 cap a s w (by decide) h
  · by_cases hlt : 1 < l.length
    · rw [if_pos hlt, if_pos hlt]
      obtain ⟨h1, h2, h3⟩ := hc 1 hlt
      exact next_in1 p b off cap l.length (l.getD 1 0) s w (by omega) h h1 h2 h3
    · rw [if_neg hlt, if_neg hlt]
      exact next_out1 p l.length cap _ s w (by omega) h
theorem next_t2 {w : World} {p : Nat} {v : Value} {l : List Int} (s : Int) (hb : BytesAt w v l) (h : SrcG w p v 2 s) :
    Calls Try.prog 124 #[.pointer (some ⟨p, 0, none⟩)] w fun e w' => e = .returned (.int .i64 (srcV l 2 s)) ∧ SrcG w' p v 3 (srcS l 2 s) ∧ Below p w w' ∧ Only p w w' := by
  unfold srcV srcS
  rcases hb with ⟨a, cap, rfl, rfl⟩ | ⟨b, off, cap, rfl, hl, hc⟩
  · rw [if_neg (by simp), if_neg (by simp)]
    exact next_out2 p 0 cap a s w (by decide) h
  · by_cases hlt : 2 < l.length
    · rw [if_pos hlt, if_pos hlt]
      obtain ⟨h1, h2, h3⟩ := hc 2 hlt
      exact next_in2 p b off cap l.length (l.getD 2 0) s w (by omega) h h1 h2 h3
    · rw [if_neg hlt, if_neg hlt]
      exact next_out2 p l.length cap _ s w (by omega) h
theorem next_t3 {w : World} {p : Nat} {v : Value} {l : List Int} (s : Int) (hb : BytesAt w v l) (h : SrcG w p v 3 s) :
    Calls Try.prog 124 #[.pointer (some ⟨p, 0, none⟩)] w fun e w' => e = .returned (.int .i64 (srcV l 3 s)) ∧ SrcG w' p v 4 (srcS l 3 s) ∧ Below p w w' ∧ Only p w w' := by
  unfold srcV srcS
  rcases hb with ⟨a, cap, rfl, rfl⟩ | ⟨b, off, cap, rfl, hl, hc⟩
  · rw [if_neg (by simp), if_neg (by simp)]
    exact next_out3 p 0 cap a s w (by decide) h
  · by_cases hlt : 3 < l.length
    · rw [if_pos hlt, if_pos hlt]
      obtain ⟨h1, h2, h3⟩ := hc 3 hlt
      exact next_in3 p b off cap l.length (l.getD 3 0) s w (by omega) h h1 h2 h3
    · rw [if_neg hlt, if_neg hlt]
      exact next_out3 p l.length cap _ s w (by omega) h
theorem outV_nonneg (s : Int) : 0 ≤ outV s := by
  unfold outV
  have h : ∃ n : Nat, n ≤ 255 ∧ bits BinOp.and IntKind.u64 (s / 1099511627776) 255 = (n : Int) := by
    generalize s / 1099511627776 = x
    refine ⟨(BitVec.ofInt 64 x &&& BitVec.ofInt 64 255).toNat, ?_, ?_⟩
    · rw [BitVec.toNat_and]
      exact Nat.and_le_right
    · have h2 : (BitVec.ofInt 64 x &&& BitVec.ofInt 64 255).toNat ≤ 255 := by
        rw [BitVec.toNat_and]
        exact Nat.and_le_right
      show IntKind.u64.wrap (((BitVec.ofInt 64 x &&& BitVec.ofInt 64 255).toNat : Nat) : Int) = _
      rw [Go.IntWalk.u64_in _ (by omega)]
  obtain ⟨n, h1, h2⟩ := h
  rw [h2]
  unfold wrap64
  omega
theorem srcV_nonneg {W : World} {v : Value} {l : List Int} (hb : BytesAt W v l) (t : Nat) (s : Int) : 0 ≤ srcV l t s := by
  unfold srcV
  split
  · exact (hb.range t).1
  · exact outV_nonneg _
end Go.Proofs.Ytlpahmefebgdlaa.Fx
