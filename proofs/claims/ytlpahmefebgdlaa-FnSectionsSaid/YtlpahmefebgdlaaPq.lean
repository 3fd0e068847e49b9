/- Texts put together: Tp. No condition. -/
import Derived.Test.YtlpahmefebgdlaaPl
/- The law FnSections: the rounds of its last loop, and that loop's rule. No condition. -/
namespace Go.Proofs.Ytlpahmefebgdlaa.Fx
open Go Go.RowKit

def l4Fr (s c : F32) (n : Int) (k : Nat) (i : Int) : List AV := List.replicate 5 (.c .any) ++ [.c (.fl .f32 s)] ++ List.replicate 18 (.c .any) ++ [.c (.fl .f32 c), .c (.val (.int .i64 n)), .c (.slc 0 k), .c .any, .c (.val (.int .i64 i))] ++ List.replicate 271 (.c .any)
def l4Mk : List Bool := List.replicate 5 false ++ [true] ++ List.replicate 18 false ++ [true, true, true, false, true] ++ List.replicate 271 false
def rmBs (s c : F32) (n : Nat) : List Bool := (rmPairs n).map fun p => rmB s c n p.1 p.2
def sbs : List Bool → List AC
  | [] => []
  | b :: l => .sb b :: sbs l
noncomputable def l4E (s c : F32) (n k : Nat) (i : Int) : Option (Out × List AV × List (List AC)) := exK Try.prog [ePotT] [] [] (G := anyW) [] 0 noRule [] 400 0 0 (loopN 2 Try.f7) (l4Fr s c n k i) [sbs (rmBs s c n)] (keepK l4Mk 1)
noncomputable def l4R (s c : F32) (n k : Nat) (i x y : Int) : Option (Out × List AV × List (List AC)) :=
  bif poQ s (rmX n x) (rmX n y) then bif (rmB s c n x y != rmB s c n x y) then some (.ret, l4Fr s c n k i, [sbs (rmBs s c n)]) else some (.norm, l4Fr s c n k (i + 1), [sbs (rmBs s c n)]) else none
def l4G (w0 : Base) (s c : F32) (n k : Nat) (i : Int) : Prop := InGoes Try.prog 0 w0 (loopN 2 Try.f7) (l4Fr s c n k i) [sbs (rmBs s c n)] (.exit 4) (l4Fr s c n k k) [sbs (rmBs s c n)]
theorem l4_go {w0 : Base} (hw : w0.s0.length ≤ 0) {s c : F32} {n k : Nat} {i x y : Int} {l : List (Int × Int)} (hr : l4E s c n k i = l4R s c n k i x y) (h : rmAll s n ((x, y) :: l) = true) (hn : rmAll s n l = true → l4G w0 s c n k (i + 1)) : l4G w0 s c n k i := by
  have h' : rmAll s n ([(x, y)] ++ l) = true := h
  have h1 : poQ s (rmX n x) (rmX n y) = true := by have := (rmAll_app h').1; unfold rmAll at this; simpa using this
  unfold l4E l4R at hr
  rw [h1, bne_self_eq_false] at hr
  exact goes_round (goes_of_exK w0 hw hr) (hn (rmAll_app h').2)
theorem l4_r1_0 (s c : F32) : l4E s c 1 1 0 = l4R s c 1 1 0 0 0 := by kernel_rfl
theorem l4_last_1 (s c : F32) : l4E s c 1 1 1 = some (.exit 4, l4Fr s c 1 1 1, [sbs (rmBs s c 1)]) := by kernel_rfl
theorem l4_from_1 (w0 : Base) (hw : w0.s0.length ≤ 0) (s c : F32) (h : rmQ s 1 = true) : l4G w0 s c 1 1 0 :=
  l4_go hw (l4_r1_0 s c) h fun _ => goes_last (fun h => by cases h) (goes_of_exK w0 hw (l4_last_1 s c))
theorem l4_r2_0 (s c : F32) : l4E s c 2 4 0 = l4R s c 2 4 0 0 0 := by kernel_rfl
theorem l4_r2_1 (s c : F32) : l4E s c 2 4 1 = l4R s c 2 4 1 1 0 := by kernel_rfl
theorem l4_r2_2 (s c : F32) : l4E s c 2 4 2 = l4R s c 2 4 2 0 1 := by kernel_rfl
theorem l4_r2_3 (s c : F32) : l4E s c 2 4 3 = l4R s c 2 4 3 1 1 := by kernel_rfl
theorem l4_last_2 (s c : F32) : l4E s c 2 4 4 = some (.exit 4, l4Fr s c 2 4 4, [sbs (rmBs s c 2)]) := by kernel_rfl
theorem l4_from_2 (w0 : Base) (hw : w0.s0.length ≤ 0) (s c : F32) (h : rmQ s 2 = true) : l4G w0 s c 2 4 0 :=
  l4_go hw (l4_r2_0 s c) h fun h1 => l4_go hw (l4_r2_1 s c) h1 fun h2 => l4_go hw (l4_r2_2 s c) h2 fun h3 => l4_go hw (l4_r2_3 s c) h3 fun _ => goes_last (fun h => by cases h) (goes_of_exK w0 hw (l4_last_2 s c))
theorem l4_r3_0 (s c : F32) : l4E s c 3 9 0 = l4R s c 3 9 0 0 0 := by kernel_rfl
theorem l4_r3_1 (s c : F32) : l4E s c 3 9 1 = l4R s c 3 9 1 1 0 := by kernel_rfl
theorem l4_r3_2 (s c : F32) : l4E s c 3 9 2 = l4R s c 3 9 2 2 0 := by kernel_rfl
theorem l4_r3_3 (s c : F32) : l4E s c 3 9 3 = l4R s c 3 9 3 0 1 := by kernel_rfl
theorem l4_r3_4 (s c : F32) : l4E s c 3 9 4 = l4R s c 3 9 4 1 1 := by kernel_rfl
theorem l4_r3_5 (s c : F32) : l4E s c 3 9 5 = l4R s c 3 9 5 2 1 := by kernel_rfl
theorem l4_r3_6 (s c : F32) : l4E s c 3 9 6 = l4R s c 3 9 6 0 2 := by kernel_rfl
theorem l4_r3_7 (s c : F32) : l4E s c 3 9 7 = l4R s c 3 9 7 1 2 := by kernel_rfl
theorem l4_r3_8 (s c : F32) : l4E s c 3 9 8 = l4R s c 3 9 8 2 2 := by kernel_rfl
theorem l4_last_3 (s c : F32) : l4E s c 3 9 9 = some (.exit 4, l4Fr s c 3 9 9, [sbs (rmBs s c 3)]) := by kernel_rfl
theorem l4_from_3 (w0 : Base) (hw : w0.s0.length ≤ 0) (s c : F32) (h : rmQ s 3 = true) : l4G w0 s c 3 9 0 :=
  l4_go hw (l4_r3_0 s c) h fun h1 => l4_go hw (l4_r3_1 s c) h1 fun h2 => l4_go hw (l4_r3_2 s c) h2 fun h3 => l4_go hw (l4_r3_3 s c) h3 fun h4 => l4_go hw (l4_r3_4 s c) h4 fun h5 => l4_go hw (l4_r3_5 s c) h5 fun h6 => l4_go hw (l4_r3_6 s c) h6 fun h7 => l4_go hw (l4_r3_7 s c) h7 fun h8 => l4_go hw (l4_r3_8 s c) h8 fun _ => goes_last (fun h => by cases h) (goes_of_exK w0 hw (l4_last_3 s c))
theorem l4_r4_0 (s c : F32) : l4E s c 4 16 0 = l4R s c 4 16 0 0 0 := by kernel_rfl
theorem l4_r4_1 (s c : F32) : l4E s c 4 16 1 = l4R s c 4 16 1 1 0 := by kernel_rfl
theorem l4_r4_2 (s c : F32) : l4E s c 4 16 2 = l4R s c 4 16 2 2 0 := by kernel_rfl
theorem l4_r4_3 (s c : F32) : l4E s c 4 16 3 = l4R s c 4 16 3 3 0 := by kernel_rfl
theorem l4_r4_4 (s c : F32) : l4E s c 4 16 4 = l4R s c 4 16 4 0 1 := by kernel_rfl
theorem l4_r4_5 (s c : F32) : l4E s c 4 16 5 = l4R s c 4 16 5 1 1 := by kernel_rfl
theorem l4_r4_6 (s c : F32) : l4E s c 4 16 6 = l4R s c 4 16 6 2 1 := by kernel_rfl
theorem l4_r4_7 (s c : F32) : l4E s c 4 16 7 = l4R s c 4 16 7 3 1 := by kernel_rfl
theorem l4_r4_8 (s c : F32) : l4E s c 4 16 8 = l4R s c 4 16 8 0 2 := by kernel_rfl
theorem l4_r4_9 (s c : F32) : l4E s c 4 16 9 = l4R s c 4 16 9 1 2 := by kernel_rfl
theorem l4_r4_10 (s c : F32) : l4E s c 4 16 10 = l4R s c 4 16 10 2 2 := by kernel_rfl
theorem l4_r4_11 (s c : F32) : l4E s c 4 16 11 = l4R s c 4 16 11 3 2 := by kernel_rfl
theorem l4_r4_12 (s c : F32) : l4E s c 4 16 12 = l4R s c 4 16 12 0 3 := by kernel_rfl
theorem l4_r4_13 (s c : F32) : l4E s c 4 16 13 = l4R s c 4 16 13 1 3 := by kernel_rfl
theorem l4_r4_14 (s c : F32) : l4E s c 4 16 14 = l4R s c 4 16 14 2 3 := by kernel_rfl
theorem l4_r4_15 (s c : F32) : l4E s c 4 16 15 = l4R s c 4 16 15 3 3 := by kernel_rfl
theorem l4_last_4 (s c : F32) : l4E s c 4 16 16 = some (.exit 4, l4Fr s c 4 16 16, [sbs (rmBs s c 4)]) := by kernel_rfl
theorem l4_from_4 (w0 : Base) (hw : w0.s0.length ≤ 0) (s c : F32) (h : rmQ s 4 = true) : l4G w0 s c 4 16 0 :=
  l4_go hw (l4_r4_0 s c) h fun h1 => l4_go hw (l4_r4_1 s c) h1 fun h2 => l4_go hw (l4_r4_2 s c) h2 fun h3 => l4_go hw (l4_r4_3 s c) h3 fun h4 => l4_go hw (l4_r4_4 s c) h4 fun h5 => l4_go hw (l4_r4_5 s c) h5 fun h6 => l4_go hw (l4_r4_6 s c) h6 fun h7 => l4_go hw (l4_r4_7 s c) h7 fun h8 => l4_go hw (l4_r4_8 s c) h8 fun h9 => l4_go hw (l4_r4_9 s c) h9 fun h10 => l4_go hw (l4_r4_10 s c) h10 fun h11 => l4_go hw (l4_r4_11 s c) h11 fun h12 => l4_go hw (l4_r4_12 s c) h12 fun h13 => l4_go hw (l4_r4_13 s c) h13 fun h14 => l4_go hw (l4_r4_14 s c) h14 fun h15 => l4_go hw (l4_r4_15 s c) h15 fun _ => goes_last (fun h => by cases h) (goes_of_exK w0 hw (l4_last_4 s c))
theorem l4_r5_0 (s c : F32) : l4E s c 5 25 0 = l4R s c 5 25 0 0 0 := by kernel_rfl
theorem l4_r5_1 (s c : F32) : l4E s c 5 25 1 = l4R s c 5 25 1 1 0 := by kernel_rfl
theorem l4_r5_2 (s c : F32) : l4E s c 5 25 2 = l4R s c 5 25 2 2 0 := by kernel_rfl
theorem l4_r5_3 (s c : F32) : l4E s c 5 25 3 = l4R s c 5 25 3 3 0 := by kernel_rfl
theorem l4_r5_4 (s c : F32) : l4E s c 5 25 4 = l4R s c 5 25 4 4 0 := by kernel_rfl
theorem l4_r5_5 (s c : F32) : l4E s c 5 25 5 = l4R s c 5 25 5 0 1 := by kernel_rfl
theorem l4_r5_6 (s c : F32) : l4E s c 5 25 6 = l4R s c 5 25 6 1 1 := by kernel_rfl
theorem l4_r5_7 (s c : F32) : l4E s c 5 25 7 = l4R s c 5 25 7 2 1 := by kernel_rfl
theorem l4_r5_8 (s c : F32) : l4E s c 5 25 8 = l4R s c 5 25 8 3 1 := by kernel_rfl
theorem l4_r5_9 (s c : F32) : l4E s c 5 25 9 = l4R s c 5 25 9 4 1 := by kernel_rfl
theorem l4_r5_10 (s c : F32) : l4E s c 5 25 10 = l4R s c 5 25 10 0 2 := by kernel_rfl
theorem l4_r5_11 (s c : F32) : l4E s c 5 25 11 = l4R s c 5 25 11 1 2 := by kernel_rfl
theorem l4_r5_12 (s c : F32) : l4E s c 5 25 12 = l4R s c 5 25 12 2 2 := by kernel_rfl
theorem l4_r5_13 (s c : F32) : l4E s c 5 25 13 = l4R s c 5 25 13 3 2 := by kernel_rfl
theorem l4_r5_14 (s c : F32) : l4E s c 5 25 14 = l4R s c 5 25 14 4 2 := by kernel_rfl
theorem l4_r5_15 (s c : F32) : l4E s c 5 25 15 = l4R s c 5 25 15 0 3 := by kernel_rfl
theorem l4_r5_16 (s c : F32) : l4E s c 5 25 16 = l4R s c 5 25 16 1 3 := by kernel_rfl
theorem l4_r5_17 (s c : F32) : l4E s c 5 25 17 = l4R s c 5 25 17 2 3 := by kernel_rfl
theorem l4_r5_18 (s c : F32) : l4E s c 5 25 18 = l4R s c 5 25 18 3 3 := by kernel_rfl
theorem l4_r5_19 (s c : F32) : l4E s c 5 25 19 = l4R s c 5 25 19 4 3 := by kernel_rfl
theorem l4_r5_20 (s c : F32) : l4E s c 5 25 20 = l4R s c 5 25 20 0 4 := by kernel_rfl
theorem l4_r5_21 (s c : F32) : l4E s c 5 25 21 = l4R s c 5 25 21 1 4 := by kernel_rfl
theorem l4_r5_22 (s c : F32) : l4E s c 5 25 22 = l4R s c 5 25 22 2 4 := by kernel_rfl
theorem l4_r5_23 (s c : F32) : l4E s c 5 25 23 = l4R s c 5 25 23 3 4 := by kernel_rfl
theorem l4_r5_24 (s c : F32) : l4E s c 5 25 24 = l4R s c 5 25 24 4 4 := by kernel_rfl
theorem l4_last_5 (s c : F32) : l4E s c 5 25 25 = some (.exit 4, l4Fr s c 5 25 25, [sbs (rmBs s c 5)]) := by kernel_rfl
theorem l4_from_5 (w0 : Base) (hw : w0.s0.length ≤ 0) (s c : F32) (h : rmQ s 5 = true) : l4G w0 s c 5 25 0 :=
  l4_go hw (l4_r5_0 s c) h fun h1 => l4_go hw (l4_r5_1 s c) h1 fun h2 => l4_go hw (l4_r5_2 s c) h2 fun h3 => l4_go hw (l4_r5_3 s c) h3 fun h4 => l4_go hw (l4_r5_4 s c) h4 fun h5 => l4_go hw (l4_r5_5 s c) h5 fun h6 => l4_go hw (l4_r5_6 s c) h6 fun h7 => l4_go hw (l4_r5_7 s c) h7 fun h8 => l4_go hw (l4_r5_8 s c) h8 fun h9 => l4_go hw (l4_r5_9 s c) h9 fun h10 => l4_go hw (l4_r5_10 s c) h10 fun h11 => l4_go hw (l4_r5_11 s c) h11 fun h12 => l4_go hw (l4_r5_12 s c) h12 fun h13 => l4_go hw (l4_r5_13 s c) h13 fun h14 => l4_go hw (l4_r5_14 s c) h14 fun h15 => l4_go hw (l4_r5_15 s c) h15 fun h16 => l4_go hw (l4_r5_16 s c) h16 fun h17 => l4_go hw (l4_r5_17 s c) h17 fun h18 => l4_go hw (l4_r5_18 s c) h18 fun h19 => l4_go hw (l4_r5_19 s c) h19 fun h20 => l4_go hw (l4_r5_20 s c) h20 fun h21 => l4_go hw (l4_r5_21 s c) h21 fun h22 => l4_go hw (l4_r5_22 s c) h22 fun h23 => l4_go hw (l4_r5_23 s c) h23 fun h24 => l4_go hw (l4_r5_24 s c) h24 fun _ => goes_last (fun h => by cases h) (goes_of_exK w0 hw (l4_last_5 s c))
theorem l4_r6_0 (s c : F32) : l4E s c 6 36 0 = l4R s c 6 36 0 0 0 := by kernel_rfl
theorem l4_r6_1 (s c : F32) : l4E s c 6 36 1 = l4R s c 6 36 1 1 0 := by kernel_rfl
theorem l4_r6_2 (s c : F32) : l4E s c 6 36 2 = l4R s c 6 36 2 2 0 := by kernel_rfl
theorem l4_r6_3 (s c : F32) : l4E s c 6 36 3 = l4R s c 6 36 3 3 0 := by kernel_rfl
theorem l4_r6_4 (s c : F32) : l4E s c 6 36 4 = l4R s c 6 36 4 4 0 := by kernel_rfl
theorem l4_r6_5 (s c : F32) : l4E s c 6 36 5 = l4R s c 6 36 5 5 0 := by kernel_rfl
theorem l4_r6_6 (s c : F32) : l4E s c 6 36 6 = l4R s c 6 36 6 0 1 := by kernel_rfl
theorem l4_r6_7 (s c : F32) : l4E s c 6 36 7 = l4R s c 6 36 7 1 1 := by kernel_rfl
theorem l4_r6_8 (s c : F32) : l4E s c 6 36 8 = l4R s c 6 36 8 2 1 := by kernel_rfl
theorem l4_r6_9 (s c : F32) : l4E s c 6 36 9 = l4R s c 6 36 9 3 1 := by kernel_rfl
theorem l4_r6_10 (s c : F32) : l4E s c 6 36 10 = l4R s c 6 36 10 4 1 := by kernel_rfl
theorem l4_r6_11 (s c : F32) : l4E s c 6 36 11 = l4R s c 6 36 11 5 1 := by kernel_rfl
theorem l4_r6_12 (s c : F32) : l4E s c 6 36 12 = l4R s c 6 36 12 0 2 := by kernel_rfl
theorem l4_r6_13 (s c : F32) : l4E s c 6 36 13 = l4R s c 6 36 13 1 2 := by kernel_rfl
theorem l4_r6_14 (s c : F32) : l4E s c 6 36 14 = l4R s c 6 36 14 2 2 := by kernel_rfl
theorem l4_r6_15 (s c : F32) : l4E s c 6 36 15 = l4R s c 6 36 15 3 2 := by kernel_rfl
theorem l4_r6_16 (s c : F32) : l4E s c 6 36 16 = l4R s c 6 36 16 4 2 := by kernel_rfl
theorem l4_r6_17 (s c : F32) : l4E s c 6 36 17 = l4R s c 6 36 17 5 2 := by kernel_rfl
theorem l4_r6_18 (s c : F32) : l4E s c 6 36 18 = l4R s c 6 36 18 0 3 := by kernel_rfl
theorem l4_r6_19 (s c : F32) : l4E s c 6 36 19 = l4R s c 6 36 19 1 3 := by kernel_rfl
theorem l4_r6_20 (s c : F32) : l4E s c 6 36 20 = l4R s c 6 36 20 2 3 := by kernel_rfl
theorem l4_r6_21 (s c : F32) : l4E s c 6 36 21 = l4R s c 6 36 21 3 3 := by kernel_rfl
theorem l4_r6_22 (s c : F32) : l4E s c 6 36 22 = l4R s c 6 36 22 4 3 := by kernel_rfl
theorem l4_r6_23 (s c : F32) : l4E s c 6 36 23 = l4R s c 6 36 23 5 3 := by kernel_rfl
theorem l4_r6_24 (s c : F32) : l4E s c 6 36 24 = l4R s c 6 36 24 0 4 := by kernel_rfl
theorem l4_r6_25 (s c : F32) : l4E s c 6 36 25 = l4R s c 6 36 25 1 4 := by kernel_rfl
theorem l4_r6_26 (s c : F32) : l4E s c 6 36 26 = l4R s c 6 36 26 2 4 := by kernel_rfl
theorem l4_r6_27 (s c : F32) : l4E s c 6 36 27 = l4R s c 6 36 27 3 4 := by kernel_rfl
theorem l4_r6_28 (s c : F32) : l4E s c 6 36 28 = l4R s c 6 36 28 4 4 := by kernel_rfl
theorem l4_r6_29 (s c : F32) : l4E s c 6 36 29 = l4R s c 6 36 29 5 4 := by kernel_rfl
theorem l4_r6_30 (s c : F32) : l4E s c 6 36 30 = l4R s c 6 36 30 0 5 := by kernel_rfl
theorem l4_r6_31 (s c : F32) : l4E s c 6 36 31 = l4R s c 6 36 31 1 5 := by kernel_rfl
theorem l4_r6_32 (s c : F32) : l4E s c 6 36 32 = l4R s c 6 36 32 2 5 := by kernel_rfl
theorem l4_r6_33 (s c : F32) : l4E s c 6 36 33 = l4R s c 6 36 33 3 5 := by kernel_rfl
theorem l4_r6_34 (s c : F32) : l4E s c 6 36 34 = l4R s c 6 36 34 4 5 := by kernel_rfl
theorem l4_r6_35 (s c : F32) : l4E s c 6 36 35 = l4R s c 6 36 35 5 5 := by kernel_rfl
theorem l4_last_6 (s c : F32) : l4E s c 6 36 36 = some (.exit 4, l4Fr s c 6 36 36, [sbs (rmBs s c 6)]) := by kernel_rfl
theorem l4_from_6 (w0 : Base) (hw : w0.s0.length ≤ 0) (s c : F32) (h : rmQ s 6 = true) : l4G w0 s c 6 36 0 :=
  l4_go hw (l4_r6_0 s c) h fun h1 => l4_go hw (l4_r6_1 s c) h1 fun h2 => l4_go hw (l4_r6_2 s c) h2 fun h3 => l4_go hw (l4_r6_3 s c) h3 fun h4 => l4_go hw (l4_r6_4 s c) h4 fun h5 => l4_go hw (l4_r6_5 s c) h5 fun h6 => l4_go hw (l4_r6_6 s c) h6 fun h7 => l4_go hw (l4_r6_7 s c) h7 fun h8 => l4_go hw (l4_r6_8 s c) h8 fun h9 => l4_go hw (l4_r6_9 s c) h9 fun h10 => l4_go hw (l4_r6_10 s c) h10 fun h11 => l4_go hw (l4_r6_11 s c) h11 fun h12 => l4_go hw (l4_r6_12 s c) h12 fun h13 => l4_go hw (l4_r6_13 s c) h13 fun h14 => l4_go hw (l4_r6_14 s c) h14 fun h15 => l4_go hw (l4_r6_15 s c) h15 fun h16 => l4_go hw (l4_r6_16 s c) h16 fun h17 => l4_go hw (l4_r6_17 s c) h17 fun h18 => l4_go hw (l4_r6_18 s c) h18 fun h19 => l4_go hw (l4_r6_19 s c) h19 fun h20 => l4_go hw (l4_r6_20 s c) h20 fun h21 => l4_go hw (l4_r6_21 s c) h21 fun h22 => l4_go hw (l4_r6_22 s c) h22 fun h23 => l4_go hw (l4_r6_23 s c) h23 fun h24 => l4_go hw (l4_r6_24 s c) h24 fun h25 => l4_go hw (l4_r6_25 s c) h25 fun h26 => l4_go hw (l4_r6_26 s c) h26 fun h27 => l4_go hw (l4_r6_27 s c) h27 fun h28 => l4_go hw (l4_r6_28 s c) h28 fun h29 => l4_go hw (l4_r6_29 s c) h29 fun h30 => l4_go hw (l4_r6_30 s c) h30 fun h31 => l4_go hw (l4_r6_31 s c) h31 fun h32 => l4_go hw (l4_r6_32 s c) h32 fun h33 => l4_go hw (l4_r6_33 s c) h33 fun h34 => l4_go hw (l4_r6_34 s c) h34 fun h35 => l4_go hw (l4_r6_35 s c) h35 fun _ => goes_last (fun h => by cases h) (goes_of_exK w0 hw (l4_last_6 s c))
def unB : List AC → Option (List Bool)
  | [] => some []
  | .sb b :: l => (unB l).map fun L => b :: L
  | _ => none
theorem unB_sbs : ∀ (l : List AC) (L : List Bool), unB l = some L → l = sbs L
  | [], L, h => by cases h; rfl
  | x :: l, L, h => by
    unfold unB at h
    split at h
    · rename_i he; cases he
    · rename_i b l0 he
      simp only [List.cons.injEq] at he
      obtain ⟨rfl, rfl⟩ := he
      cases hd : unB l with
      | none => rw [hd] at h; cases h
      | some L0 =>
        rw [hd] at h
        cases h
        rw [unB_sbs l L0 hd]; rfl
    · cases h
def l4Lp : LoopRule
  | 2, _ :: _ :: _ :: _ :: _ :: .c (.fl .f32 s) :: _ :: _ :: _ :: _ :: _ :: _ :: _ :: _ :: _ :: _ :: _ :: _ :: _ :: _ :: _ :: _ :: _ :: _ :: .c (.fl .f32 c) :: .c (.val (.int .i64 (.ofNat n))) :: .c (.slc 0 k) :: _ :: .c (.val (.int .i64 i)) :: F, [cells] => match unB cells with
    | some L => some (decide (F.length = 271 ∧ k = n * n ∧ i = 0 ∧ 1 ≤ n ∧ n ≤ 6) && (L == rmBs s c n && rmQ s n), .exit 4, l4Fr s c n (n * n) (n * n), [sbs (rmBs s c n)])
    | none => none
  | _, _, _ => none
theorem l4_weaken (s c : F32) (n : Int) (k : Nat) (i : Int) (a0 a1 a2 a3 a4 b0 b1 b2 b3 b4 b5 b6 b7 b8 b9 b10 b11 b12 b13 b14 b15 b16 b17 e0 : AV) (F : List AV) (h : F.length = 271) :
    weaken l4Mk (a0 :: a1 :: a2 :: a3 :: a4 :: .c (.fl .f32 s) :: b0 :: b1 :: b2 :: b3 :: b4 :: b5 :: b6 :: b7 :: b8 :: b9 :: b10 :: b11 :: b12 :: b13 :: b14 :: b15 :: b16 :: b17 :: .c (.fl .f32 c) :: .c (.val (.int .i64 n)) :: .c (.slc 0 k) :: e0 :: .c (.val (.int .i64 i)) :: F) = l4Fr s c n k i := by
  have e : weaken l4Mk (a0 :: a1 :: a2 :: a3 :: a4 :: .c (.fl .f32 s) :: b0 :: b1 :: b2 :: b3 :: b4 :: b5 :: b6 :: b7 :: b8 :: b9 :: b10 :: b11 :: b12 :: b13 :: b14 :: b15 :: b16 :: b17 :: .c (.fl .f32 c) :: .c (.val (.int .i64 n)) :: .c (.slc 0 k) :: e0 :: .c (.val (.int .i64 i)) :: F) =
    (List.replicate 5 (.c .any) ++ [.c (.fl .f32 s)] ++ List.replicate 18 (.c .any) ++ [.c (.fl .f32 c), .c (.val (.int .i64 n)), .c (.slc 0 k), .c .any, .c (.val (.int .i64 i))] : List AV) ++ weaken (List.replicate 271 false) F := by kernel_rfl
  rw [e, weaken_any 271 F h]; rfl
theorem l4_loops (W : World) : LoopsOk Try.prog 0 (Ext W) l4Lp 0 (Try.f7.body.getD .skip) := by
  intro j x hx F M o F' M' hl w0 _ hw
  have hX : (loopsAll (Try.f7.body.getD .skip))[2]? = some (loopN 2 Try.f7) := by kernel_rfl
  rw [Nat.zero_add] at hl
  unfold l4Lp at hl
  split at hl
  · rename_i a0 a1 a2 a3 a4 s b0 b1 b2 b3 b4 b5 b6 b7 b8 b9 b10 b11 b12 b13 b14 b15 b16 b17 c n k e0 i F cells
    rw [hX] at hx
    cases hx
    split at hl
    · rename_i L hL
      simp only [Option.some.injEq, Prod.mk.injEq, Bool.and_eq_true, decide_eq_true_eq] at hl
      obtain ⟨⟨⟨hF, rfl, rfl, h1, h6⟩, hb, hq⟩, rfl, rfl, rfl⟩ := hl
      have hb := eq_of_beq hb
      subst hb
      have hc := unB_sbs _ _ hL
      subst hc
      refine InGoes.weaken l4Mk ?_
      rw [l4_weaken _ _ _ _ _ _ _ _ _ _ _ _ _ _ _ _ _ _ _ _ _ _ _ _ _ _ _ _ _ F hF]
      have h' : n = 1 ∨ n = 2 ∨ n = 3 ∨ n = 4 ∨ n = 5 ∨ n = 6 := by omega
      rcases h' with rfl | rfl | rfl | rfl | rfl | rfl
      · exact l4_from_1 w0 hw s c hq
      · exact l4_from_2 w0 hw s c hq
      · exact l4_from_3 w0 hw s c hq
      · exact l4_from_4 w0 hw s c hq
      · exact l4_from_5 w0 hw s c hq
      · exact l4_from_6 w0 hw s c hq
    · cases hl
  · cases hl
theorem l4_far : ∀ j, farOff ≤ j → ∀ F M, l4Lp j F M = none := by
  intro j hj F M
  unfold l4Lp
  split
  · exact absurd hj (by decide)
  · rfl
end Go.Proofs.Ytlpahmefebgdlaa.Fx
