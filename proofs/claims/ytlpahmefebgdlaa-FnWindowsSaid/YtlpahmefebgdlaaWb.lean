/- The mass that a slice of bytes draws. No condition. -/
import Derived.Test.YtlpahmefebgdlaaWa
import Derived.Handy
import Derived.Deep.RegionHeld3
namespace Go.Proofs.Ytlpahmefebgdlaa.Fx
open Go Go.RowKit

theorem st0 {w : World} {p : Nat} {x y v : Value} (h : w.cell? ⟨p, 0, none⟩ = some v) : ((w.setCell ⟨p, 1, none⟩ x).setCell ⟨p, 2, none⟩ y).cell? ⟨p, 0, none⟩ = some v := by
  exact (World.cell?_setCell_other _ _ _ _ (by simp)).trans ((World.cell?_setCell_other _ _ _ _ (by simp)).trans h)
theorem st1 {w : World} {p : Nat} {x y v : Value} (h : w.cell? ⟨p, 1, none⟩ = some v) : ((w.setCell ⟨p, 1, none⟩ x).setCell ⟨p, 2, none⟩ y).cell? ⟨p, 1, none⟩ = some x := by
  exact (World.cell?_setCell_other _ _ _ _ (by simp)).trans (World.cell?_setCell_same _ _ _ h)
theorem next_in (p b off cap m : Nat) (z s : Int) (w : World) (hm : 0 < m)
    (h0 : w.cell? ⟨p, 0, none⟩ = some (.slice (some ⟨b, off, none⟩) m cap)) (h1 : w.cell? ⟨p, 1, none⟩ = some (.int .i64 0)) (h2 : w.cell? ⟨p, 2, none⟩ = some (.int .u64 s))
    (f1 : w.frozen? ⟨p, 1, none⟩ = false) (f2 : w.frozen? ⟨p, 2, none⟩ = false)
    (hc : w.cell? ⟨b, off, none⟩ = some (.int .u8 z)) (hz0 : 0 ≤ z) (hz1 : z < 256) :
    Calls Try.prog 124 #[.pointer (some ⟨p, 0, none⟩)] w fun e w' => e = .returned (.int .i64 z) ∧ Below p w w' := by
  go_enter Try.func124, Try.ntmps124
  go_wp2
  go_region_held3 (fun w' => w'.cell? ⟨p, 0, none⟩ = some (.slice (some ⟨b, off, none⟩) m cap) ∧ w'.cell? ⟨p, 1, none⟩ = some (.int .i64 0)) (go_keep) (fail)
  all_goals go_wp2
  go_region_held3 (fun w' => w'.cell? ⟨p, 0, none⟩ = some (.slice (some ⟨b, off, none⟩) m cap) ∧ w'.cell? ⟨p, 1, none⟩ = some (.int .i64 0) ∧ w'.cell? ⟨b, off, none⟩ = some (.int .u8 z)) (go_keep) (fail)
  all_goals go_wp2
  go_region_held3 (fun w' => w'.cell? ⟨p, 0, none⟩ = some (.slice (some ⟨b, off, none⟩) m cap) ∧ w'.cell? ⟨p, 1, none⟩ = some (.int .i64 1)) (first | exact ⟨st0 h0, st1 h1⟩ | go_keep) (fail)
  all_goals go_wp2
  all_goals go_ret
  refine ⟨?_, ?_⟩
  · exact congrArg (fun z => Ending.returned (Value.int .i64 z)) (wrap_byte hz0 hz1)
  · go_grown
    all_goals first | exact Nat.le_refl _ | trace_state
theorem next_out (p cap : Nat) (a : Option Addr) (w : World)
    (h0 : w.cell? ⟨p, 0, none⟩ = some (.slice a 0 cap)) (h1 : w.cell? ⟨p, 1, none⟩ = some (.int .i64 0)) (h2 : w.cell? ⟨p, 2, none⟩ = some (.int .u64 0))
    (f1 : w.frozen? ⟨p, 1, none⟩ = false) (f2 : w.frozen? ⟨p, 2, none⟩ = false) :
    Calls Try.prog 124 #[.pointer (some ⟨p, 0, none⟩)] w fun e w' => e = .returned (.int .i64 123) ∧ Below p w w' := by
  go_enter Try.func124, Try.ntmps124
  go_wp2
  go_region_held3 (fun w' => w'.cell? ⟨p, 0, none⟩ = some (.slice a 0 cap) ∧ w'.cell? ⟨p, 1, none⟩ = some (.int .i64 0)) (go_keep) (fail)
  all_goals go_wp2
  go_region_held3 (fun w' => w'.cell? ⟨p, 0, none⟩ = some (.slice a 0 cap) ∧ w'.cell? ⟨p, 1, none⟩ = some (.int .i64 1)) (first | exact ⟨st0 h0, st1 h1⟩ | go_keep) (fail)
  all_goals go_wp2
  all_goals go_ret
  refine ⟨?_, ?_⟩
  · exact congrArg (fun z => Ending.returned (Value.int .i64 z)) (show wrap64 (bits BinOp.and IntKind.u64 1312123 255) = 123 by decide +kernel)
  · go_grown
    all_goals first | exact Nat.le_refl _ | trace_state

theorem pick_in (p b off cap m : Nat) (z : Int) (w : World) (hm : 0 < m)
    (h0 : w.cell? ⟨p, 0, none⟩ = some (.slice (some ⟨b, off, none⟩) m cap)) (h1 : w.cell? ⟨p, 1, none⟩ = some (.int .i64 0)) (h2 : w.cell? ⟨p, 2, none⟩ = some (.int .u64 0))
    (f1 : w.frozen? ⟨p, 1, none⟩ = false) (f2 : w.frozen? ⟨p, 2, none⟩ = false)
    (hc : w.cell? ⟨b, off, none⟩ = some (.int .u8 z)) (hz0 : 0 ≤ z) (hz1 : z < 256) :
    Calls Try.prog 84 #[.pointer (some ⟨p, 0, none⟩), .int .i64 8] w fun e w' => e = .returned (.int .i64 (z % 8)) ∧ Below p w w' := by
  have H := Lib.hid (show z.tmod 8 = z % 8 from tmod_byte hz0)
  go_enter Try.func84, Try.ntmps84
  go_wp2_with fail
  go_call (next_in p b off cap m z 0 w hm h0 h1 h2 f1 f2 hc hz0 hz1) as e w' ⟨he, hb⟩
  subst he
  go_wp2
  all_goals go_ret
  refine ⟨?_, hb⟩
  first | rfl | exact congrArg (fun z => Ending.returned (Value.int .i64 z)) H.out | trace_state
theorem pick_out (p cap : Nat) (a : Option Addr) (w : World)
    (h0 : w.cell? ⟨p, 0, none⟩ = some (.slice a 0 cap)) (h1 : w.cell? ⟨p, 1, none⟩ = some (.int .i64 0)) (h2 : w.cell? ⟨p, 2, none⟩ = some (.int .u64 0))
    (f1 : w.frozen? ⟨p, 1, none⟩ = false) (f2 : w.frozen? ⟨p, 2, none⟩ = false) :
    Calls Try.prog 84 #[.pointer (some ⟨p, 0, none⟩), .int .i64 8] w fun e w' => e = .returned (.int .i64 3) ∧ Below p w w' := by
  go_enter Try.func84, Try.ntmps84
  go_wp2_with fail
  go_call (next_out p cap a w h0 h1 h2 f1 f2) as e w' ⟨he, hb⟩
  subst he
  go_wp2
  all_goals go_ret
  refine ⟨?_, hb⟩
  first | rfl | trace_state

/-- What the mass is drawn of. -/
def massAt (l : List Int) : Int := match l with
  | [] => 3
  | z :: _ => z % 8
def massOf (x : Int) : F32 := lit .f32 (floatOfInt .f32 (1 + x)) / c32 1073741824
theorem mass_quo (x : Int) (w : World) : ∃ t n, (binOp .quo 24 (.float .f32 (floatOfInt .f32 (1 + x))) (.float .f32 1073741824)).run Try.prog w = .ok (.float .f32 (B (massOf x) t)) (w.drewN n) := by
  obtain ⟨t, n, h⟩ := run_arith (P := Try.prog) .quo (by simp) (Is.lit (k := .f32) (floatOfInt .f32 (1 + x))) (Is.lit (k := .f32) 1073741824) w
  exact ⟨t, n, h⟩

theorem new_cell (w : World) (cs : Array Value) (t : TypeId) (i : Nat) {v : Value} (h : cs[i]? = some v) : (w.alloc (.cells cs t (0, 0))).cell? ⟨w.heap.size, i, none⟩ = some v := by
  have e1 : (w.alloc (.cells cs t (0, 0))).heap[w.heap.size]? = some (.cells cs t (0, 0)) := (MapKept.heap_alloc w _).1
  unfold World.cell?
  rw [e1]
  simp [h]
theorem new_frozen (w : World) (cs : Array Value) (t : TypeId) (i : Nat) : (w.alloc (.cells cs t (0, 0))).frozen? ⟨w.heap.size, i, none⟩ = false := by
  have e1 : (w.alloc (.cells cs t (0, 0))).heap[w.heap.size]? = some (.cells cs t (0, 0)) := (MapKept.heap_alloc w _).1
  unfold World.frozen?
  rw [e1]
  simp
/-- A new source over these bytes. -/
def SrcAt (w' : World) (p : Nat) (v : Value) : Prop :=
  w'.cell? ⟨p, 0, none⟩ = some v ∧ w'.cell? ⟨p, 1, none⟩ = some (.int .i64 0) ∧ w'.cell? ⟨p, 2, none⟩ = some (.int .u64 0) ∧ w'.frozen? ⟨p, 1, none⟩ = false ∧ w'.frozen? ⟨p, 2, none⟩ = false
theorem from_run (a : Option Addr) (m cap : Nat) (w : World) :
    Calls Try.prog 83 #[.slice a m cap] w fun e w' => e = .returned (.pointer (some ⟨w.heap.size, 0, none⟩)) ∧ SrcAt w' w.heap.size (.slice a m cap) ∧ Ext w w' := by
  have h : Calls Try.prog 83 #[.slice a m cap] w fun e w' => e = .returned (.pointer (some ⟨w.heap.size, 0, none⟩)) ∧ w' = w.alloc (.cells #[.slice a m cap, .int .i64 0, .int .u64 0] 135 (0, 0)) := by
    go_enter Try.func83, Try.ntmps83
    go_wp2
    all_goals go_ret
    all_goals exact ⟨rfl, rfl⟩
  refine h.mono fun e w' ⟨he, hw⟩ => ?_
  subst hw
  refine ⟨he, ⟨new_cell _ _ _ _ rfl, new_cell _ _ _ _ rfl, new_cell _ _ _ _ rfl, new_frozen _ _ _ _, new_frozen _ _ _ _⟩, ?_⟩
  unfold Ext; go_grown
theorem mass_in (b off cap m : Nat) (z : Int) (w : World) (hm : 0 < m)
    (hc : w.cell? ⟨b, off, none⟩ = some (.int .u8 z)) (hz0 : 0 ≤ z) (hz1 : z < 256) :
    Calls Try.prog 34 #[.slice (some ⟨b, off, none⟩) m cap] w fun e w' => ∃ t, e = .returned (.float .f32 (B (massOf (z % 8)) t)) ∧ Ext w w' := by
  go_enter Try.func34, Try.ntmps34
  go_wp2_with fail
  go_call (from_run _ m cap w) as e w' ⟨he, hs, hx⟩
  subst he
  go_wp2_with fail
  have hc' : w'.cell? ⟨b, off, none⟩ = some (.int .u8 z) := hx.cell hc
  obtain ⟨c0, c1, c2, d1, d2⟩ := hs
  go_call (pick_in w.heap.size b off cap m z w' hm c0 c1 c2 d1 d2 hc' hz0 hz1) as e w'' ⟨he, hb'⟩
  subst he
  have hx' : Ext w w'' := Below.trans hx hb'
  clear hb' hx hc' c0 c1 c2 d1 d2
  obtain ⟨t, n, hq⟩ := mass_quo (z % 8) w''
  go_wp2
  all_goals go_ret
  all_goals exact ⟨t, rfl, hx'.trans (Ext.drewN _ _)⟩
theorem mass_out (a : Option Addr) (cap : Nat) (w : World) :
    Calls Try.prog 34 #[.slice a 0 cap] w fun e w' => ∃ t, e = .returned (.float .f32 (B (massOf 3) t)) ∧ Ext w w' := by
  go_enter Try.func34, Try.ntmps34
  go_wp2_with fail
  go_call (from_run _ 0 cap w) as e w' ⟨he, hs, hx⟩
  subst he
  go_wp2_with fail
  obtain ⟨c0, c1, c2, d1, d2⟩ := hs
  go_call (pick_out w.heap.size cap a w' c0 c1 c2 d1 d2) as e w'' ⟨he, hb'⟩
  subst he
  have hx' : Ext w w'' := Below.trans hx hb'
  clear hb' hx c0 c1 c2 d1 d2
  obtain ⟨t, n, hq⟩ := mass_quo 3 w''
  have hq' : (binOp .quo 24 (.float .f32 (floatOfInt .f32 4)) (.float .f32 1073741824)).run Try.prog w'' = .ok (.float .f32 (B (massOf 3) t)) (w''.drewN n) := hq
  clear hq
  go_wp2
  all_goals go_ret
  all_goals exact ⟨t, rfl, hx'.trans (Ext.drewN _ _)⟩

theorem wd_mass (x : Int) (t : Nat) : Wd .f32 (B (massOf x) t) := wd_bin .quo (lit .f32 (floatOfInt .f32 (1 + x))) (c32 1073741824) t
noncomputable def shWM (W : World) : List AV → Option (Bool × AV)
  | [.c (.val v)] => some (good W v, .c (.fl .f32 (massOf (massAt (bytesOf W v)))))
  | _ => none
theorem wMass_ok (W : World) : ∀ args r, shWM W args = some (true, r) → ∀ σ vs w, Ext W w → RepF σ args vs → Gives Try.prog 34 vs.toArray w fun v w' => Rep σ r v ∧ Ext w w' := by
  intro args r h σ vs w hw ha
  unfold shWM at h
  split at h
  · rename_i v
    simp only [Option.some.injEq, Prod.mk.injEq] at h
    obtain ⟨hg, rfl⟩ := h
    cases ha with
    | cons e1 ha =>
      cases ha
      have e1' : _ = v := e1
      subst e1'
      have hB := (of_good hg).ext hw
      generalize bytesOf W _ = l at hB ⊢
      refine .inr ⟨enter_of Try.func34 (by kernel_rfl) (c := Try.f34.body.getD .skip) (by kernel_rfl), ?_⟩
      rcases hB with ⟨a, cap, rfl, rfl⟩ | ⟨b, off, cap, rfl, hl, hc⟩
      · exact (mass_out a cap w).mono fun e w' ⟨t, he, hx⟩ => ⟨_, he, ⟨t, rfl, wd_mass 3 t⟩, hx⟩
      · cases l with
        | nil => exact (mass_out _ cap w).mono fun e w' ⟨t, he, hx⟩ => ⟨_, he, ⟨t, rfl, wd_mass 3 t⟩, hx⟩
        | cons z l =>
          obtain ⟨h1, h2, h3⟩ := hc 0 (by simp)
          exact (mass_in b off cap (l.length + 1) z w (by omega) h1 h2 h3).mono fun e w' ⟨t, he, hx⟩ => ⟨_, he, ⟨t, rfl, wd_mass (z % 8) t⟩, hx⟩
  · cases h
noncomputable def wMass (W : World) : EntryW Try.prog (Ext W) := { f := 34, fn := shWM W, ok := wMass_ok W }
theorem massAt_range (l : List Int) : 0 ≤ massAt l ∧ massAt l < 8 := by
  cases l with
  | nil => exact ⟨by decide, by decide⟩
  | cons z l => exact ⟨Int.emod_nonneg _ (by decide), Int.emod_lt_of_pos _ (by decide)⟩
end Go.Proofs.Ytlpahmefebgdlaa.Fx
