/- Texts put together: Wb, Th, Ti. No condition. -/
import Derived.Test.YtlpahmefebgdlaaQm
import Derived.Handy
import Derived.Deep.RegionHeld3
/- The mass that a slice of bytes draws. No condition. -/
namespace Go.Proofs.Ytlpahmefebgdlaa.Fx
open Go Go.RowKit

theorem st0 {w : World} {p : Nat} {x y v : Value} (h : w.cell? ⟨p, 0, none⟩ = some v) : ((w.setCell ⟨p, 1, none⟩ x).setCell ⟨p, 2, none⟩ y).cell? ⟨p, 0, none⟩ = some v := by
  exact (World.cell?_setCell_other _ _ _ _ (by simp)).trans ((World.cell?_setCell_other _ _ _ _ (by simp)).trans h)
theorem st1 {w : World} {p : Nat} {x y v : Value} (h : w.cell? ⟨p, 1, none⟩ = some v) : ((w.setCell ⟨p, 1, none⟩ x).setCell ⟨p, 2, none⟩ y).cell? ⟨p, 1, none⟩ = some x := by
  exact (World.cell?_setCell_other _ _ _ _ (by simp)).trans (World.cell?_setCell_same _ _ _ h)
theorem next_in (p b off cap m : Nat) (z s : Int) (w : World) (hm : 0 < m)
    (h0 : w.cell? ⟨p, 0, none⟩ = some (.slice (some ⟨b, off, none⟩) m cap)) (h1 : w.cell? ⟨p, 1, none⟩ = some (.int .i64 0)) (h2 : w.cell? ⟨p, 2, none⟩ = some (.int .u64 s))
    (f1 : w.frozen? ⟨p, 1, none⟩ = false) (f2 : w.frozen? ⟨p, 2, none⟩ = false)
    (hc : w.cell? ⟨b, off, none⟩ = some (.int .u8 z)) (hz0 : 0 ≤ z) (hz1 : z < 256) :
    Calls Try.prog 124 #[.pointer (some ⟨p, 0, none⟩)] w fun e w' => e = .returned (.int .i64 z) ∧ Below p w w' := by
  go_enter Try.func124, Try.ntmps124
  go_wp2
  go_region_held3 (fun w' => w'.cell? ⟨p, 0, none⟩ = some (.slice (some ⟨b, off, none⟩) m cap) ∧ w'.cell? ⟨p, 1, none⟩ = some (.int .i64 0)) (go_keep) (fail)
  all_goals go_wp2
  go_region_held3 (fun w' => w'.cell? ⟨p, 0, none⟩ = some (.slice (some ⟨b, off, none⟩) m cap) ∧ w'.cell? ⟨p, 1, none⟩ = some (.int .i64 0) ∧ w'.cell? ⟨b, off, none⟩ = some (.int .u8 z)) (go_keep) (fail)
  all_goals go_wp2
  go_region_held3 (fun w' => w'.cell? ⟨p, 0, none⟩ = some (.slice (some ⟨b, off, none⟩) m cap) ∧ w'.cell? ⟨p, 1, none⟩ = some (.int .i64 1)) (first | exact ⟨st0 h0, st1 h1⟩ | go_keep) (fail)
  all_goals go_wp2
  all_goals go_ret
  refine ⟨?_, ?_⟩
  · exact congrArg (fun z => Ending.returned (Value.int .i64 z)) (wrap_byte hz0 hz1)
  · go_grown
    all_goals first | exact Nat.le_refl _ | trace_state
theorem next_out (p cap : Nat) (a : Option Addr) (w : World)
    (h0 : w.cell? ⟨p, 0, none⟩ = some (.slice a 0 cap)) (h1 : w.cell? ⟨p, 1, none⟩ = some (.int .i64 0)) (h2 : w.cell? ⟨p, 2, none⟩ = some (.int .u64 0))
    (f1 : w.frozen? ⟨p, 1, none⟩ = false) (f2 : w.frozen? ⟨p, 2, none⟩ = false) :
    Calls Try.prog 124 #[.pointer (some ⟨p, 0, none⟩)] w fun e w' => e = .returned (.int .i64 123) ∧ Below p w w' := by
  go_enter Try.func124, Try.ntmps124
  go_wp2
  go_region_held3 (fun w' => w'.cell? ⟨p, 0, none⟩ = some (.slice a 0 cap) ∧ w'.cell? ⟨p, 1, none⟩ = some (.int .i64 0)) (go_keep) (fail)
  all_goals go_wp2
  go_region_held3 (fun w' => w'.cell? ⟨p, 0, none⟩ = some (.slice a 0 cap) ∧ w'.cell? ⟨p, 1, none⟩ = some (.int .i64 1)) (first | exact ⟨st0 h0, st1 h1⟩ | go_keep) (fail)
  all_goals go_wp2
  all_goals go_ret
  refine ⟨?_, ?_⟩
  · exact congrArg (fun z => Ending.returned (Value.int .i64 z)) (show wrap64 (bits BinOp.and IntKind.u64 1312123 255) = 123 by decide +kernel)
  · go_grown
    all_goals first | exact Nat.le_refl _ | trace_state

theorem pick_in (p b off cap m : Nat) (z : Int) (w : World) (hm : 0 < m)
    (h0 : w.cell? ⟨p, 0, none⟩ = some (.slice (some ⟨b, off, none⟩) m cap)) (h1 : w.cell? ⟨p, 1, none⟩ = some (.int .i64 0)) (h2 : w.cell? ⟨p, 2, none⟩ = some (.int .u64 0))
    (f1 : w.frozen? ⟨p, 1, none⟩ = false) (f2 : w.frozen? ⟨p, 2, none⟩ = false)
    (hc : w.cell? ⟨b, off, none⟩ = some (.int .u8 z)) (hz0 : 0 ≤ z) (hz1 : z < 256) :
    Calls Try.prog 84 #[.pointer (some ⟨p, 0, none⟩), .int .i64 8] w fun e w' => e = .returned (.int .i64 (z % 8)) ∧ Below p w w' := by
  have H := Lib.hid (show z.tmod 8 = z % 8 from tmod_byte hz0)
  go_enter Try.func84, Try.ntmps84
  go_wp2_with fail
  go_call (next_in p b off cap m z 0 w hm h0 h1 h2 f1 f2 hc hz0 hz1) as e w' ⟨he, hb⟩
  subst he
  go_wp2
  all_goals go_ret
  refine ⟨?_, hb⟩
  first | rfl | exact congrArg (fun z => Ending.returned (Value.int .i64 z)) H.out | trace_state
theorem pick_out (p cap : Nat) (a : Option Addr) (w : World)
    (h0 : w.cell? ⟨p, 0, none⟩ = some (.slice a 0 cap)) (h1 : w.cell? ⟨p, 1, none⟩ = some (.int .i64 0)) (h2 : w.cell? ⟨p, 2, none⟩ = some (.int .u64 0))
    (f1 : w.frozen? ⟨p, 1, none⟩ = false) (f2 : w.frozen? ⟨p, 2, none⟩ = false) :
    Calls Try.prog 84 #[.pointer (some ⟨p, 0, none⟩), .int .i64 8] w fun e w' => e = .returned (.int .i64 3) ∧ Below p w w' := by
  go_enter Try.func84, Try.ntmps84
  go_wp2_with fail
  go_call (next_out p cap a w h0 h1 h2 f1 f2) as e w' ⟨he, hb⟩
  subst he
  go_wp2
  all_goals go_ret
  refine ⟨?_, hb⟩
  first | rfl | trace_state

/-- What the mass is drawn of. -/
def massAt (l : List Int) : Int := match l with
  | [] => 3
  | z :: _ => z % 8
def massOf (x : Int) : F32 := lit .f32 (floatOfInt .f32 (1 + x)) / c32 1073741824
theorem mass_quo (x : Int) (w : World) : ∃ t n, (binOp .quo 24 (.float .f32 (floatOfInt .f32 (1 + x))) (.float .f32 1073741824)).run Try.prog w = .ok (.float .f32 (B (massOf x) t)) (w.drewN n) := by
  obtain ⟨t, n, h⟩ := run_arith (P := Try.prog) .quo (by simp) (Is.lit (k := .f32) (floatOfInt .f32 (1 + x))) (Is.lit (k := .f32) 1073741824) w
  exact ⟨t, n, h⟩

theorem new_cell (w : World) (cs : Array Value) (t : TypeId) (i : Nat) {v : Value} (h : cs[i]? = some v) : (w.alloc (.cells cs t (0, 0))).cell? ⟨w.heap.size, i, none⟩ = some v := by
  have e1 : (w.alloc (.cells cs t (0, 0))).heap[w.heap.size]? = some (.cells cs t (0, 0)) := (MapKept.heap_alloc w _).1
  unfold World.cell?
  rw [e1]
  simp [h]
theorem new_frozen (w : World) (cs : Array Value) (t : TypeId) (i : Nat) : (w.alloc (.cells cs t (0, 0))).frozen? ⟨w.heap.size, i, none⟩ = false := by
  have e1 : (w.alloc (.cells cs t (0, 0))).heap[w.heap.size]? = some (.cells cs t (0, 0)) := (MapKept.heap_alloc w _).1
  unfold World.frozen?
  rw [e1]
  simp
/-- A new source over these bytes. -/
def SrcAt (w' : World) (p : Nat) (v : Value) : Prop :=
  w'.cell? ⟨p, 0, none⟩ = some v ∧ w'.cell? ⟨p, 1, none⟩ = some (.int .i64 0) ∧ w'.cell? ⟨p, 2, none⟩ = some (.int .u64 0) ∧ w'.frozen? ⟨p, 1, none⟩ = false ∧ w'.frozen? ⟨p, 2, none⟩ = false
theorem from_run (a : Option Addr) (m cap : Nat) (w : World) :
    Calls Try.prog 83 #[.slice a m cap] w fun e w' => e = .returned (.pointer (some ⟨w.heap.size, 0, none⟩)) ∧ SrcAt w' w.heap.size (.slice a m cap) ∧ Ext w w' := by
  have h : Calls Try.prog 83 #[.slice a m cap] w fun e w' => e = .returned (.pointer (some ⟨w.heap.size, 0, none⟩)) ∧ w' = w.alloc (.cells #[.slice a m cap, .int .i64 0, .int .u64 0] 135 (0, 0)) := by
    go_enter Try.func83, Try.ntmps83
    go_wp2
    all_goals go_ret
    all_goals exact ⟨rfl, rfl⟩
  refine h.mono fun e w' ⟨he, hw⟩ => ?_
  subst hw
  refine ⟨he, ⟨new_cell _ _ _ _ rfl, new_cell _ _ _ _ rfl, new_cell _ _ _ _ rfl, new_frozen _ _ _ _, new_frozen _ _ _ _⟩, ?_⟩
  unfold Ext; go_grown
theorem mass_in (b off cap m : Nat) (z : Int) (w : World) (hm : 0 < m)
    (hc : w.cell? ⟨b, off, none⟩ = some (.int .u8 z)) (hz0 : 0 ≤ z) (hz1 : z < 256) :
    Calls Try.prog 34 #[.slice (some ⟨b, off, none⟩) m cap] w fun e w' => ∃ t, e = .returned (.float .f32 (B (massOf (z % 8)) t)) ∧ Ext w w' := by
  go_enter Try.func34, Try.ntmps34
  go_wp2_with fail
  go_call (from_run _ m cap w) as e w' ⟨he, hs, hx⟩
  subst he
  go_wp2_with fail
  have hc' : w'.cell? ⟨b, off, none⟩ = some (.int .u8 z) := hx.cell hc
  obtain ⟨c0, c1, c2, d1, d2⟩ := hs
  go_call (pick_in w.heap.size b off cap m z w' hm c0 c1 c2 d1 d2 hc' hz0 hz1) as e w'' ⟨he, hb'⟩
  subst he
  have hx' : Ext w w'' := Below.trans hx hb'
  clear hb' hx hc' c0 c1 c2 d1 d2
  obtain ⟨t, n, hq⟩ := mass_quo (z % 8) w''
  go_wp2
  all_goals go_ret
  all_goals exact ⟨t, rfl, hx'.trans (Ext.drewN _ _)⟩
theorem mass_out (a : Option Addr) (cap : Nat) (w : World) :
    Calls Try.prog 34 #[.slice a 0 cap] w fun e w' => ∃ t, e = .returned (.float .f32 (B (massOf 3) t)) ∧ Ext w w' := by
  go_enter Try.func34, Try.ntmps34
  go_wp2_with fail
  go_call (from_run _ 0 cap w) as e w' ⟨he, hs, hx⟩
  subst he
  go_wp2_with fail
  obtain ⟨c0, c1, c2, d1, d2⟩ := hs
  go_call (pick_out w.heap.size cap a w' c0 c1 c2 d1 d2) as e w'' ⟨he, hb'⟩
  subst he
  have hx' : Ext w w'' := Below.trans hx hb'
  clear hb' hx c0 c1 c2 d1 d2
  obtain ⟨t, n, hq⟩ := mass_quo 3 w''
  have hq' : (binOp .quo 24 (.float .f32 (floatOfInt .f32 4)) (.float .f32 1073741824)).run Try.prog w'' = .ok (.float .f32 (B (massOf 3) t)) (w''.drewN n) := hq
  clear hq
  go_wp2
  all_goals go_ret
  all_goals exact ⟨t, rfl, hx'.trans (Ext.drewN _ _)⟩

theorem wd_mass (x : Int) (t : Nat) : Wd .f32 (B (massOf x) t) := wd_bin .quo (lit .f32 (floatOfInt .f32 (1 + x))) (c32 1073741824) t
noncomputable def shWM (W : World) : List AV → Option (Bool × AV)
  | [.c (.val v)] => some (good W v, .c (.fl .f32 (massOf (massAt (bytesOf W v)))))
  | _ => none
theorem wMass_ok (W : World) : ∀ args r, shWM W args = some (true, r) → ∀ σ vs w, Ext W w → RepF σ args vs → Gives Try.prog 34 vs.toArray w fun v w' => Rep σ r v ∧ Ext w w' := by
  intro args r h σ vs w hw ha
  unfold shWM at h
  split at h
  · rename_i v
    simp only [Option.some.injEq, Prod.mk.injEq] at h
    obtain ⟨hg, rfl⟩ := h
    cases ha with
    | cons e1 ha =>
      cases ha
      have e1' : _ = v := e1
      subst e1'
      have hB := (of_good hg).ext hw
      generalize bytesOf W _ = l at hB ⊢
      refine .inr ⟨enter_of Try.func34 (by kernel_rfl) (c := Try.f34.body.getD .skip) (by kernel_rfl), ?_⟩
      rcases hB with ⟨a, cap, rfl, rfl⟩ | ⟨b, off, cap, rfl, hl, hc⟩
      · exact (mass_out a cap w).mono fun e w' ⟨t, he, hx⟩ => ⟨_, he, ⟨t, rfl, wd_mass 3 t⟩, hx⟩
      · cases l with
        | nil => exact (mass_out _ cap w).mono fun e w' ⟨t, he, hx⟩ => ⟨_, he, ⟨t, rfl, wd_mass 3 t⟩, hx⟩
        | cons z l =>
          obtain ⟨h1, h2, h3⟩ := hc 0 (by simp)
          exact (mass_in b off cap (l.length + 1) z w (by omega) h1 h2 h3).mono fun e w' ⟨t, he, hx⟩ => ⟨_, he, ⟨t, rfl, wd_mass (z % 8) t⟩, hx⟩
  · cases h
noncomputable def wMass (W : World) : EntryW Try.prog (Ext W) := { f := 34, fn := shWM W, ok := wMass_ok W }
theorem massAt_range (l : List Int) : 0 ≤ massAt l ∧ massAt l < 8 := by
  cases l with
  | nil => exact ⟨by decide, by decide⟩
  | cons z l => exact ⟨Int.emod_nonneg _ (by decide), Int.emod_lt_of_pos _ (by decide)⟩
end Go.Proofs.Ytlpahmefebgdlaa.Fx
/- Contract: what a source reads, what it picks. No condition. -/
namespace Go.Proofs.Ytlpahmefebgdlaa.Fx
open Go Go.RowKit

/-- A source that has read t times. -/
def SrcG (w : World) (p : Nat) (v : Value) (t s : Int) : Prop :=
  w.cell? ⟨p, 0, none⟩ = some v ∧ w.cell? ⟨p, 1, none⟩ = some (.int .i64 t) ∧ w.cell? ⟨p, 2, none⟩ = some (.int .u64 s) ∧ w.frozen? ⟨p, 1, none⟩ = false ∧ w.frozen? ⟨p, 2, none⟩ = false
theorem st2 {w : World} {p : Nat} {x y v : Value} (h : w.cell? ⟨p, 2, none⟩ = some v) : ((w.setCell ⟨p, 1, none⟩ x).setCell ⟨p, 2, none⟩ y).cell? ⟨p, 2, none⟩ = some y :=
  World.cell?_setCell_same _ _ _ ((World.cell?_setCell_other _ _ _ _ (by simp)).trans h)
theorem st_all {w : World} {p : Nat} {v : Value} {t s t' s' : Int} (h : SrcG w p v t s) : SrcG ((w.setCell ⟨p, 1, none⟩ (.int .i64 t')).setCell ⟨p, 2, none⟩ (.int .u64 s')) p v t' s' :=
  ⟨st0 h.1, st1 h.2.1, st2 h.2.2.1, by rw [World.frozen?_setCell, World.frozen?_setCell]; exact h.2.2.2.1, by rw [World.frozen?_setCell, World.frozen?_setCell]; exact h.2.2.2.2⟩
/-- Another block than p is as it was. -/
def Only (p : Nat) (w w' : World) : Prop := ∀ k, k ≠ p → w'.heap[k]? = w.heap[k]?
theorem Only.cell {p : Nat} {w w' : World} (h : Only p w w') {a : Addr} (ha : a.block ≠ p) : w'.cell? a = w.cell? a := by
  unfold World.cell?; rw [h _ ha]
theorem Only.frozen {p : Nat} {w w' : World} (h : Only p w w') {a : Addr} (ha : a.block ≠ p) : w'.frozen? a = w.frozen? a := by
  unfold World.frozen?; rw [h _ ha]
def seedO (s : Int) : Int := IntKind.u64.wrap (IntKind.u64.wrap (IntKind.u64.wrap (s * 6364136223846793005)) + 1442695040888963407)
def seedI (s z : Int) : Int := IntKind.u64.wrap (IntKind.u64.wrap (IntKind.u64.wrap (s * 6364136223846793005) + z) + 1442695040888963407)
def outV (s : Int) : Int := wrap64 (bits BinOp.and IntKind.u64 (s / 1099511627776) 255)
theorem next_out0 (p m cap : Nat) (a : Option Addr) (s : Int) (w : World) (hm : (m : Int) ≤ 0) (h : SrcG w p (.slice a m cap) 0 s) :
    Calls Try.prog 124 #[.pointer (some ⟨p, 0, none⟩)] w fun e w' => e = .returned (.int .i64 (outV (seedO s))) ∧ SrcG w' p (.slice a m cap) 1 (seedO s) ∧ Below p w w' ∧ Only p w w' := by
  have hm1 : ¬ ((0 : Int) < (m : Int)) := by omega
  have hm2 : ¬ ((1 : Int) ≤ (m : Int)) := by omega
  have hs := Lib.hid (st_all (t' := 1) (s' := seedO s) h)
  obtain ⟨h0, h1, h2, f1, f2⟩ := h
  go_enter Try.func124, Try.ntmps124
  go_wp2
  go_region_held3 (fun w' => w'.cell? ⟨p, 0, none⟩ = some (.slice a m cap) ∧ w'.cell? ⟨p, 1, none⟩ = some (.int .i64 0)) (go_keep) (fail)
  all_goals go_wp2
  go_region_held3 (fun w' => w'.cell? ⟨p, 0, none⟩ = some (.slice a m cap) ∧ w'.cell? ⟨p, 1, none⟩ = some (.int .i64 1)) (first | exact ⟨st0 h0, st1 h1⟩ | go_keep) (fail)
  all_goals go_wp2
  all_goals go_ret
  refine ⟨rfl, hs.out, ?_, fun k hk => (Below.heap_setCell _ _ _ _ hk).trans (Below.heap_setCell _ _ _ _ hk)⟩
  go_grown
  all_goals first | exact Nat.le_refl _ | trace_state
theorem next_in0 (p b off cap m : Nat) (z s : Int) (w : World) (hm : (0 : Int) < (m : Int)) (h : SrcG w p (.slice (some ⟨b, off, none⟩) m cap) 0 s)
    (hc : w.cell? ⟨b, off, none⟩ = some (.int .u8 z)) (hz0 : 0 ≤ z) (hz1 : z < 256) :
    Calls Try.prog 124 #[.pointer (some ⟨p, 0, none⟩)] w fun e w' => e = .returned (.int .i64 z) ∧ SrcG w' p (.slice (some ⟨b, off, none⟩) m cap) 1 (seedI s z) ∧ Below p w w' ∧ Only p w w' := by
  have hm2 : ((1 : Int) ≤ (m : Int)) := by omega
  have hs := Lib.hid (st_all (t' := 1) (s' := seedI s z) h)
  obtain ⟨h0, h1, h2, f1, f2⟩ := h
  go_enter Try.func124, Try.ntmps124
  go_wp2
  go_region_held3 (fun w' => w'.cell? ⟨p, 0, none⟩ = some (.slice (some ⟨b, off, none⟩) m cap) ∧ w'.cell? ⟨p, 1, none⟩ = some (.int .i64 0)) (go_keep) (fail)
  all_goals go_wp2
  go_region_held3 (fun w' => w'.cell? ⟨p, 0, none⟩ = some (.slice (some ⟨b, off, none⟩) m cap) ∧ w'.cell? ⟨p, 1, none⟩ = some (.int .i64 0) ∧ w'.cell? ⟨b, off, none⟩ = some (.int .u8 z)) (go_keep) (fail)
  all_goals go_wp2
  go_region_held3 (fun w' => w'.cell? ⟨p, 0, none⟩ = some (.slice (some ⟨b, off, none⟩) m cap) ∧ w'.cell? ⟨p, 1, none⟩ = some (.int .i64 1)) (first | exact ⟨st0 h0, st1 h1⟩ | go_keep) (fail)
  all_goals go_wp2
  all_goals go_ret
  refine ⟨?_, hs.out, ?_, fun k hk => (Below.heap_setCell _ _ _ _ hk).trans (Below.heap_setCell _ _ _ _ hk)⟩
  · exact congrArg (fun z => Ending.returned (Value.int .i64 z)) (wrap_byte hz0 hz1)
  · go_grown
    all_goals first | exact Nat.le_refl _ | trace_state
theorem next_out1 (p m cap : Nat) (a : Option Addr) (s : Int) (w : World) (hm : (m : Int) ≤ 1) (h : SrcG w p (.slice a m cap) 1 s) :
    Calls Try.prog 124 #[.pointer (some ⟨p, 0, none⟩)] w fun e w' => e = .returned (.int .i64 (outV (seedO s))) ∧ SrcG w' p (.slice a m cap) 2 (seedO s) ∧ Below p w w' ∧ Only p w w' := by
  have hm1 : ¬ ((1 : Int) < (m : Int)) := by omega
  have hm2 : ¬ ((2 : Int) ≤ (m : Int)) := by omega
  have hs := Lib.hid (st_all (t' := 2) (s' := seedO s) h)
  obtain ⟨h0, h1, h2, f1, f2⟩ := h
  go_enter Try.func124, Try.ntmps124
  go_wp2
  go_region_held3 (fun w' => w'.cell? ⟨p, 0, none⟩ = some (.slice a m cap) ∧ w'.cell? ⟨p, 1, none⟩ = some (.int .i64 1)) (go_keep) (fail)
  all_goals go_wp2
  go_region_held3 (fun w' => w'.cell? ⟨p, 0, none⟩ = some (.slice a m cap) ∧ w'.cell? ⟨p, 1, none⟩ = some (.int .i64 2)) (first | exact ⟨st0 h0, st1 h1⟩ | go_keep) (fail)
  all_goals go_wp2
  all_goals go_ret
  refine ⟨rfl, hs.out, ?_, fun k hk => (Below.heap_setCell _ _ _ _ hk).trans (Below.heap_setCell _ _ _ _ hk)⟩
  go_grown
  all_goals first | exact Nat.le_refl _ | trace_state
theorem next_in1 (p b off cap m : Nat) (z s : Int) (w : World) (hm : (1 : Int) < (m : Int)) (h : SrcG w p (.slice (some ⟨b, off, none⟩) m cap) 1 s)
    (hc : w.cell? ⟨b, off + 1, none⟩ = some (.int .u8 z)) (hz0 : 0 ≤ z) (hz1 : z < 256) :
    Calls Try.prog 124 #[.pointer (some ⟨p, 0, none⟩)] w fun e w' => e = .returned (.int .i64 z) ∧ SrcG w' p (.slice (some ⟨b, off, none⟩) m cap) 2 (seedI s z) ∧ Below p w w' ∧ Only p w w' := by
  have hm2 : ((2 : Int) ≤ (m : Int)) := by omega
  have hs := Lib.hid (st_all (t' := 2) (s' := seedI s z) h)
  obtain ⟨h0, h1, h2, f1, f2⟩ := h
  go_enter Try.func124, Try.ntmps124
  go_wp2
  go_region_held3 (fun w' => w'.cell? ⟨p, 0, none⟩ = some (.slice (some ⟨b, off, none⟩) m cap) ∧ w'.cell? ⟨p, 1, none⟩ = some (.int .i64 1)) (go_keep) (fail)
  all_goals go_wp2
  go_region_held3 (fun w' => w'.cell? ⟨p, 0, none⟩ = some (.slice (some ⟨b, off, none⟩) m cap) ∧ w'.cell? ⟨p, 1, none⟩ = some (.int .i64 1) ∧ w'.cell? ⟨b, off + 1, none⟩ = some (.int .u8 z)) (go_keep) (fail)
  all_goals go_wp2
  go_region_held3 (fun w' => w'.cell? ⟨p, 0, none⟩ = some (.slice (some ⟨b, off, none⟩) m cap) ∧ w'.cell? ⟨p, 1, none⟩ = some (.int .i64 2)) (first | exact ⟨st0 h0, st1 h1⟩ | go_keep) (fail)
  all_goals go_wp2
  all_goals go_ret
  refine ⟨?_, hs.out, ?_, fun k hk => (Below.heap_setCell _ _ _ _ hk).trans (Below.heap_setCell _ _ _ _ hk)⟩
  · exact congrArg (fun z => Ending.returned (Value.int .i64 z)) (wrap_byte hz0 hz1)
  · go_grown
    all_goals first | exact Nat.le_refl _ | trace_state
theorem next_out2 (p m cap : Nat) (a : Option Addr) (s : Int) (w : World) (hm : (m : Int) ≤ 2) (h : SrcG w p (.slice a m cap) 2 s) :
    Calls Try.prog 124 #[.pointer (some ⟨p, 0, none⟩)] w fun e w' => e = .returned (.int .i64 (outV (seedO s))) ∧ SrcG w' p (.slice a m cap) 3 (seedO s) ∧ Below p w w' ∧ Only p w w' := by
  have hm1 : ¬ ((2 : Int) < (m : Int)) := by omega
  have hm2 : ¬ ((3 : Int) ≤ (m : Int)) := by omega
  have hs := Lib.hid (st_all (t' := 3) (s' := seedO s) h)
  obtain ⟨h0, h1, h2, f1, f2⟩ := h
  go_enter Try.func124, Try.ntmps124
  go_wp2
  go_region_held3 (fun w' => w'.cell? ⟨p, 0, none⟩ = some (.slice a m cap) ∧ w'.cell? ⟨p, 1, none⟩ = some (.int .i64 2)) (go_keep) (fail)
  all_goals go_wp2
  go_region_held3 (fun w' => w'.cell? ⟨p, 0, none⟩ = some (.slice a m cap) ∧ w'.cell? ⟨p, 1, none⟩ = some (.int .i64 3)) (first | exact ⟨st0 h0, st1 h1⟩ | go_keep) (fail)
  all_goals go_wp2
  all_goals go_ret
  refine ⟨rfl, hs.out, ?_, fun k hk => (Below.heap_setCell _ _ _ _ hk).trans (Below.heap_setCell _ _ _ _ hk)⟩
  go_grown
  all_goals first | exact Nat.le_refl _ | trace_state
theorem next_in2 (p b off cap m : Nat) (z s : Int) (w : World) (hm : (2 : Int) < (m : Int)) (h : SrcG w p (.slice (some ⟨b, off, none⟩) m cap) 2 s)
    (hc : w.cell? ⟨b, off + 2, none⟩ = some (.int .u8 z)) (hz0 : 0 ≤ z) (hz1 : z < 256) :
    Calls Try.prog 124 #[.pointer (some ⟨p, 0, none⟩)] w fun e w' => e = .returned (.int .i64 z) ∧ SrcG w' p (.slice (some ⟨b, off, none⟩) m cap) 3 (seedI s z) ∧ Below p w w' ∧ Only p w w' := by
  have hm2 : ((3 : Int) ≤ (m : Int)) := by omega
  have hs := Lib.hid (st_all (t' := 3) (s' := seedI s z) h)
  obtain ⟨h0, h1, h2, f1, f2⟩ := h
  go_enter Try.func124, Try.ntmps124
  go_wp2
  go_region_held3 (fun w' => w'.cell? ⟨p, 0, none⟩ = some (.slice (some ⟨b, off, none⟩) m cap) ∧ w'.cell? ⟨p, 1, none⟩ = some (.int .i64 2)) (go_keep) (fail)
  all_goals go_wp2
  go_region_held3 (fun w' => w'.cell? ⟨p, 0, none⟩ = some (.slice (some ⟨b, off, none⟩) m cap) ∧ w'.cell? ⟨p, 1, none⟩ = some (.int .i64 2) ∧ w'.cell? ⟨b, off + 2, none⟩ = some (.int .u8 z)) (go_keep) (fail)
  all_goals go_wp2
  go_region_held3 (fun w' => w'.cell? ⟨p, 0, none⟩ = some (.slice (some ⟨b, off, none⟩) m cap) ∧ w'.cell? ⟨p, 1, none⟩ = some (.int .i64 3)) (first | exact ⟨st0 h0, st1 h1⟩ | go_keep) (fail)
  all_goals go_wp2
  all_goals go_ret
  refine ⟨?_, hs.out, ?_, fun k hk => (Below.heap_setCell _ _ _ _ hk).trans (Below.heap_setCell _ _ _ _ hk)⟩
  · exact congrArg (fun z => Ending.returned (Value.int .i64 z)) (wrap_byte hz0 hz1)
  · go_grown
    all_goals first | exact Nat.le_refl _ | trace_state
theorem next_out3 (p m cap : Nat) (a : Option Addr) (s : Int) (w : World) (hm : (m : Int) ≤ 3) (h : SrcG w p (.slice a m cap) 3 s) :
    Calls Try.prog 124 #[.pointer (some ⟨p, 0, none⟩)] w fun e w' => e = .returned (.int .i64 (outV (seedO s))) ∧ SrcG w' p (.slice a m cap) 4 (seedO s) ∧ Below p w w' ∧ Only p w w' := by
  have hm1 : ¬ ((3 : Int) < (m : Int)) := by omega
  have hm2 : ¬ ((4 : Int) ≤ (m : Int)) := by omega
  have hs := Lib.hid (st_all (t' := 4) (s' := seedO s) h)
  obtain ⟨h0, h1, h2, f1, f2⟩ := h
  go_enter Try.func124, Try.ntmps124
  go_wp2
  go_region_held3 (fun w' => w'.cell? ⟨p, 0, none⟩ = some (.slice a m cap) ∧ w'.cell? ⟨p, 1, none⟩ = some (.int .i64 3)) (go_keep) (fail)
  all_goals go_wp2
  go_region_held3 (fun w' => w'.cell? ⟨p, 0, none⟩ = some (.slice a m cap) ∧ w'.cell? ⟨p, 1, none⟩ = some (.int .i64 4)) (first | exact ⟨st0 h0, st1 h1⟩ | go_keep) (fail)
  all_goals go_wp2
  all_goals go_ret
  refine ⟨rfl, hs.out, ?_, fun k hk => (Below.heap_setCell _ _ _ _ hk).trans (Below.heap_setCell _ _ _ _ hk)⟩
  go_grown
  all_goals first | exact Nat.le_refl _ | trace_state
theorem next_in3 (p b off cap m : Nat) (z s : Int) (w : World) (hm : (3 : Int) < (m : Int)) (h : SrcG w p (.slice (some ⟨b, off, none⟩) m cap) 3 s)
    (hc : w.cell? ⟨b, off + 3, none⟩ = some (.int .u8 z)) (hz0 : 0 ≤ z) (hz1 : z < 256) :
    Calls Try.prog 124 #[.pointer (some ⟨p, 0, none⟩)] w fun e w' => e = .returned (.int .i64 z) ∧ SrcG w' p (.slice (some ⟨b, off, none⟩) m cap) 4 (seedI s z) ∧ Below p w w' ∧ Only p w w' := by
  have hm2 : ((4 : Int) ≤ (m : Int)) := by omega
  have hs := Lib.hid (st_all (t' := 4) (s' := seedI s z) h)
  obtain ⟨h0, h1, h2, f1, f2⟩ := h
  go_enter Try.func124, Try.ntmps124
  go_wp2
  go_region_held3 (fun w' => w'.cell? ⟨p, 0, none⟩ = some (.slice (some ⟨b, off, none⟩) m cap) ∧ w'.cell? ⟨p, 1, none⟩ = some (.int .i64 3)) (go_keep) (fail)
  all_goals go_wp2
  go_region_held3 (fun w' => w'.cell? ⟨p, 0, none⟩ = some (.slice (some ⟨b, off, none⟩) m cap) ∧ w'.cell? ⟨p, 1, none⟩ = some (.int .i64 3) ∧ w'.cell? ⟨b, off + 3, none⟩ = some (.int .u8 z)) (go_keep) (fail)
  all_goals go_wp2
  go_region_held3 (fun w' => w'.cell? ⟨p, 0, none⟩ = some (.slice (some ⟨b, off, none⟩) m cap) ∧ w'.cell? ⟨p, 1, none⟩ = some (.int .i64 4)) (first | exact ⟨st0 h0, st1 h1⟩ | go_keep) (fail)
  all_goals go_wp2
  all_goals go_ret
  refine ⟨?_, hs.out, ?_, fun k hk => (Below.heap_setCell _ _ _ _ hk).trans (Below.heap_setCell _ _ _ _ hk)⟩
  · exact congrArg (fun z => Ending.returned (Value.int .i64 z)) (wrap_byte hz0 hz1)
  · go_grown
    all_goals first | exact Nat.le_refl _ | trace_state
theorem pick33 (p : Nat) (v : Value) (z t s : Int) (w : World) (hz : 0 ≤ z) (H : Calls Try.prog 124 #[.pointer (some ⟨p, 0, none⟩)] w fun e w' => e = .returned (.int .i64 z) ∧ SrcG w' p v t s ∧ Below p w w' ∧ Only p w w') :
    Calls Try.prog 84 #[.pointer (some ⟨p, 0, none⟩), .int .i64 33] w fun e w' => e = .returned (.int .i64 (z % 33)) ∧ SrcG w' p v t s ∧ Below p w w' ∧ Only p w w' := by
  have HH := Lib.hid (show z.tmod 33 = z % 33 from Int.tmod_eq_emod_of_nonneg hz)
  go_enter Try.func84, Try.ntmps84
  go_wp2_with fail
  go_call H as e w' ⟨he, hb⟩
  subst he
  go_wp2
  all_goals go_ret
  refine ⟨?_, hb⟩
  first | rfl | exact congrArg (fun z => Ending.returned (Value.int .i64 z)) HH.out | trace_state
theorem pick17 (p : Nat) (v : Value) (z t s : Int) (w : World) (hz : 0 ≤ z) (H : Calls Try.prog 124 #[.pointer (some ⟨p, 0, none⟩)] w fun e w' => e = .returned (.int .i64 z) ∧ SrcG w' p v t s ∧ Below p w w' ∧ Only p w w') :
    Calls Try.prog 84 #[.pointer (some ⟨p, 0, none⟩), .int .i64 17] w fun e w' => e = .returned (.int .i64 (z % 17)) ∧ SrcG w' p v t s ∧ Below p w w' ∧ Only p w w' := by
  have HH := Lib.hid (show z.tmod 17 = z % 17 from Int.tmod_eq_emod_of_nonneg hz)
  go_enter Try.func84, Try.ntmps84
  go_wp2_with fail
  go_call H as e w' ⟨he, hb⟩
  subst he
  go_wp2
  all_goals go_ret
  refine ⟨?_, hb⟩
  first | rfl | exact congrArg (fun z => Ending.returned (Value.int .i64 z)) HH.out | trace_state
def srcV (l : List Int) (t : Nat) (s : Int) : Int := if t < l.length then l.getD t 0 else outV (seedO s)
def srcS (l : List Int) (t : Nat) (s : Int) : Int := if t < l.length then seedI s (l.getD t 0) else seedO s
theorem next_t0 {w : World} {p : Nat} {v : Value} {l : List Int} (s : Int) (hb : BytesAt w v l) (h : SrcG w p v 0 s) :
    Calls Try.prog 124 #[.pointer (some ⟨p, 0, none⟩)] w fun e w' => e = .returned (.int .i64 (srcV l 0 s)) ∧ SrcG w' p v 1 (srcS l 0 s) ∧ Below p w w' ∧ Only p w w' := by
  unfold srcV srcS
  rcases hb with ⟨a, cap, rfl, rfl⟩ | ⟨b, off, cap, rfl, hl, hc⟩
  · rw [if_neg (by simp), if_neg (by simp)]
    exact next_out0 p 0 cap a s w (by decide) h
  · by_cases hlt : 0 < l.length
    · rw [if_pos hlt, if_pos hlt]
      obtain ⟨h1, h2, h3⟩ := hc 0 hlt
      exact next_in0 p b off cap l.length (l.getD 0 0) s w (by omega) h h1 h2 h3
    · rw [if_neg hlt, if_neg hlt]
      exact next_out0 p l.length cap _ s w (by omega) h
theorem next_t1 {w : World} {p : Nat} {v : Value} {l : List Int} (s : Int) (hb : BytesAt w v l) (h : SrcG w p v 1 s) :
    Calls Try.prog 124 #[.pointer (some ⟨p, 0, none⟩)] w fun e w' => e = .returned (.int .i64 (srcV l 1 s)) ∧ SrcG w' p v 2 (srcS l 1 s) ∧ Below p w w' ∧ Only p w w' := by
  unfold srcV srcS
  rcases hb with ⟨a, cap, rfl, rfl⟩ | ⟨b, off, cap, rfl, hl, hc⟩
  · rw [if_neg (by simp), if_neg (by simp)]
    exact next_out1 p 0 cap a s w (by decide) h
  · by_cases hlt : 1 < l.length
    · rw [if_pos hlt, if_pos hlt]
      obtain ⟨h1, h2, h3⟩ := hc 1 hlt
      exact next_in1 p b off cap l.length (l.getD 1 0) s w (by omega) h h1 h2 h3
    · rw [if_neg hlt, if_neg hlt]
      exact next_out1 p l.length cap _ s w (by omega) h
theorem next_t2 {w : World} {p : Nat} {v : Value} {l : List Int} (s : Int) (hb : BytesAt w v l) (h : SrcG w p v 2 s) :
    Calls Try.prog 124 #[.pointer (some ⟨p, 0, none⟩)] w fun e w' => e = .returned (.int .i64 (srcV l 2 s)) ∧ SrcG w' p v 3 (srcS l 2 s) ∧ Below p w w' ∧ Only p w w' := by
  unfold srcV srcS
  rcases hb with ⟨a, cap, rfl, rfl⟩ | ⟨b, off, cap, rfl, hl, hc⟩
  · rw [if_neg (by simp), if_neg (by simp)]
    exact next_out2 p 0 cap a s w (by decide) h
  · by_cases hlt : 2 < l.length
    · rw [if_pos hlt, if_pos hlt]
      obtain ⟨h1, h2, h3⟩ := hc 2 hlt
      exact next_in2 p b off cap l.length (l.getD 2 0) s w (by omega) h h1 h2 h3
    · rw [if_neg hlt, if_neg hlt]
      exact next_out2 p l.length cap _ s w (by omega) h
theorem next_t3 {w : World} {p : Nat} {v : Value} {l : List Int} (s : Int) (hb : BytesAt w v l) (h : SrcG w p v 3 s) :
    Calls Try.prog 124 #[.pointer (some ⟨p, 0, none⟩)] w fun e w' => e = .returned (.int .i64 (srcV l 3 s)) ∧ SrcG w' p v 4 (srcS l 3 s) ∧ Below p w w' ∧ Only p w w' := by
  unfold srcV srcS
  rcases hb with ⟨a, cap, rfl, rfl⟩ | ⟨b, off, cap, rfl, hl, hc⟩
  · rw [if_neg (by simp), if_neg (by simp)]
    exact next_out3 p 0 cap a s w (by decide) h
  · by_cases hlt : 3 < l.length
    · rw [if_pos hlt, if_pos hlt]
      obtain ⟨h1, h2, h3⟩ := hc 3 hlt
      exact next_in3 p b off cap l.length (l.getD 3 0) s w (by omega) h h1 h2 h3
    · rw [if_neg hlt, if_neg hlt]
      exact next_out3 p l.length cap _ s w (by omega) h
theorem outV_nonneg (s : Int) : 0 ≤ outV s := by
  unfold outV
  have h : ∃ n : Nat, n ≤ 255 ∧ bits BinOp.and IntKind.u64 (s / 1099511627776) 255 = (n : Int) := by
    generalize s / 1099511627776 = x
    refine ⟨(BitVec.ofInt 64 x &&& BitVec.ofInt 64 255).toNat, ?_, ?_⟩
    · rw [BitVec.toNat_and]
      exact Nat.and_le_right
    · have h2 : (BitVec.ofInt 64 x &&& BitVec.ofInt 64 255).toNat ≤ 255 := by
        rw [BitVec.toNat_and]
        exact Nat.and_le_right
      show IntKind.u64.wrap (((BitVec.ofInt 64 x &&& BitVec.ofInt 64 255).toNat : Nat) : Int) = _
      rw [Go.IntWalk.u64_in _ (by omega)]
  obtain ⟨n, h1, h2⟩ := h
  rw [h2]
  unfold wrap64
  omega
theorem srcV_nonneg {W : World} {v : Value} {l : List Int} (hb : BytesAt W v l) (t : Nat) (s : Int) : 0 ≤ srcV l t s := by
  unfold srcV
  split
  · exact (hb.range t).1
  · exact outV_nonneg _
end Go.Proofs.Ytlpahmefebgdlaa.Fx
/- Contract: R8Ship. No condition. -/
namespace Go.Proofs.Ytlpahmefebgdlaa.Fx
open Go Go.RowKit

theorem SrcG.ext {w w' : World} {p : Nat} {v : Value} {t s : Int} (h : SrcG w p v t s) (hx : Ext w w') : SrcG w' p v t s := by
  obtain ⟨h0, h1, h2, f1, f2⟩ := h
  have hlt := World.block_lt_of_cell? w _ h0
  exact ⟨hx.cell h0, hx.cell h1, hx.cell h2, by unfold World.frozen? at f1 ⊢; rw [hx.block p hlt]; exact f1, by unfold World.frozen? at f2 ⊢; rw [hx.block p hlt]; exact f2⟩
def drQ (z n : Int) : F32 := lit .f32 (floatOfInt .f32 (z - n)) / c32 1090519040
theorem dr_quo (z n : Int) (w : World) : ∃ t k, (binOp .quo 24 (.float .f32 (floatOfInt .f32 (z - n))) (.float .f32 1090519040)).run Try.prog w = .ok (.float .f32 (B (drQ z n) t)) (w.drewN k) := by
  obtain ⟨t, k, h⟩ := run_arith (P := Try.prog) .quo (by simp) (Is.lit (k := .f32) (floatOfInt .f32 (z - n))) (Is.lit (k := .f32) 1090519040) w
  exact ⟨t, k, h⟩
theorem Ext.frozen {W w : World} (h : Ext W w) {a : Addr} (hb : a.block < W.heap.size) : w.frozen? a = W.frozen? a := by
  unfold World.frozen?
  rw [h.block a.block hb]
theorem size_new (w : World) (o : Obj) : w.heap.size < (w.alloc o).heap.size := by
  rw [World.size_alloc]; exact Nat.lt_succ_self _
theorem only_set (w : World) (h : Nat) (a b : Value) : Only h w ((w.setCell ⟨h, 0, none⟩ a).setCell ⟨h, 1, none⟩ b) :=
  fun _ hk => (Below.heap_setCell _ _ _ _ hk).trans (Below.heap_setCell _ _ _ _ hk)
theorem SrcG.only {w w' : World} {p h : Nat} {v : Value} {t s : Int} (g : SrcG w p v t s) (ho : Only h w w') (hne : p ≠ h) : SrcG w' p v t s :=
  ⟨(ho.cell hne).trans g.1, (ho.cell hne).trans g.2.1, (ho.cell hne).trans g.2.2.1, (ho.frozen hne).trans g.2.2.2.1, (ho.frozen hne).trans g.2.2.2.2⟩
theorem below_set (w : World) (h B : Nat) (a b : Value) (hB : B ≤ h) : Below B w ((w.setCell ⟨h, 0, none⟩ a).setCell ⟨h, 1, none⟩ b) :=
  ⟨rfl, rfl, rfl, by simp, fun k hk => only_set w h a b k (by omega)⟩
theorem run_store_complex {P : Program} {w : World} {a : Addr} {m : Mode} (k : FloatKind) (x y : Nat) : (store a (.complex k x y) m).run P w = stored P w a (.complex k x y) m := run_store P w a _ m rfl
attribute [local go_sem] run_store_complex
theorem draw_run {W w : World} {p : Nat} {v : Value} {l : List Int} (hW : Ext W w) (hb : BytesAt W v l) (hp : W.heap.size ≤ p) (h : SrcG w p v 0 0) :
    Calls Try.prog 99 #[.pointer (some ⟨p, 0, none⟩)] w fun e w' => ∃ t1 t2 t3 t4, e = .returned (.agg #[.complex .f32 (B (drQ (srcV l 0 0 % 33) 16) t1) (B (drQ (srcV l 1 (srcS l 0 0) % 33) 16) t2),
      .complex .f32 (B (drQ (srcV l 2 (srcS l 1 (srcS l 0 0)) % 17) 8) t3) (B (drQ (srcV l 3 (srcS l 2 (srcS l 1 (srcS l 0 0))) % 17) 8) t4)]) ∧ Ext W w' := by
  have hlt0 := World.block_lt_of_cell? w _ h.1
  go_enter Try.func99, Try.ntmps99
  go_wp2_with fail
  have e1 := Ext.alloc w (.cells #[.complex .f32 0 0, .complex .f32 0 0] 38 (0, 0))
  go_call (pick33 p v _ _ _ _ (srcV_nonneg (hb.ext hW) 0 0) (next_t0 0 ((hb.ext hW).ext e1) (h.ext e1))) as e w1 ⟨he, g1, b1, o1⟩
  subst he
  have x1 : Ext W w1 := Below.trans (hW.trans e1) (Below.mono b1 hp)
  have n1 : w.heap.size < w1.heap.size := Nat.lt_of_lt_of_le (size_new w _) b1.size
  have z0 : w1.cell? ⟨w.heap.size, 0, none⟩ = some (.complex .f32 0 0) := (o1.cell (by show w.heap.size ≠ p; omega)).trans (new_cell w _ _ 0 rfl)
  have z1 : w1.cell? ⟨w.heap.size, 1, none⟩ = some (.complex .f32 0 0) := (o1.cell (by show w.heap.size ≠ p; omega)).trans (new_cell w _ _ 1 rfl)
  have y0 : w1.frozen? ⟨w.heap.size, 0, none⟩ = false := (o1.frozen (by show w.heap.size ≠ p; omega)).trans (new_frozen w _ _ 0)
  have y1 : w1.frozen? ⟨w.heap.size, 1, none⟩ = false := (o1.frozen (by show w.heap.size ≠ p; omega)).trans (new_frozen w _ _ 1)
  obtain ⟨t1, k1, q1⟩ := dr_quo (srcV l 0 0 % 33) 16 w1
  go_wp2_with fail
  have e2 := Ext.drewN w1 k1
  go_call (pick33 p v _ _ _ _ (srcV_nonneg ((hb.ext x1).ext e2) 1 _) (next_t1 _ ((hb.ext x1).ext e2) (g1.ext e2))) as e w2 ⟨he, g2, b2, o2⟩
  subst he
  have x2 : Ext W w2 := Below.trans (x1.trans e2) (Below.mono b2 hp)
  have n2 : w1.heap.size ≤ w2.heap.size := b2.size
  replace z0 : w2.cell? ⟨w.heap.size, 0, none⟩ = some (.complex .f32 0 0) := (o2.cell (by show w.heap.size ≠ p; omega)).trans z0
  replace z1 : w2.cell? ⟨w.heap.size, 1, none⟩ = some (.complex .f32 0 0) := (o2.cell (by show w.heap.size ≠ p; omega)).trans z1
  replace y0 : w2.frozen? ⟨w.heap.size, 0, none⟩ = false := (o2.frozen (by show w.heap.size ≠ p; omega)).trans y0
  replace y1 : w2.frozen? ⟨w.heap.size, 1, none⟩ = false := (o2.frozen (by show w.heap.size ≠ p; omega)).trans y1
  obtain ⟨t2, k2, q2⟩ := dr_quo (srcV l 1 (srcS l 0 0) % 33) 16 w2
  have c0 : ((w2.drewN k2).alloc (.cells #[.complex .f32 0 0, .complex .f32 0 0] 38 (0, 0))).cell? ⟨w2.heap.size, 0, none⟩ = some (.complex .f32 0 0) := new_cell (w2.drewN k2) _ _ 0 rfl
  have c1 : ((w2.drewN k2).alloc (.cells #[.complex .f32 0 0, .complex .f32 0 0] 38 (0, 0))).cell? ⟨w2.heap.size, 1, none⟩ = some (.complex .f32 0 0) := new_cell (w2.drewN k2) _ _ 1 rfl
  have f0 : ((w2.drewN k2).alloc (.cells #[.complex .f32 0 0, .complex .f32 0 0] 38 (0, 0))).frozen? ⟨w2.heap.size, 0, none⟩ = false := new_frozen (w2.drewN k2) _ _ 0
  have f1 : ((w2.drewN k2).alloc (.cells #[.complex .f32 0 0, .complex .f32 0 0] 38 (0, 0))).frozen? ⟨w2.heap.size, 1, none⟩ = false := new_frozen (w2.drewN k2) _ _ 1
  have xs := Ext.alloc (w2.drewN k2) (.cells #[.complex .f32 0 0, .complex .f32 0 0] 38 (0, 0))
  have ns := size_new (w2.drewN k2) (.cells #[.complex .f32 0 0, .complex .f32 0 0] 38 (0, 0))
  replace z0 := (xs.cell (show (w2.drewN k2).cell? _ = _ from z0))
  replace z1 := (xs.cell (show (w2.drewN k2).cell? _ = _ from z1))
  replace y0 := (xs.frozen (a := ⟨w.heap.size, 0, none⟩) (by show w.heap.size < w2.heap.size; omega)).trans (show (w2.drewN k2).frozen? _ = false from y0)
  replace y1 := (xs.frozen (a := ⟨w.heap.size, 1, none⟩) (by show w.heap.size < w2.heap.size; omega)).trans (show (w2.drewN k2).frozen? _ = false from y1)
  have g3 := (g2.ext (Ext.drewN w2 k2)).ext xs
  generalize hA : (w2.drewN k2).alloc (.cells #[.complex .f32 0 0, .complex .f32 0 0] 38 (0, 0)) = wA at *
  go_wp2_with fail
  have hwA : w2.heap.size < wA.heap.size := ns
  have xA : Ext W wA := (x2.trans (Ext.drewN w2 k2)).trans xs
  have hW2 : W.heap.size ≤ w2.heap.size := x2.size
  have hB := only_set wA w2.heap.size (.complex .f32 (B (drQ (srcV l 0 0 % 33) 16) t1) (B (drQ (srcV l 1 (srcS l 0 0) % 33) 16) t2)) (.complex .f32 0 0)
  have xB : Ext W _ := Below.trans xA (below_set wA w2.heap.size W.heap.size (.complex .f32 (B (drQ (srcV l 0 0 % 33) 16) t1) (B (drQ (srcV l 1 (srcS l 0 0) % 33) 16) t2)) (.complex .f32 0 0) hW2)
  have d0 : ((wA.setCell ⟨w2.heap.size, 0, none⟩ (.complex .f32 (B (drQ (srcV l 0 0 % 33) 16) t1) (B (drQ (srcV l 1 (srcS l 0 0) % 33) 16) t2))).setCell ⟨w2.heap.size, 1, none⟩ (.complex .f32 0 0)).cell? ⟨w2.heap.size, 0, none⟩ = some (.complex .f32 (B (drQ (srcV l 0 0 % 33) 16) t1) (B (drQ (srcV l 1 (srcS l 0 0) % 33) 16) t2)) :=
    (World.cell?_setCell_other _ _ _ _ (by simp)).trans (World.cell?_setCell_same _ _ _ c0)
  have d1 : ((wA.setCell ⟨w2.heap.size, 0, none⟩ (.complex .f32 (B (drQ (srcV l 0 0 % 33) 16) t1) (B (drQ (srcV l 1 (srcS l 0 0) % 33) 16) t2))).setCell ⟨w2.heap.size, 1, none⟩ (.complex .f32 0 0)).cell? ⟨w2.heap.size, 1, none⟩ = some (.complex .f32 0 0) :=
    World.cell?_setCell_same _ _ _ ((World.cell?_setCell_other _ _ _ _ (by simp)).trans c1)
  have d2 : ((wA.setCell ⟨w2.heap.size, 0, none⟩ (.complex .f32 (B (drQ (srcV l 0 0 % 33) 16) t1) (B (drQ (srcV l 1 (srcS l 0 0) % 33) 16) t2))).setCell ⟨w2.heap.size, 1, none⟩ (.complex .f32 0 0)).frozen? ⟨w2.heap.size, 1, none⟩ = false := by
    rw [World.frozen?_setCell, World.frozen?_setCell]; exact f1
  have sB : ((wA.setCell ⟨w2.heap.size, 0, none⟩ (.complex .f32 (B (drQ (srcV l 0 0 % 33) 16) t1) (B (drQ (srcV l 1 (srcS l 0 0) % 33) 16) t2))).setCell ⟨w2.heap.size, 1, none⟩ (.complex .f32 0 0)).heap.size = wA.heap.size := by simp
  generalize hWB : (wA.setCell ⟨w2.heap.size, 0, none⟩ (.complex .f32 (B (drQ (srcV l 0 0 % 33) 16) t1) (B (drQ (srcV l 1 (srcS l 0 0) % 33) 16) t2))).setCell ⟨w2.heap.size, 1, none⟩ (.complex .f32 0 0) = wB at *
  have g4 := g3.only hB (by show p ≠ w2.heap.size; omega)
  replace z0 := (hB.cell (a := ⟨w.heap.size, 0, none⟩) (by show w.heap.size ≠ w2.heap.size; omega)).trans z0
  replace z1 := (hB.cell (a := ⟨w.heap.size, 1, none⟩) (by show w.heap.size ≠ w2.heap.size; omega)).trans z1
  replace y0 := (hB.frozen (a := ⟨w.heap.size, 0, none⟩) (by show w.heap.size ≠ w2.heap.size; omega)).trans y0
  replace y1 := (hB.frozen (a := ⟨w.heap.size, 1, none⟩) (by show w.heap.size ≠ w2.heap.size; omega)).trans y1
  go_call (pick17 p v _ _ _ _ (srcV_nonneg (hb.ext xB) 2 _) (next_t2 _ (hb.ext xB) g4)) as e w3 ⟨he, g5, b3, o3⟩
  subst he
  have x3 : Ext W w3 := Below.trans xB (Below.mono b3 hp)
  replace z0 := (o3.cell (a := ⟨w.heap.size, 0, none⟩) (by show w.heap.size ≠ p; omega)).trans z0
  replace z1 := (o3.cell (a := ⟨w.heap.size, 1, none⟩) (by show w.heap.size ≠ p; omega)).trans z1
  replace y0 := (o3.frozen (a := ⟨w.heap.size, 0, none⟩) (by show w.heap.size ≠ p; omega)).trans y0
  replace y1 := (o3.frozen (a := ⟨w.heap.size, 1, none⟩) (by show w.heap.size ≠ p; omega)).trans y1
  replace d0 := (o3.cell (a := ⟨w2.heap.size, 0, none⟩) (by show w2.heap.size ≠ p; omega)).trans d0
  replace d1 := (o3.cell (a := ⟨w2.heap.size, 1, none⟩) (by show w2.heap.size ≠ p; omega)).trans d1
  replace d2 := (o3.frozen (a := ⟨w2.heap.size, 1, none⟩) (by show w2.heap.size ≠ p; omega)).trans d2
  have n3 : wB.heap.size ≤ w3.heap.size := b3.size
  obtain ⟨t3, k3, q3⟩ := dr_quo (srcV l 2 (srcS l 1 (srcS l 0 0)) % 17) 8 w3
  go_wp2_with fail
  have e4 := Ext.drewN w3 k3
  go_call (pick17 p v _ _ _ _ (srcV_nonneg ((hb.ext x3).ext e4) 3 _) (next_t3 _ ((hb.ext x3).ext e4) (g5.ext e4))) as e w4 ⟨he, g6, b4, o4⟩
  subst he
  have x4 : Ext W w4 := Below.trans (x3.trans e4) (Below.mono b4 hp)
  replace z0 := (o4.cell (a := ⟨w.heap.size, 0, none⟩) (by show w.heap.size ≠ p; omega)).trans z0
  replace z1 := (o4.cell (a := ⟨w.heap.size, 1, none⟩) (by show w.heap.size ≠ p; omega)).trans z1
  replace y0 := (o4.frozen (a := ⟨w.heap.size, 0, none⟩) (by show w.heap.size ≠ p; omega)).trans y0
  replace y1 := (o4.frozen (a := ⟨w.heap.size, 1, none⟩) (by show w.heap.size ≠ p; omega)).trans y1
  replace d0 := (o4.cell (a := ⟨w2.heap.size, 0, none⟩) (by show w2.heap.size ≠ p; omega)).trans d0
  replace d1 := (o4.cell (a := ⟨w2.heap.size, 1, none⟩) (by show w2.heap.size ≠ p; omega)).trans d1
  replace d2 := (o4.frozen (a := ⟨w2.heap.size, 1, none⟩) (by show w2.heap.size ≠ p; omega)).trans d2
  have n4 : w3.heap.size ≤ w4.heap.size := b4.size
  obtain ⟨t4, k4, q4⟩ := dr_quo (srcV l 3 (srcS l 2 (srcS l 1 (srcS l 0 0))) % 17) 8 w4
  have hne : w.heap.size ≠ w2.heap.size := by omega
  go_wp2
  have hWw : W.heap.size ≤ w.heap.size := hW.size
  have n5 : wB.heap.size = wA.heap.size := sB
  refine bodyPost_ret (v := .agg #[.complex .f32 (B (drQ (srcV l 0 0 % 33) 16) t1) (B (drQ (srcV l 1 (srcS l 0 0) % 33) 16) t2), .complex .f32 (B (drQ (srcV l 2 (srcS l 1 (srcS l 0 0)) % 17) 8) t3) (B (drQ (srcV l 3 (srcS l 2 (srcS l 1 (srcS l 0 0))) % 17) 8) t4)]) ?_ rfl ⟨t1, t2, t3, t4, rfl, ?_⟩
  · simp [results, Try.results99, go_sem, World.cell?_setCell_same', World.cell?_setCell_other, z0, z1]
  · refine Below.trans (x4.trans (Ext.drewN w4 k4)) ⟨rfl, rfl, rfl, by simp, fun k hk => ?_⟩
    rw [Below.heap_setCell _ _ _ _ (by show k ≠ w.heap.size; omega), Below.heap_setCell _ _ _ _ (by show k ≠ w.heap.size; omega), Below.heap_setCell _ _ _ _ (by show k ≠ w2.heap.size; omega)]
def dr1 (l : List Int) : Int := srcV l 0 0 % 33
def dr2 (l : List Int) : Int := srcV l 1 (srcS l 0 0) % 33
def dr3 (l : List Int) : Int := srcV l 2 (srcS l 1 (srcS l 0 0)) % 17
def dr4 (l : List Int) : Int := srcV l 3 (srcS l 2 (srcS l 1 (srcS l 0 0))) % 17
theorem ship_run {W : World} {v : Value} {l : List Int} (hb : BytesAt W v l) :
    Calls Try.prog 44 #[v] W fun e w' => ∃ t1 t2 t3 t4, e = .returned (.agg #[.complex .f32 (B (drQ (dr1 l) 16) t1) (B (drQ (dr2 l) 16) t2), .complex .f32 (B (drQ (dr3 l) 8) t3) (B (drQ (dr4 l) 8) t4)]) ∧ Ext W w' := by
  have hv : ∃ a m cap, v = .slice a m cap := by
    rcases hb with ⟨a, cap, rfl, -⟩ | ⟨b, off, cap, rfl, -⟩
    · exact ⟨_, _, _, rfl⟩
    · exact ⟨_, _, _, rfl⟩
  obtain ⟨a, m, cap, rfl⟩ := hv
  go_enter Try.func44, Try.ntmps44
  go_wp2_with fail
  have e1 := Ext.alloc W (.cells #[.complex .f32 0 0, .complex .f32 0 0] 38 (0, 0))
  have s1 := size_new W (.cells #[.complex .f32 0 0, .complex .f32 0 0] 38 (0, 0))
  have z0 := new_cell W #[.complex .f32 0 0, .complex .f32 0 0] 38 0 rfl
  have z1 := new_cell W #[.complex .f32 0 0, .complex .f32 0 0] 38 1 rfl
  have y0 := new_frozen W #[.complex .f32 0 0, .complex .f32 0 0] 38 0
  have y1 := new_frozen W #[.complex .f32 0 0, .complex .f32 0 0] 38 1
  generalize W.alloc (.cells #[.complex .f32 0 0, .complex .f32 0 0] 38 (0, 0)) = wA at *
  go_call (from_run a m cap _) as e w1 ⟨he, hs, hx⟩
  subst he
  go_wp2_with fail
  go_call (draw_run hx (hb.ext e1) (Nat.le_refl _) hs) as e w2 ⟨t1, t2, t3, t4, he, hx2⟩
  subst he
  replace z0 := hx2.cell z0
  replace z1 := hx2.cell z1
  replace y0 := (hx2.frozen (a := ⟨W.heap.size, 0, none⟩) s1).trans y0
  replace y1 := (hx2.frozen (a := ⟨W.heap.size, 1, none⟩) s1).trans y1
  go_wp2
  refine bodyPost_ret (v := .agg #[.complex .f32 (B (drQ (dr1 l) 16) t1) (B (drQ (dr2 l) 16) t2), .complex .f32 (B (drQ (dr3 l) 8) t3) (B (drQ (dr4 l) 8) t4)]) ?_ rfl ⟨t1, t2, t3, t4, rfl, ?_⟩
  · have z0' : w2.cell? ⟨W.heap.size, 0, none⟩ = some (.complex .f32 0 0) := z0
    have z1' : w2.cell? ⟨W.heap.size, 1, none⟩ = some (.complex .f32 0 0) := z1
    simp [results, Try.results44, go_sem, World.cell?_setCell_same', World.cell?_setCell_other, z0', z1', dr1, dr2, dr3, dr4]
  · refine Below.trans (e1.trans hx2) ⟨rfl, rfl, rfl, by simp, fun k hk => ?_⟩
    rw [Below.heap_setCell _ _ _ _ (by show k ≠ W.heap.size; omega), Below.heap_setCell _ _ _ _ (by show k ≠ W.heap.size; omega)]
theorem wd_dr (z n : Int) (t : Nat) : Wd .f32 (B (drQ z n) t) := wd_bin .quo (lit .f32 (floatOfInt .f32 (z - n))) (c32 1090519040) t
noncomputable def shShip (W : World) : List AV → Option (Bool × AV)
  | [.c (.val v)] => some (good W v, .agg [.cx .f32 (drQ (dr1 (bytesOf W v)) 16) (drQ (dr2 (bytesOf W v)) 16), .cx .f32 (drQ (dr3 (bytesOf W v)) 8) (drQ (dr4 (bytesOf W v)) 8)])
  | _ => none
theorem wShip_ok (W : World) : ∀ args r, shShip W args = some (true, r) → ∀ σ vs w, Ext W w → RepF σ args vs → Gives Try.prog 44 vs.toArray w fun v w' => Rep σ r v ∧ Ext w w' := by
  intro args r h σ vs w hw ha
  unfold shShip at h
  split at h
  · rename_i v
    simp only [Option.some.injEq, Prod.mk.injEq] at h
    obtain ⟨hg, rfl⟩ := h
    cases ha with
    | cons e1 ha =>
      cases ha
      have e1' : _ = v := e1
      subst e1'
      have hB := (of_good hg).ext hw
      generalize bytesOf W _ = l at hB ⊢
      refine .inr ⟨enter_of Try.func44 (by kernel_rfl) (c := Try.f44.body.getD .skip) (by kernel_rfl), ?_⟩
      exact (ship_run hB).mono fun e w' ⟨t1, t2, t3, t4, he, hx⟩ => ⟨_, he, ⟨_, rfl, .cons ⟨t1, t2, rfl, wd_dr _ _ _, wd_dr _ _ _⟩ (.cons ⟨t3, t4, rfl, wd_dr _ _ _, wd_dr _ _ _⟩ .nil)⟩, hx⟩
  · cases h
noncomputable def wShip (W : World) : EntryW Try.prog (Ext W) := { f := 44, fn := shShip W, ok := wShip_ok W }
theorem dr1_range (l : List Int) : 0 ≤ dr1 l ∧ dr1 l < 33 := ⟨Int.emod_nonneg _ (by decide), Int.emod_lt_of_pos _ (by decide)⟩
theorem dr2_range (l : List Int) : 0 ≤ dr2 l ∧ dr2 l < 33 := ⟨Int.emod_nonneg _ (by decide), Int.emod_lt_of_pos _ (by decide)⟩
theorem dr3_range (l : List Int) : 0 ≤ dr3 l ∧ dr3 l < 17 := ⟨Int.emod_nonneg _ (by decide), Int.emod_lt_of_pos _ (by decide)⟩
theorem dr4_range (l : List Int) : 0 ≤ dr4 l ∧ dr4 l < 17 := ⟨Int.emod_nonneg _ (by decide), Int.emod_lt_of_pos _ (by decide)⟩
end Go.Proofs.Ytlpahmefebgdlaa.Fx
