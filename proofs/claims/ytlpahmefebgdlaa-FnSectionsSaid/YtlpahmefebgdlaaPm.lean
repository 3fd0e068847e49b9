/- Texts put together: Ti, Tk, Tl, Tm. No condition. -/
import Derived.Test.YtlpahmefebgdlaaPl
/- Contract: R8Ship. No condition. -/
namespace Go.Proofs.Ytlpahmefebgdlaa.Fx
open Go Go.RowKit

theorem SrcG.ext {w w' : World} {p : Nat} {v : Value} {t s : Int} (h : SrcG w p v t s) (hx : Ext w w') : SrcG w' p v t s := by
  obtain ⟨h0, h1, h2, f1, f2⟩ := h
  have hlt := World.block_lt_of_cell? w _ h0
  exact ⟨hx.cell h0, hx.cell h1, hx.cell h2, by unfold World.frozen? at f1 ⊢; rw [hx.block p hlt]; exact f1, by unfold World.frozen? at f2 ⊢; rw [hx.block p hlt]; exact f2⟩
def drQ (z n : Int) : F32 := lit .f32 (floatOfInt .f32 (z - n)) / c32 1090519040
theorem dr_quo (z n : Int) (w : World) : ∃ t k, (binOp .quo 24 (.float .f32 (floatOfInt .f32 (z - n))) (.float .f32 1090519040)).run Try.prog w = .ok (.float .f32 (B (drQ z n) t)) (w.drewN k) := by
  obtain ⟨t, k, h⟩ := run_arith (P := Try.prog) .quo (by simp) (Is.lit (k := .f32) (floatOfInt .f32 (z - n))) (Is.lit (k := .f32) 1090519040) w
  exact ⟨t, k, h⟩
theorem Ext.frozen {W w : World} (h : Ext W w) {a : Addr} (hb : a.block < W.heap.size) : w.frozen? a = W.frozen? a := by
  unfold World.frozen?
  rw [h.block a.block hb]
theorem size_new (w : World) (o : Obj) : w.heap.size < (w.alloc o).heap.size := by
  rw [World.size_alloc]; exact Nat.lt_succ_self _
theorem only_set (w : World) (h : Nat) (a b : Value) : Only h w ((w.setCell ⟨h, 0, none⟩ a).setCell ⟨h, 1, none⟩ b) :=
  fun _ hk => (Below.heap_setCell _ _ _ _ hk).trans (Below.heap_setCell _ _ _ _ hk)
theorem SrcG.only {w w' : World} {p h : Nat} {v : Value} {t s : Int} (g : SrcG w p v t s) (ho : Only h w w') (hne : p ≠ h) : SrcG w' p v t s :=
  ⟨(ho.cell hne).trans g.1, (ho.cell hne).trans g.2.1, (ho.cell hne).trans g.2.2.1, (ho.frozen hne).trans g.2.2.2.1, (ho.frozen hne).trans g.2.2.2.2⟩
theorem below_set (w : World) (h B : Nat) (a b : Value) (hB : B ≤ h) : Below B w ((w.setCell ⟨h, 0, none⟩ a).setCell ⟨h, 1, none⟩ b) :=
  ⟨rfl, rfl, rfl, by simp, fun k hk => only_set w h a b k (by omega)⟩
theorem run_store_complex {P : Program} {w : World} {a : Addr} {m : Mode} (k : FloatKind) (x y : Nat) : (store a (.complex k x y) m).run P w = stored P w a (.complex k x y) m := run_store P w a _ m rfl
attribute [local go_sem] run_store_complex
theorem draw_run {W w : World} {p : Nat} {v : Value} {l : List Int} (hW : Ext W w) (hb : BytesAt W v l) (hp : W.heap.size ≤ p) (h : SrcG w p v 0 0) :
    Calls Try.prog 99 #[.pointer (some ⟨p, 0, none⟩)] w fun e w' => ∃ t1 t2 t3 t4, e = .returned (.agg #[.complex .f32 (B (drQ (srcV l 0 0 % 33) 16) t1) (B (drQ (srcV l 1 (srcS l 0 0) % 33) 16) t2),
      .complex .f32 (B (drQ (srcV l 2 (srcS l 1 (srcS l 0 0)) % 17) 8) t3) (B (drQ (srcV l 3 (srcS l 2 (srcS l 1 (srcS l 0 0))) % 17) 8) t4)]) ∧ Ext W w' := by
  have hlt0 := World.block_lt_of_cell? w _ h.1
  go_enter Try.func99, Try.ntmps99
  go_wp2_with fail
  have e1 := Ext.alloc w (.cells #[.complex .f32 0 0, .complex .f32 0 0] 38 (0, 0))
  go_call (pick33 p v _ _ _ _ (srcV_nonneg (hb.ext hW) 0 0) (next_t0 0 ((hb.ext hW).ext e1) (h.ext e1))) as e w1 ⟨he, g1, b1, o1⟩
  subst he
  have x1 : Ext W w1 := Below.trans (hW.trans e1) (Below.mono b1 hp)
  have n1 : w.heap.size < w1.heap.size := Nat.lt_of_lt_of_le (size_new w _) b1.size
  have z0 : w1.cell? ⟨w.heap.size, 0, none⟩ = some (.complex .f32 0 0) := (o1.cell (by show w.heap.size ≠ p; omega)).trans (new_cell w _ _ 0 rfl)
  have z1 : w1.cell? ⟨w.heap.size, 1, none⟩ = some (.complex .f32 0 0) := (o1.cell (by show w.heap.size ≠ p; omega)).trans (new_cell w _ _ 1 rfl)
  have y0 : w1.frozen? ⟨w.heap.size, 0, none⟩ = false := (o1.frozen (by show w.heap.size ≠ p; omega)).trans (new_frozen w _ _ 0)
  have y1 : w1.frozen? ⟨w.heap.size, 1, none⟩ = false := (o1.frozen (by show w.heap.size ≠ p; omega)).trans (new_frozen w _ _ 1)
  obtain ⟨t1, k1, q1⟩ := dr_quo (srcV l 0 0 % 33) 16 w1
  go_wp2_with fail
  have e2 := Ext.drewN w1 k1
  go_call (pick33 p v _ _ _ _ (srcV_nonneg ((hb.ext x1).ext e2) 1 _) (next_t1 _ ((hb.ext x1).ext e2) (g1.ext e2))) as e w2 ⟨he, g2, b2, o2⟩
  subst he
  have x2 : Ext W w2 := Below.trans (x1.trans e2) (Below.mono b2 hp)
  have n2 : w1.heap.size ≤ w2.heap.size := b2.size
  replace z0 : w2.cell? ⟨w.heap.size, 0, none⟩ = some (.complex .f32 0 0) := (o2.cell (by show w.heap.size ≠ p; omega)).trans z0
  replace z1 : w2.cell? ⟨w.heap.size, 1, none⟩ = some (.complex .f32 0 0) := (o2.cell (by show w.heap.size ≠ p; omega)).trans z1
  replace y0 : w2.frozen? ⟨w.heap.size, 0, none⟩ = false := (o2.frozen (by show w.heap.size ≠ p; omega)).trans y0
  replace y1 : w2.frozen? ⟨w.heap.size, 1, none⟩ = false := (o2.frozen (by show w.heap.size ≠ p; omega)).trans y1
  obtain ⟨t2, k2, q2⟩ := dr_quo (srcV l 1 (srcS l 0 0) % 33) 16 w2
  have c0 : ((w2.drewN k2).alloc (.cells #[.complex .f32 0 0, .complex .f32 0 0] 38 (0, 0))).cell? ⟨w2.heap.size, 0, none⟩ = some (.complex .f32 0 0) := new_cell (w2.drewN k2) _ _ 0 rfl
  have c1 : ((w2.drewN k2).alloc (.cells #[.complex .f32 0 0, .complex .f32 0 0] 38 (0, 0))).cell? ⟨w2.heap.size, 1, none⟩ = some (.complex .f32 0 0) := new_cell (w2.drewN k2) _ _ 1 rfl
  have f0 : ((w2.drewN k2).alloc (.cells #[.complex .f32 0 0, .complex .f32 0 0] 38 (0, 0))).frozen? ⟨w2.heap.size, 0, none⟩ = false := new_frozen (w2.drewN k2) _ _ 0
  have f1 : ((w2.drewN k2).alloc (.cells #[.complex .f32 0 0, .complex .f32 0 0] 38 (0, 0))).frozen? ⟨w2.heap.size, 1, none⟩ = false := new_frozen (w2.drewN k2) _ _ 1
  have xs := Ext.alloc (w2.drewN k2) (.cells #[.complex .f32 0 0, .complex .f32 0 0] 38 (0, 0))
  have ns := size_new (w2.drewN k2) (.cells #[.complex .f32 0 0, .complex .f32 0 0] 38 (0, 0))
  replace z0 := (xs.cell (show (w2.drewN k2).cell? _ = _ from z0))
  replace z1 := (xs.cell (show (w2.drewN k2).cell? _ = _ from z1))
  replace y0 := (xs.frozen (a := ⟨w.heap.size, 0, none⟩) (by show w.heap.size < w2.heap.size; omega)).trans (show (w2.drewN k2).frozen? _ = false from y0)
  replace y1 := (xs.frozen (a := ⟨w.heap.size, 1, none⟩) (by show w.heap.size < w2.heap.size; omega)).trans (show (w2.drewN k2).frozen? _ = false from y1)
  have g3 := (g2.ext (Ext.drewN w2 k2)).ext xs
  generalize hA : (w2.drewN k2).alloc (.cells #[.complex .f32 0 0, .complex .f32 0 0] 38 (0, 0)) = wA at *
  go_wp2_with fail
  have hwA : w2.heap.size < wA.heap.size := ns
  have xA : Ext W wA := (x2.trans (Ext.drewN w2 k2)).trans xs
  have hW2 : W.heap.size ≤ w2.heap.size := x2.size
  have hB := only_set wA w2.heap.size (.complex .f32 (B (drQ (srcV l 0 0 % 33) 16) t1) (B (drQ (srcV l 1 (srcS l 0 0) % 33) 16) t2)) (.complex .f32 0 0)
  have xB : Ext W _ := Below.trans xA (below_set wA w2.heap.size W.heap.size (.complex .f32 (B (drQ (srcV l 0 0 % 33) 16) t1) (B (drQ (srcV l 1 (srcS l 0 0) % 33) 16) t2)) (.complex .f32 0 0) hW2)
  have d0 : ((wA.setCell ⟨w2.heap.size, 0, none⟩ (.complex .f32 (B (drQ (srcV l 0 0 % 33) 16) t1) (B (drQ (srcV l 1 (srcS l 0 0) % 33) 16) t2))).setCell ⟨w2.heap.size, 1, none⟩ (.complex .f32 0 0)).cell? ⟨w2.heap.size, 0, none⟩ = some (.complex .f32 (B (drQ (srcV l 0 0 % 33) 16) t1) (B (drQ (srcV l 1 (srcS l 0 0) % 33) 16) t2)) :=
    (World.cell?_setCell_other _ _ _ _ (by simp)).trans (World.cell?_setCell_same _ _ _ c0)
  have d1 : ((wA.setCell ⟨w2.heap.size, 0, none⟩ (.complex .f32 (B (drQ (srcV l 0 0 % 33) 16) t1) (B (drQ (srcV l 1 (srcS l 0 0) % 33) 16) t2))).setCell ⟨w2.heap.size, 1, none⟩ (.complex .f32 0 0)).cell? ⟨w2.heap.size, 1, none⟩ = some (.complex .f32 0 0) :=
    World.cell?_setCell_same _ _ _ ((World.cell?_setCell_other _ _ _ _ (by simp)).trans c1)
  have d2 : ((wA.setCell ⟨w2.heap.size, 0, none⟩ (.complex .f32 (B (drQ (srcV l 0 0 % 33) 16) t1) (B (drQ (srcV l 1 (srcS l 0 0) % 33) 16) t2))).setCell ⟨w2.heap.size, 1, none⟩ (.complex .f32 0 0)).frozen? ⟨w2.heap.size, 1, none⟩ = false := by
    rw [World.frozen?_setCell, World.frozen?_setCell]; exact f1
  have sB : ((wA.setCell ⟨w2.heap.size, 0, none⟩ (.complex .f32 (B (drQ (srcV l 0 0 % 33) 16) t1) (B (drQ (srcV l 1 (srcS l 0 0) % 33) 16) t2))).setCell ⟨w2.heap.size, 1, none⟩ (.complex .f32 0 0)).heap.size = wA.heap.size := by simp
  generalize hWB : (wA.setCell ⟨w2.heap.size, 0, none⟩ (.complex .f32 (B (drQ (srcV l 0 0 % 33) 16) t1) (B (drQ (srcV l 1 (srcS l 0 0) % 33) 16) t2))).setCell ⟨w2.heap.size, 1, none⟩ (.complex .f32 0 0) = wB at *
  have g4 := g3.only hB (by show p ≠ w2.heap.size; omega)
  replace z0 := (hB.cell (a := ⟨w.heap.size, 0, none⟩) (by show w.heap.size ≠ w2.heap.size; omega)).trans z0
  replace z1 := (hB.cell (a := ⟨w.heap.size, 1, none⟩) (by show w.heap.size ≠ w2.heap.size; omega)).trans z1
  replace y0 := (hB.frozen (a := ⟨w.heap.size, 0, none⟩) (by show w.heap.size ≠ w2.heap.size; omega)).trans y0
  replace y1 := (hB.frozen (a := ⟨w.heap.size, 1, none⟩) (by show w.heap.size ≠ w2.heap.size; omega)).trans y1
  go_call (pick17 p v _ _ _ _ (srcV_nonneg (hb.ext xB) 2 _) (next_t2 _ (hb.ext xB) g4)) as e w3 ⟨he, g5, b3, o3⟩
  subst he
  have x3 : Ext W w3 := Below.trans xB (Below.mono b3 hp)
  replace z0 := (o3.cell (a := ⟨w.heap.size, 0, none⟩) (by show w.heap.size ≠ p; omega)).trans z0
  replace z1 := (o3.cell (a := ⟨w.heap.size, 1, none⟩) (by show w.heap.size ≠ p; omega)).trans z1
  replace y0 := (o3.frozen (a := ⟨w.heap.size, 0, none⟩) (by show w.heap.size ≠ p; omega)).trans y0
  replace y1 := (o3.frozen (a := ⟨w.heap.size, 1, none⟩) (by show w.heap.size ≠ p; omega)).trans y1
  replace d0 := (o3.cell (a := ⟨w2.heap.size, 0, none⟩) (by show w2.heap.size ≠ p; omega)).trans d0
  replace d1 := (o3.cell (a := ⟨w2.heap.size, 1, none⟩) (by show w2.heap.size ≠ p; omega)).trans d1
  replace d2 := (o3.frozen (a := ⟨w2.heap.size, 1, none⟩) (by show w2.heap.size ≠ p; omega)).trans d2
  have n3 : wB.heap.size ≤ w3.heap.size := b3.size
  obtain ⟨t3, k3, q3⟩ := dr_quo (srcV l 2 (srcS l 1 (srcS l 0 0)) % 17) 8 w3
  go_wp2_with fail
  have e4 := Ext.drewN w3 k3
  go_call (pick17 p v _ _ _ _ (srcV_nonneg ((hb.ext x3).ext e4) 3 _) (next_t3 _ ((hb.ext x3).ext e4) (g5.ext e4))) as e w4 ⟨he, g6, b4, o4⟩
  subst he
  have x4 : Ext W w4 := Below.trans (x3.trans e4) (Below.mono b4 hp)
  replace z0 := (o4.cell (a := ⟨w.heap.size, 0, none⟩) (by show w.heap.size ≠ p; omega)).trans z0
  replace z1 := (o4.cell (a := ⟨w.heap.size, 1, none⟩) (by show w.heap.size ≠ p; omega)).trans z1
  replace y0 := (o4.frozen (a := ⟨w.heap.size, 0, none⟩) (by show w.heap.size ≠ p; omega)).trans y0
  replace y1 := (o4.frozen (a := ⟨w.heap.size, 1, none⟩) (by show w.heap.size ≠ p; omega)).trans y1
  replace d0 := (o4.cell (a := ⟨w2.heap.size, 0, none⟩) (by show w2.heap.size ≠ p; omega)).trans d0
  replace d1 := (o4.cell (a := ⟨w2.heap.size, 1, none⟩) (by show w2.heap.size ≠ p; omega)).trans d1
  replace d2 := (o4.frozen (a := ⟨w2.heap.size, 1, none⟩) (by show w2.heap.size ≠ p; omega)).trans d2
  have n4 : w3.heap.size ≤ w4.heap.size := b4.size
  obtain ⟨t4, k4, q4⟩ := dr_quo (srcV l 3 (srcS l 2 (srcS l 1 (srcS l 0 0))) % 17) 8 w4
  have hne : w.heap.size ≠ w2.heap.size := by omega
  go_wp2
  have hWw : W.heap.size ≤ w.heap.size := hW.size
  have n5 : wB.heap.size = wA.heap.size := sB
  refine bodyPost_ret (v := .agg #[.complex .f32 (B (drQ (srcV l 0 0 % 33) 16) t1) (B (drQ (srcV l 1 (srcS l 0 0) % 33) 16) t2), .complex .f32 (B (drQ (srcV l 2 (srcS l 1 (srcS l 0 0)) % 17) 8) t3) (B (drQ (srcV l 3 (srcS l 2 (srcS l 1 (srcS l 0 0))) % 17) 8) t4)]) ?_ rfl ⟨t1, t2, t3, t4, rfl, ?_⟩
  · simp [results, Try.results99, go_sem, World.cell?_setCell_same', World.cell?_setCell_other, z0, z1]
  · refine Below.trans (x4.trans (Ext.drewN w4 k4)) ⟨rfl, rfl, rfl, by simp, fun k hk => ?_⟩
    rw [Below.heap_setCell _ _ _ _ (by show k ≠ w.heap.size; omega), Below.heap_setCell _ _ _ _ (by show k ≠ w.heap.size; omega), Below.heap_setCell _ _ _ _ (by show k ≠ w2.heap.size; omega)]
def dr1 (l : List Int) : Int := srcV l 0 0 % 33
def dr2 (l : List Int) : Int := srcV l 1 (srcS l 0 0) % 33
def dr3 (l : List Int) : Int := srcV l 2 (srcS l 1 (srcS l 0 0)) % 17
def dr4 (l : List Int) : Int := srcV l 3 (srcS l 2 (srcS l 1 (srcS l 0 0))) % 17
theorem ship_run {W : World} {v : Value} {l : List Int} (hb : BytesAt W v l) :
    Calls Try.prog 44 #[v] W fun e w' => ∃ t1 t2 t3 t4, e = .returned (.agg #[.complex .f32 (B (drQ (dr1 l) 16) t1) (B (drQ (dr2 l) 16) t2), .complex .f32 (B (drQ (dr3 l) 8) t3) (B (drQ (dr4 l) 8) t4)]) ∧ Ext W w' := by
  have hv : ∃ a m cap, v = .slice a m cap := by
    rcases hb with ⟨a, cap, rfl, -⟩ | ⟨b, off, cap, rfl, -⟩
    · exact ⟨_, _, _, rfl⟩
    · exact ⟨_, _, _, rfl⟩
  obtain ⟨a, m, cap, rfl⟩ := hv
  go_enter Try.func44, Try.ntmps44
  go_wp2_with fail
  have e1 := Ext.alloc W (.cells #[.complex .f32 0 0, .complex .f32 0 0] 38 (0, 0))
  have s1 := size_new W (.cells #[.complex .f32 0 0, .complex .f32 0 0] 38 (0, 0))
  have z0 := new_cell W #[.complex .f32 0 0, .complex .f32 0 0] 38 0 rfl
  have z1 := new_cell W #[.complex .f32 0 0, .complex .f32 0 0] 38 1 rfl
  have y0 := new_frozen W #[.complex .f32 0 0, .complex .f32 0 0] 38 0
  have y1 := new_frozen W #[.complex .f32 0 0, .complex .f32 0 0] 38 1
  generalize W.alloc (.cells #[.complex .f32 0 0, .complex .f32 0 0] 38 (0, 0)) = wA at *
  go_call (from_run a m cap _) as e w1 ⟨he, hs, hx⟩
  subst he
  go_wp2_with fail
  go_call (draw_run hx (hb.ext e1) (Nat.le_refl _) hs) as e w2 ⟨t1, t2, t3, t4, he, hx2⟩
  subst he
  replace z0 := hx2.cell z0
  replace z1 := hx2.cell z1
  replace y0 := (hx2.frozen (a := ⟨W.heap.size, 0, none⟩) s1).trans y0
  replace y1 := (hx2.frozen (a := ⟨W.heap.size, 1, none⟩) s1).trans y1
  go_wp2
  refine bodyPost_ret (v := .agg #[.complex .f32 (B (drQ (dr1 l) 16) t1) (B (drQ (dr2 l) 16) t2), .complex .f32 (B (drQ (dr3 l) 8) t3) (B (drQ (dr4 l) 8) t4)]) ?_ rfl ⟨t1, t2, t3, t4, rfl, ?_⟩
  · have z0' : w2.cell? ⟨W.heap.size, 0, none⟩ = some (.complex .f32 0 0) := z0
    have z1' : w2.cell? ⟨W.heap.size, 1, none⟩ = some (.complex .f32 0 0) := z1
    simp [results, Try.results44, go_sem, World.cell?_setCell_same', World.cell?_setCell_other, z0', z1', dr1, dr2, dr3, dr4]
  · refine Below.trans (e1.trans hx2) ⟨rfl, rfl, rfl, by simp, fun k hk => ?_⟩
    rw [Below.heap_setCell _ _ _ _ (by show k ≠ W.heap.size; omega), Below.heap_setCell _ _ _ _ (by show k ≠ W.heap.size; omega)]
theorem wd_dr (z n : Int) (t : Nat) : Wd .f32 (B (drQ z n) t) := wd_bin .quo (lit .f32 (floatOfInt .f32 (z - n))) (c32 1090519040) t
noncomputable def shShip (W : World) : List AV → Option (Bool × AV)
  | [.c (.val v)] => some (good W v, .agg [.cx .f32 (drQ (dr1 (bytesOf W v)) 16) (drQ (dr2 (bytesOf W v)) 16), .cx .f32 (drQ (dr3 (bytesOf W v)) 8) (drQ (dr4 (bytesOf W v)) 8)])
  | _ => none
theorem wShip_ok (W : World) : ∀ args r, shShip W args = some (true, r) → ∀ σ vs w, Ext W w → RepF σ args vs → Gives Try.prog 44 vs.toArray w fun v w' => Rep σ r v ∧ Ext w w' := by
  intro args r h σ vs w hw ha
  unfold shShip at h
  split at h
  · rename_i v
    simp only [Option.some.injEq, Prod.mk.injEq] at h
    obtain ⟨hg, rfl⟩ := h
    cases ha with
    | cons e1 ha =>
      cases ha
      have e1' : _ = v := e1
      subst e1'
      have hB := (of_good hg).ext hw
      generalize bytesOf W _ = l at hB ⊢
      refine .inr ⟨enter_of Try.func44 (by kernel_rfl) (c := Try.f44.body.getD .skip) (by kernel_rfl), ?_⟩
      exact (ship_run hB).mono fun e w' ⟨t1, t2, t3, t4, he, hx⟩ => ⟨_, he, ⟨_, rfl, .cons ⟨t1, t2, rfl, wd_dr _ _ _, wd_dr _ _ _⟩ (.cons ⟨t3, t4, rfl, wd_dr _ _ _, wd_dr _ _ _⟩ .nil)⟩, hx⟩
  · cases h
noncomputable def wShip (W : World) : EntryW Try.prog (Ext W) := { f := 44, fn := shShip W, ok := wShip_ok W }
theorem dr1_range (l : List Int) : 0 ≤ dr1 l ∧ dr1 l < 33 := ⟨Int.emod_nonneg _ (by decide), Int.emod_lt_of_pos _ (by decide)⟩
theorem dr2_range (l : List Int) : 0 ≤ dr2 l ∧ dr2 l < 33 := ⟨Int.emod_nonneg _ (by decide), Int.emod_lt_of_pos _ (by decide)⟩
theorem dr3_range (l : List Int) : 0 ≤ dr3 l ∧ dr3 l < 17 := ⟨Int.emod_nonneg _ (by decide), Int.emod_lt_of_pos _ (by decide)⟩
theorem dr4_range (l : List Int) : 0 ≤ dr4 l ∧ dr4 l < 17 := ⟨Int.emod_nonneg _ (by decide), Int.emod_lt_of_pos _ (by decide)⟩
end Go.Proofs.Ytlpahmefebgdlaa.Fx
/- The law FnSections: its first loop. No condition. -/
namespace Go.Proofs.Ytlpahmefebgdlaa.Fx
open Go Go.RowKit

def mil : F64 := c64 4562254508917369340
/-- A crossing lies between the places before and behind it, nearly. -/
def slLow (x : F32) (a b : Sh) : Bool := lt (widen x) (widen (fmin a.x b.x) - mil)
def slHigh (x : F32) (a b : Sh) : Bool := gt (widen x) (widen (fmax a.x b.x) + mil)
def slFr (m : Value) (s : F32) (n : Nat) (at_ k : Int) : List AV := [.c .any, .c (.val m), .c .any, .c .any, .c .any, .c (.fl .f32 s), .c (.ptr 0 0), .c (.slc 1 n), .c .any, .c (.slc 2 13), .c .any, .c (.val (.int .i64 at_)), .c (.val (.int .i64 k))] ++ List.replicate 287 (.c .any)
def slMk : List Bool := [false, true, false, false, false, true, true, true, false, true, false, true, true] ++ List.replicate 287 false
def encTr : List Sh → List AC
  | [] => []
  | p :: L => .cx .f32 p.x p.y :: encTr L
theorem sl_round00_1 (m : Value) (s a b c d : F32) (p0 p1 p2 p3 p4 p5 p6 p7 p8 p9 p10 p11 p12 : Sh) : exK Try.prog [] [] [] (G := anyW) [] 0 noRule [] 400 0 0 (loopN 0 Try.f7) (slFr m s 0 0 1) [[.cx .f32 a b, .cx .f32 c d], [], encTr [p0, p1, p2, p3, p4, p5, p6, p7, p8, p9, p10, p11, p12]] (keepK slMk 3) =
    bif lt p0.y (c32 0) then (bif ge p1.y (c32 0) then (some (.ret, slFr m s 0 0 1, [[.cx .f32 a b, .cx .f32 c d], [], encTr [p0, p1, p2, p3, p4, p5, p6, p7, p8, p9, p10, p11, p12]])) else some (.norm, slFr m s 0 0 2, [[.cx .f32 a b, .cx .f32 c d], [], encTr [p0, p1, p2, p3, p4, p5, p6, p7, p8, p9, p10, p11, p12]])) else some (.norm, slFr m s 0 0 2, [[.cx .f32 a b, .cx .f32 c d], [], encTr [p0, p1, p2, p3, p4, p5, p6, p7, p8, p9, p10, p11, p12]]) := by kernel_rfl
theorem sl_round10_1 (m : Value) (s a b c d X U : F32) (p0 p1 p2 p3 p4 p5 p6 p7 p8 p9 p10 p11 p12 : Sh) : exK Try.prog [] [] [] (G := anyW) [] 0 noRule [] 400 0 0 (loopN 0 Try.f7) (slFr m s 1 0 1) [[.cx .f32 a b, .cx .f32 c d], [.cx .f32 X U], encTr [p0, p1, p2, p3, p4, p5, p6, p7, p8, p9, p10, p11, p12]] (keepK slMk 3) =
    bif lt p0.y (c32 0) then (bif ge p1.y (c32 0) then (bif slLow X p0 p1 then some (.ret, slFr m s 1 0 1, [[.cx .f32 a b, .cx .f32 c d], [.cx .f32 X U], encTr [p0, p1, p2, p3, p4, p5, p6, p7, p8, p9, p10, p11, p12]]) else bif slHigh X p0 p1 then some (.ret, slFr m s 1 0 1, [[.cx .f32 a b, .cx .f32 c d], [.cx .f32 X U], encTr [p0, p1, p2, p3, p4, p5, p6, p7, p8, p9, p10, p11, p12]]) else some (.norm, slFr m s 1 1 2, [[.cx .f32 a b, .cx .f32 c d], [.cx .f32 X U], encTr [p0, p1, p2, p3, p4, p5, p6, p7, p8, p9, p10, p11, p12]])) else some (.norm, slFr m s 1 0 2, [[.cx .f32 a b, .cx .f32 c d], [.cx .f32 X U], encTr [p0, p1, p2, p3, p4, p5, p6, p7, p8, p9, p10, p11, p12]])) else some (.norm, slFr m s 1 0 2, [[.cx .f32 a b, .cx .f32 c d], [.cx .f32 X U], encTr [p0, p1, p2, p3, p4, p5, p6, p7, p8, p9, p10, p11, p12]]) := by kernel_rfl
theorem sl_round11_1 (m : Value) (s a b c d X U : F32) (p0 p1 p2 p3 p4 p5 p6 p7 p8 p9 p10 p11 p12 : Sh) : exK Try.prog [] [] [] (G := anyW) [] 0 noRule [] 400 0 0 (loopN 0 Try.f7) (slFr m s 1 1 1) [[.cx .f32 a b, .cx .f32 c d], [.cx .f32 X U], encTr [p0, p1, p2, p3, p4, p5, p6, p7, p8, p9, p10, p11, p12]] (keepK slMk 3) =
    bif lt p0.y (c32 0) then (bif ge p1.y (c32 0) then (some (.ret, slFr m s 1 1 1, [[.cx .f32 a b, .cx .f32 c d], [.cx .f32 X U], encTr [p0, p1, p2, p3, p4, p5, p6, p7, p8, p9, p10, p11, p12]])) else some (.norm, slFr m s 1 1 2, [[.cx .f32 a b, .cx .f32 c d], [.cx .f32 X U], encTr [p0, p1, p2, p3, p4, p5, p6, p7, p8, p9, p10, p11, p12]])) else some (.norm, slFr m s 1 1 2, [[.cx .f32 a b, .cx .f32 c d], [.cx .f32 X U], encTr [p0, p1, p2, p3, p4, p5, p6, p7, p8, p9, p10, p11, p12]]) := by kernel_rfl
theorem sl_round00_2 (m : Value) (s a b c d : F32) (p0 p1 p2 p3 p4 p5 p6 p7 p8 p9 p10 p11 p12 : Sh) : exK Try.prog [] [] [] (G := anyW) [] 0 noRule [] 400 0 0 (loopN 0 Try.f7) (slFr m s 0 0 2) [[.cx .f32 a b, .cx .f32 c d], [], encTr [p0, p1, p2, p3, p4, p5, p6, p7, p8, p9, p10, p11, p12]] (keepK slMk 3) =
    bif lt p1.y (c32 0) then (bif ge p2.y (c32 0) then (some (.ret, slFr m s 0 0 2, [[.cx .f32 a b, .cx .f32 c d], [], encTr [p0, p1, p2, p3, p4, p5, p6, p7, p8, p9, p10, p11, p12]])) else some (.norm, slFr m s 0 0 3, [[.cx .f32 a b, .cx .f32 c d], [], encTr [p0, p1, p2, p3, p4, p5, p6, p7, p8, p9, p10, p11, p12]])) else some (.norm, slFr m s 0 0 3, [[.cx .f32 a b, .cx .f32 c d], [], encTr [p0, p1, p2, p3, p4, p5, p6, p7, p8, p9, p10, p11, p12]]) := by kernel_rfl
theorem sl_round10_2 (m : Value) (s a b c d X U : F32) (p0 p1 p2 p3 p4 p5 p6 p7 p8 p9 p10 p11 p12 : Sh) : exK Try.prog [] [] [] (G := anyW) [] 0 noRule [] 400 0 0 (loopN 0 Try.f7) (slFr m s 1 0 2) [[.cx .f32 a b, .cx .f32 c d], [.cx .f32 X U], encTr [p0, p1, p2, p3, p4, p5, p6, p7, p8, p9, p10, p11, p12]] (keepK slMk 3) =
    bif lt p1.y (c32 0) then (bif ge p2.y (c32 0) then (bif slLow X p1 p2 then some (.ret, slFr m s 1 0 2, [[.cx .f32 a b, .cx .f32 c d], [.cx .f32 X U], encTr [p0, p1, p2, p3, p4, p5, p6, p7, p8, p9, p10, p11, p12]]) else bif slHigh X p1 p2 then some (.ret, slFr m s 1 0 2, [[.cx .f32 a b, .cx .f32 c d], [.cx .f32 X U], encTr [p0, p1, p2, p3, p4, p5, p6, p7, p8, p9, p10, p11, p12]]) else some (.norm, slFr m s 1 1 3, [[.cx .f32 a b, .cx .f32 c d], [.cx .f32 X U], encTr [p0, p1, p2, p3, p4, p5, p6, p7, p8, p9, p10, p11, p12]])) else some (.norm, slFr m s 1 0 3, [[.cx .f32 a b, .cx .f32 c d], [.cx .f32 X U], encTr [p0, p1, p2, p3, p4, p5, p6, p7, p8, p9, p10, p11, p12]])) else some (.norm, slFr m s 1 0 3, [[.cx .f32 a b, .cx .f32 c d], [.cx .f32 X U], encTr [p0, p1, p2, p3, p4, p5, p6, p7, p8, p9, p10, p11, p12]]) := by kernel_rfl
theorem sl_round11_2 (m : Value) (s a b c d X U : F32) (p0 p1 p2 p3 p4 p5 p6 p7 p8 p9 p10 p11 p12 : Sh) : exK Try.prog [] [] [] (G := anyW) [] 0 noRule [] 400 0 0 (loopN 0 Try.f7) (slFr m s 1 1 2) [[.cx .f32 a b, .cx .f32 c d], [.cx .f32 X U], encTr [p0, p1, p2, p3, p4, p5, p6, p7, p8, p9, p10, p11, p12]] (keepK slMk 3) =
    bif lt p1.y (c32 0) then (bif ge p2.y (c32 0) then (some (.ret, slFr m s 1 1 2, [[.cx .f32 a b, .cx .f32 c d], [.cx .f32 X U], encTr [p0, p1, p2, p3, p4, p5, p6, p7, p8, p9, p10, p11, p12]])) else some (.norm, slFr m s 1 1 3, [[.cx .f32 a b, .cx .f32 c d], [.cx .f32 X U], encTr [p0, p1, p2, p3, p4, p5, p6, p7, p8, p9, p10, p11, p12]])) else some (.norm, slFr m s 1 1 3, [[.cx .f32 a b, .cx .f32 c d], [.cx .f32 X U], encTr [p0, p1, p2, p3, p4, p5, p6, p7, p8, p9, p10, p11, p12]]) := by kernel_rfl
theorem sl_round00_3 (m : Value) (s a b c d : F32) (p0 p1 p2 p3 p4 p5 p6 p7 p8 p9 p10 p11 p12 : Sh) : exK Try.prog [] [] [] (G := anyW) [] 0 noRule [] 400 0 0 (loopN 0 Try.f7) (slFr m s 0 0 3) [[.cx .f32 a b, .cx .f32 c d], [], encTr [p0, p1, p2, p3, p4, p5, p6, p7, p8, p9, p10, p11, p12]] (keepK slMk 3) =
    bif lt p2.y (c32 0) then (bif ge p3.y (c32 0) then (some (.ret, slFr m s 0 0 3, [[.cx .f32 a b, .cx .f32 c d], [], encTr [p0, p1, p2, p3, p4, p5, p6, p7, p8, p9, p10, p11, p12]])) else some (.norm, slFr m s 0 0 4, [[.cx .f32 a b, .cx .f32 c d], [], encTr [p0, p1, p2, p3, p4, p5, p6, p7, p8, p9, p10, p11, p12]])) else some (.norm, slFr m s 0 0 4, [[.cx .f32 a b, .cx .f32 c d], [], encTr [p0, p1, p2, p3, p4, p5, p6, p7, p8, p9, p10, p11, p12]]) := by kernel_rfl
theorem sl_round10_3 (m : Value) (s a b c d X U : F32) (p0 p1 p2 p3 p4 p5 p6 p7 p8 p9 p10 p11 p12 : Sh) : exK Try.prog [] [] [] (G := anyW) [] 0 noRule [] 400 0 0 (loopN 0 Try.f7) (slFr m s 1 0 3) [[.cx .f32 a b, .cx .f32 c d], [.cx .f32 X U], encTr [p0, p1, p2, p3, p4, p5, p6, p7, p8, p9, p10, p11, p12]] (keepK slMk 3) =
    bif lt p2.y (c32 0) then (bif ge p3.y (c32 0) then (bif slLow X p2 p3 then some (.ret, slFr m s 1 0 3, [[.cx .f32 a b, .cx .f32 c d], [.cx .f32 X U], encTr [p0, p1, p2, p3, p4, p5, p6, p7, p8, p9, p10, p11, p12]]) else bif slHigh X p2 p3 then some (.ret, slFr m s 1 0 3, [[.cx .f32 a b, .cx .f32 c d], [.cx .f32 X U], encTr [p0, p1, p2, p3, p4, p5, p6, p7, p8, p9, p10, p11, p12]]) else some (.norm, slFr m s 1 1 4, [[.cx .f32 a b, .cx .f32 c d], [.cx .f32 X U], encTr [p0, p1, p2, p3, p4, p5, p6, p7, p8, p9, p10, p11, p12]])) else some (.norm, slFr m s 1 0 4, [[.cx .f32 a b, .cx .f32 c d], [.cx .f32 X U], encTr [p0, p1, p2, p3, p4, p5, p6, p7, p8, p9, p10, p11, p12]])) else some (.norm, slFr m s 1 0 4, [[.cx .f32 a b, .cx .f32 c d], [.cx .f32 X U], encTr [p0, p1, p2, p3, p4, p5, p6, p7, p8, p9, p10, p11, p12]]) := by kernel_rfl
theorem sl_round11_3 (m : Value) (s a b c d X U : F32) (p0 p1 p2 p3 p4 p5 p6 p7 p8 p9 p10 p11 p12 : Sh) : exK Try.prog [] [] [] (G := anyW) [] 0 noRule [] 400 0 0 (loopN 0 Try.f7) (slFr m s 1 1 3) [[.cx .f32 a b, .cx .f32 c d], [.cx .f32 X U], encTr [p0, p1, p2, p3, p4, p5, p6, p7, p8, p9, p10, p11, p12]] (keepK slMk 3) =
    bif lt p2.y (c32 0) then (bif ge p3.y (c32 0) then (some (.ret, slFr m s 1 1 3, [[.cx .f32 a b, .cx .f32 c d], [.cx .f32 X U], encTr [p0, p1, p2, p3, p4, p5, p6, p7, p8, p9, p10, p11, p12]])) else some (.norm, slFr m s 1 1 4, [[.cx .f32 a b, .cx .f32 c d], [.cx .f32 X U], encTr [p0, p1, p2, p3, p4, p5, p6, p7, p8, p9, p10, p11, p12]])) else some (.norm, slFr m s 1 1 4, [[.cx .f32 a b, .cx .f32 c d], [.cx .f32 X U], encTr [p0, p1, p2, p3, p4, p5, p6, p7, p8, p9, p10, p11, p12]]) := by kernel_rfl
theorem sl_round00_4 (m : Value) (s a b c d : F32) (p0 p1 p2 p3 p4 p5 p6 p7 p8 p9 p10 p11 p12 : Sh) : exK Try.prog [] [] [] (G := anyW) [] 0 noRule [] 400 0 0 (loopN 0 Try.f7) (slFr m s 0 0 4) [[.cx .f32 a b, .cx .f32 c d], [], encTr [p0, p1, p2, p3, p4, p5, p6, p7, p8, p9, p10, p11, p12]] (keepK slMk 3) =
    bif lt p3.y (c32 0) then (bif ge p4.y (c32 0) then (some (.ret, slFr m s 0 0 4, [[.cx .f32 a b, .cx .f32 c d], [], encTr [p0, p1, p2, p3, p4, p5, p6, p7, p8, p9, p10, p11, p12]])) else some (.norm, slFr m s 0 0 5, [[.cx .f32 a b, .cx .f32 c d], [], encTr [p0, p1, p2, p3, p4, p5, p6, p7, p8, p9, p10, p11, p12]])) else some (.norm, slFr m s 0 0 5, [[.cx .f32 a b, .cx .f32 c d], [], encTr [p0, p1, p2, p3, p4, p5, p6, p7, p8, p9, p10, p11, p12]]) := by kernel_rfl
theorem sl_round10_4 (m : Value) (s a b c d X U : F32) (p0 p1 p2 p3 p4 p5 p6 p7 p8 p9 p10 p11 p12 : Sh) : exK Try.prog [] [] [] (G := anyW) [] 0 noRule [] 400 0 0 (loopN 0 Try.f7) (slFr m s 1 0 4) [[.cx .f32 a b, .cx .f32 c d], [.cx .f32 X U], encTr [p0, p1, p2, p3, p4, p5, p6, p7, p8, p9, p10, p11, p12]] (keepK slMk 3) =
    bif lt p3.y (c32 0) then (bif ge p4.y (c32 0) then (bif slLow X p3 p4 then some (.ret, slFr m s 1 0 4, [[.cx .f32 a b, .cx .f32 c d], [.cx .f32 X U], encTr [p0, p1, p2, p3, p4, p5, p6, p7, p8, p9, p10, p11, p12]]) else bif slHigh X p3 p4 then some (.ret, slFr m s 1 0 4, [[.cx .f32 a b, .cx .f32 c d], [.cx .f32 X U], encTr [p0, p1, p2, p3, p4, p5, p6, p7, p8, p9, p10, p11, p12]]) else some (.norm, slFr m s 1 1 5, [[.cx .f32 a b, .cx .f32 c d], [.cx .f32 X U], encTr [p0, p1, p2, p3, p4, p5, p6, p7, p8, p9, p10, p11, p12]])) else some (.norm, slFr m s 1 0 5, [[.cx .f32 a b, .cx .f32 c d], [.cx .f32 X U], encTr [p0, p1, p2, p3, p4, p5, p6, p7, p8, p9, p10, p11, p12]])) else some (.norm, slFr m s 1 0 5, [[.cx .f32 a b, .cx .f32 c d], [.cx .f32 X U], encTr [p0, p1, p2, p3, p4, p5, p6, p7, p8, p9, p10, p11, p12]]) := by kernel_rfl
theorem sl_round11_4 (m : Value) (s a b c d X U : F32) (p0 p1 p2 p3 p4 p5 p6 p7 p8 p9 p10 p11 p12 : Sh) : exK Try.prog [] [] [] (G := anyW) [] 0 noRule [] 400 0 0 (loopN 0 Try.f7) (slFr m s 1 1 4) [[.cx .f32 a b, .cx .f32 c d], [.cx .f32 X U], encTr [p0, p1, p2, p3, p4, p5, p6, p7, p8, p9, p10, p11, p12]] (keepK slMk 3) =
    bif lt p3.y (c32 0) then (bif ge p4.y (c32 0) then (some (.ret, slFr m s 1 1 4, [[.cx .f32 a b, .cx .f32 c d], [.cx .f32 X U], encTr [p0, p1, p2, p3, p4, p5, p6, p7, p8, p9, p10, p11, p12]])) else some (.norm, slFr m s 1 1 5, [[.cx .f32 a b, .cx .f32 c d], [.cx .f32 X U], encTr [p0, p1, p2, p3, p4, p5, p6, p7, p8, p9, p10, p11, p12]])) else some (.norm, slFr m s 1 1 5, [[.cx .f32 a b, .cx .f32 c d], [.cx .f32 X U], encTr [p0, p1, p2, p3, p4, p5, p6, p7, p8, p9, p10, p11, p12]]) := by kernel_rfl
theorem sl_round00_5 (m : Value) (s a b c d : F32) (p0 p1 p2 p3 p4 p5 p6 p7 p8 p9 p10 p11 p12 : Sh) : exK Try.prog [] [] [] (G := anyW) [] 0 noRule [] 400 0 0 (loopN 0 Try.f7) (slFr m s 0 0 5) [[.cx .f32 a b, .cx .f32 c d], [], encTr [p0, p1, p2, p3, p4, p5, p6, p7, p8, p9, p10, p11, p12]] (keepK slMk 3) =
    bif lt p4.y (c32 0) then (bif ge p5.y (c32 0) then (some (.ret, slFr m s 0 0 5, [[.cx .f32 a b, .cx .f32 c d], [], encTr [p0, p1, p2, p3, p4, p5, p6, p7, p8, p9, p10, p11, p12]])) else some (.norm, slFr m s 0 0 6, [[.cx .f32 a b, .cx .f32 c d], [], encTr [p0, p1, p2, p3, p4, p5, p6, p7, p8, p9, p10, p11, p12]])) else some (.norm, slFr m s 0 0 6, [[.cx .f32 a b, .cx .f32 c d], [], encTr [p0, p1, p2, p3, p4, p5, p6, p7, p8, p9, p10, p11, p12]]) := by kernel_rfl
theorem sl_round10_5 (m : Value) (s a b c d X U : F32) (p0 p1 p2 p3 p4 p5 p6 p7 p8 p9 p10 p11 p12 : Sh) : exK Try.prog [] [] [] (G := anyW) [] 0 noRule [] 400 0 0 (loopN 0 Try.f7) (slFr m s 1 0 5) [[.cx .f32 a b, .cx .f32 c d], [.cx .f32 X U], encTr [p0, p1, p2, p3, p4, p5, p6, p7, p8, p9, p10, p11, p12]] (keepK slMk 3) =
    bif lt p4.y (c32 0) then (bif ge p5.y (c32 0) then (bif slLow X p4 p5 then some (.ret, slFr m s 1 0 5, [[.cx .f32 a b, .cx .f32 c d], [.cx .f32 X U], encTr [p0, p1, p2, p3, p4, p5, p6, p7, p8, p9, p10, p11, p12]]) else bif slHigh X p4 p5 then some (.ret, slFr m s 1 0 5, [[.cx .f32 a b, .cx .f32 c d], [.cx .f32 X U], encTr [p0, p1, p2, p3, p4, p5, p6, p7, p8, p9, p10, p11, p12]]) else some (.norm, slFr m s 1 1 6, [[.cx .f32 a b, .cx .f32 c d], [.cx .f32 X U], encTr [p0, p1, p2, p3, p4, p5, p6, p7, p8, p9, p10, p11, p12]])) else some (.norm, slFr m s 1 0 6, [[.cx .f32 a b, .cx .f32 c d], [.cx .f32 X U], encTr [p0, p1, p2, p3, p4, p5, p6, p7, p8, p9, p10, p11, p12]])) else some (.norm, slFr m s 1 0 6, [[.cx .f32 a b, .cx .f32 c d], [.cx .f32 X U], encTr [p0, p1, p2, p3, p4, p5, p6, p7, p8, p9, p10, p11, p12]]) := by kernel_rfl
theorem sl_round11_5 (m : Value) (s a b c d X U : F32) (p0 p1 p2 p3 p4 p5 p6 p7 p8 p9 p10 p11 p12 : Sh) : exK Try.prog [] [] [] (G := anyW) [] 0 noRule [] 400 0 0 (loopN 0 Try.f7) (slFr m s 1 1 5) [[.cx .f32 a b, .cx .f32 c d], [.cx .f32 X U], encTr [p0, p1, p2, p3, p4, p5, p6, p7, p8, p9, p10, p11, p12]] (keepK slMk 3) =
    bif lt p4.y (c32 0) then (bif ge p5.y (c32 0) then (some (.ret, slFr m s 1 1 5, [[.cx .f32 a b, .cx .f32 c d], [.cx .f32 X U], encTr [p0, p1, p2, p3, p4, p5, p6, p7, p8, p9, p10, p11, p12]])) else some (.norm, slFr m s 1 1 6, [[.cx .f32 a b, .cx .f32 c d], [.cx .f32 X U], encTr [p0, p1, p2, p3, p4, p5, p6, p7, p8, p9, p10, p11, p12]])) else some (.norm, slFr m s 1 1 6, [[.cx .f32 a b, .cx .f32 c d], [.cx .f32 X U], encTr [p0, p1, p2, p3, p4, p5, p6, p7, p8, p9, p10, p11, p12]]) := by kernel_rfl
theorem sl_round00_6 (m : Value) (s a b c d : F32) (p0 p1 p2 p3 p4 p5 p6 p7 p8 p9 p10 p11 p12 : Sh) : exK Try.prog [] [] [] (G := anyW) [] 0 noRule [] 400 0 0 (loopN 0 Try.f7) (slFr m s 0 0 6) [[.cx .f32 a b, .cx .f32 c d], [], encTr [p0, p1, p2, p3, p4, p5, p6, p7, p8, p9, p10, p11, p12]] (keepK slMk 3) =
    bif lt p5.y (c32 0) then (bif ge p6.y (c32 0) then (some (.ret, slFr m s 0 0 6, [[.cx .f32 a b, .cx .f32 c d], [], encTr [p0, p1, p2, p3, p4, p5, p6, p7, p8, p9, p10, p11, p12]])) else some (.norm, slFr m s 0 0 7, [[.cx .f32 a b, .cx .f32 c d], [], encTr [p0, p1, p2, p3, p4, p5, p6, p7, p8, p9, p10, p11, p12]])) else some (.norm, slFr m s 0 0 7, [[.cx .f32 a b, .cx .f32 c d], [], encTr [p0, p1, p2, p3, p4, p5, p6, p7, p8, p9, p10, p11, p12]]) := by kernel_rfl
theorem sl_round10_6 (m : Value) (s a b c d X U : F32) (p0 p1 p2 p3 p4 p5 p6 p7 p8 p9 p10 p11 p12 : Sh) : exK Try.prog [] [] [] (G := anyW) [] 0 noRule [] 400 0 0 (loopN 0 Try.f7) (slFr m s 1 0 6) [[.cx .f32 a b, .cx .f32 c d], [.cx .f32 X U], encTr [p0, p1, p2, p3, p4, p5, p6, p7, p8, p9, p10, p11, p12]] (keepK slMk 3) =
    bif lt p5.y (c32 0) then (bif ge p6.y (c32 0) then (bif slLow X p5 p6 then some (.ret, slFr m s 1 0 6, [[.cx .f32 a b, .cx .f32 c d], [.cx .f32 X U], encTr [p0, p1, p2, p3, p4, p5, p6, p7, p8, p9, p10, p11, p12]]) else bif slHigh X p5 p6 then some (.ret, slFr m s 1 0 6, [[.cx .f32 a b, .cx .f32 c d], [.cx .f32 X U], encTr [p0, p1, p2, p3, p4, p5, p6, p7, p8, p9, p10, p11, p12]]) else some (.norm, slFr m s 1 1 7, [[.cx .f32 a b, .cx .f32 c d], [.cx .f32 X U], encTr [p0, p1, p2, p3, p4, p5, p6, p7, p8, p9, p10, p11, p12]])) else some (.norm, slFr m s 1 0 7, [[.cx .f32 a b, .cx .f32 c d], [.cx .f32 X U], encTr [p0, p1, p2, p3, p4, p5, p6, p7, p8, p9, p10, p11, p12]])) else some (.norm, slFr m s 1 0 7, [[.cx .f32 a b, .cx .f32 c d], [.cx .f32 X U], encTr [p0, p1, p2, p3, p4, p5, p6, p7, p8, p9, p10, p11, p12]]) := by kernel_rfl
theorem sl_round11_6 (m : Value) (s a b c d X U : F32) (p0 p1 p2 p3 p4 p5 p6 p7 p8 p9 p10 p11 p12 : Sh) : exK Try.prog [] [] [] (G := anyW) [] 0 noRule [] 400 0 0 (loopN 0 Try.f7) (slFr m s 1 1 6) [[.cx .f32 a b, .cx .f32 c d], [.cx .f32 X U], encTr [p0, p1, p2, p3, p4, p5, p6, p7, p8, p9, p10, p11, p12]] (keepK slMk 3) =
    bif lt p5.y (c32 0) then (bif ge p6.y (c32 0) then (some (.ret, slFr m s 1 1 6, [[.cx .f32 a b, .cx .f32 c d], [.cx .f32 X U], encTr [p0, p1, p2, p3, p4, p5, p6, p7, p8, p9, p10, p11, p12]])) else some (.norm, slFr m s 1 1 7, [[.cx .f32 a b, .cx .f32 c d], [.cx .f32 X U], encTr [p0, p1, p2, p3, p4, p5, p6, p7, p8, p9, p10, p11, p12]])) else some (.norm, slFr m s 1 1 7, [[.cx .f32 a b, .cx .f32 c d], [.cx .f32 X U], encTr [p0, p1, p2, p3, p4, p5, p6, p7, p8, p9, p10, p11, p12]]) := by kernel_rfl
theorem sl_round00_7 (m : Value) (s a b c d : F32) (p0 p1 p2 p3 p4 p5 p6 p7 p8 p9 p10 p11 p12 : Sh) : exK Try.prog [] [] [] (G := anyW) [] 0 noRule [] 400 0 0 (loopN 0 Try.f7) (slFr m s 0 0 7) [[.cx .f32 a b, .cx .f32 c d], [], encTr [p0, p1, p2, p3, p4, p5, p6, p7, p8, p9, p10, p11, p12]] (keepK slMk 3) =
    bif lt p6.y (c32 0) then (bif ge p7.y (c32 0) then (some (.ret, slFr m s 0 0 7, [[.cx .f32 a b, .cx .f32 c d], [], encTr [p0, p1, p2, p3, p4, p5, p6, p7, p8, p9, p10, p11, p12]])) else some (.norm, slFr m s 0 0 8, [[.cx .f32 a b, .cx .f32 c d], [], encTr [p0, p1, p2, p3, p4, p5, p6, p7, p8, p9, p10, p11, p12]])) else some (.norm, slFr m s 0 0 8, [[.cx .f32 a b, .cx .f32 c d], [], encTr [p0, p1, p2, p3, p4, p5, p6, p7, p8, p9, p10, p11, p12]]) := by kernel_rfl
theorem sl_round10_7 (m : Value) (s a b c d X U : F32) (p0 p1 p2 p3 p4 p5 p6 p7 p8 p9 p10 p11 p12 : Sh) : exK Try.prog [] [] [] (G := anyW) [] 0 noRule [] 400 0 0 (loopN 0 Try.f7) (slFr m s 1 0 7) [[.cx .f32 a b, .cx .f32 c d], [.cx .f32 X U], encTr [p0, p1, p2, p3, p4, p5, p6, p7, p8, p9, p10, p11, p12]] (keepK slMk 3) =
    bif lt p6.y (c32 0) then (bif ge p7.y (c32 0) then (bif slLow X p6 p7 then some (.ret, slFr m s 1 0 7, [[.cx .f32 a b, .cx .f32 c d], [.cx .f32 X U], encTr [p0, p1, p2, p3, p4, p5, p6, p7, p8, p9, p10, p11, p12]]) else bif slHigh X p6 p7 then some (.ret, slFr m s 1 0 7, [[.cx .f32 a b, .cx .f32 c d], [.cx .f32 X U], encTr [p0, p1, p2, p3, p4, p5, p6, p7, p8, p9, p10, p11, p12]]) else some (.norm, slFr m s 1 1 8, [[.cx .f32 a b, .cx .f32 c d], [.cx .f32 X U], encTr [p0, p1, p2, p3, p4, p5, p6, p7, p8, p9, p10, p11, p12]])) else some (.norm, slFr m s 1 0 8, [[.cx .f32 a b, .cx .f32 c d], [.cx .f32 X U], encTr [p0, p1, p2, p3, p4, p5, p6, p7, p8, p9, p10, p11, p12]])) else some (.norm, slFr m s 1 0 8, [[.cx .f32 a b, .cx .f32 c d], [.cx .f32 X U], encTr [p0, p1, p2, p3, p4, p5, p6, p7, p8, p9, p10, p11, p12]]) := by kernel_rfl
theorem sl_round11_7 (m : Value) (s a b c d X U : F32) (p0 p1 p2 p3 p4 p5 p6 p7 p8 p9 p10 p11 p12 : Sh) : exK Try.prog [] [] [] (G := anyW) [] 0 noRule [] 400 0 0 (loopN 0 Try.f7) (slFr m s 1 1 7) [[.cx .f32 a b, .cx .f32 c d], [.cx .f32 X U], encTr [p0, p1, p2, p3, p4, p5, p6, p7, p8, p9, p10, p11, p12]] (keepK slMk 3) =
    bif lt p6.y (c32 0) then (bif ge p7.y (c32 0) then (some (.ret, slFr m s 1 1 7, [[.cx .f32 a b, .cx .f32 c d], [.cx .f32 X U], encTr [p0, p1, p2, p3, p4, p5, p6, p7, p8, p9, p10, p11, p12]])) else some (.norm, slFr m s 1 1 8, [[.cx .f32 a b, .cx .f32 c d], [.cx .f32 X U], encTr [p0, p1, p2, p3, p4, p5, p6, p7, p8, p9, p10, p11, p12]])) else some (.norm, slFr m s 1 1 8, [[.cx .f32 a b, .cx .f32 c d], [.cx .f32 X U], encTr [p0, p1, p2, p3, p4, p5, p6, p7, p8, p9, p10, p11, p12]]) := by kernel_rfl
theorem sl_round00_8 (m : Value) (s a b c d : F32) (p0 p1 p2 p3 p4 p5 p6 p7 p8 p9 p10 p11 p12 : Sh) : exK Try.prog [] [] [] (G := anyW) [] 0 noRule [] 400 0 0 (loopN 0 Try.f7) (slFr m s 0 0 8) [[.cx .f32 a b, .cx .f32 c d], [], encTr [p0, p1, p2, p3, p4, p5, p6, p7, p8, p9, p10, p11, p12]] (keepK slMk 3) =
    bif lt p7.y (c32 0) then (bif ge p8.y (c32 0) then (some (.ret, slFr m s 0 0 8, [[.cx .f32 a b, .cx .f32 c d], [], encTr [p0, p1, p2, p3, p4, p5, p6, p7, p8, p9, p10, p11, p12]])) else some (.norm, slFr m s 0 0 9, [[.cx .f32 a b, .cx .f32 c d], [], encTr [p0, p1, p2, p3, p4, p5, p6, p7, p8, p9, p10, p11, p12]])) else some (.norm, slFr m s 0 0 9, [[.cx .f32 a b, .cx .f32 c d], [], encTr [p0, p1, p2, p3, p4, p5, p6, p7, p8, p9, p10, p11, p12]]) := by kernel_rfl
theorem sl_round10_8 (m : Value) (s a b c d X U : F32) (p0 p1 p2 p3 p4 p5 p6 p7 p8 p9 p10 p11 p12 : Sh) : exK Try.prog [] [] [] (G := anyW) [] 0 noRule [] 400 0 0 (loopN 0 Try.f7) (slFr m s 1 0 8) [[.cx .f32 a b, .cx .f32 c d], [.cx .f32 X U], encTr [p0, p1, p2, p3, p4, p5, p6, p7, p8, p9, p10, p11, p12]] (keepK slMk 3) =
    bif lt p7.y (c32 0) then (bif ge p8.y (c32 0) then (bif slLow X p7 p8 then some (.ret, slFr m s 1 0 8, [[.cx .f32 a b, .cx .f32 c d], [.cx .f32 X U], encTr [p0, p1, p2, p3, p4, p5, p6, p7, p8, p9, p10, p11, p12]]) else bif slHigh X p7 p8 then some (.ret, slFr m s 1 0 8, [[.cx .f32 a b, .cx .f32 c d], [.cx .f32 X U], encTr [p0, p1, p2, p3, p4, p5, p6, p7, p8, p9, p10, p11, p12]]) else some (.norm, slFr m s 1 1 9, [[.cx .f32 a b, .cx .f32 c d], [.cx .f32 X U], encTr [p0, p1, p2, p3, p4, p5, p6, p7, p8, p9, p10, p11, p12]])) else some (.norm, slFr m s 1 0 9, [[.cx .f32 a b, .cx .f32 c d], [.cx .f32 X U], encTr [p0, p1, p2, p3, p4, p5, p6, p7, p8, p9, p10, p11, p12]])) else some (.norm, slFr m s 1 0 9, [[.cx .f32 a b, .cx .f32 c d], [.cx .f32 X U], encTr [p0, p1, p2, p3, p4, p5, p6, p7, p8, p9, p10, p11, p12]]) := by kernel_rfl
theorem sl_round11_8 (m : Value) (s a b c d X U : F32) (p0 p1 p2 p3 p4 p5 p6 p7 p8 p9 p10 p11 p12 : Sh) : exK Try.prog [] [] [] (G := anyW) [] 0 noRule [] 400 0 0 (loopN 0 Try.f7) (slFr m s 1 1 8) [[.cx .f32 a b, .cx .f32 c d], [.cx .f32 X U], encTr [p0, p1, p2, p3, p4, p5, p6, p7, p8, p9, p10, p11, p12]] (keepK slMk 3) =
    bif lt p7.y (c32 0) then (bif ge p8.y (c32 0) then (some (.ret, slFr m s 1 1 8, [[.cx .f32 a b, .cx .f32 c d], [.cx .f32 X U], encTr [p0, p1, p2, p3, p4, p5, p6, p7, p8, p9, p10, p11, p12]])) else some (.norm, slFr m s 1 1 9, [[.cx .f32 a b, .cx .f32 c d], [.cx .f32 X U], encTr [p0, p1, p2, p3, p4, p5, p6, p7, p8, p9, p10, p11, p12]])) else some (.norm, slFr m s 1 1 9, [[.cx .f32 a b, .cx .f32 c d], [.cx .f32 X U], encTr [p0, p1, p2, p3, p4, p5, p6, p7, p8, p9, p10, p11, p12]]) := by kernel_rfl
theorem sl_round00_9 (m : Value) (s a b c d : F32) (p0 p1 p2 p3 p4 p5 p6 p7 p8 p9 p10 p11 p12 : Sh) : exK Try.prog [] [] [] (G := anyW) [] 0 noRule [] 400 0 0 (loopN 0 Try.f7) (slFr m s 0 0 9) [[.cx .f32 a b, .cx .f32 c d], [], encTr [p0, p1, p2, p3, p4, p5, p6, p7, p8, p9, p10, p11, p12]] (keepK slMk 3) =
    bif lt p8.y (c32 0) then (bif ge p9.y (c32 0) then (some (.ret, slFr m s 0 0 9, [[.cx .f32 a b, .cx .f32 c d], [], encTr [p0, p1, p2, p3, p4, p5, p6, p7, p8, p9, p10, p11, p12]])) else some (.norm, slFr m s 0 0 10, [[.cx .f32 a b, .cx .f32 c d], [], encTr [p0, p1, p2, p3, p4, p5, p6, p7, p8, p9, p10, p11, p12]])) else some (.norm, slFr m s 0 0 10, [[.cx .f32 a b, .cx .f32 c d], [], encTr [p0, p1, p2, p3, p4, p5, p6, p7, p8, p9, p10, p11, p12]]) := by kernel_rfl
theorem sl_round10_9 (m : Value) (s a b c d X U : F32) (p0 p1 p2 p3 p4 p5 p6 p7 p8 p9 p10 p11 p12 : Sh) : exK Try.prog [] [] [] (G := anyW) [] 0 noRule [] 400 0 0 (loopN 0 Try.f7) (slFr m s 1 0 9) [[.cx .f32 a b, .cx .f32 c d], [.cx .f32 X U], encTr [p0, p1, p2, p3, p4, p5, p6, p7, p8, p9, p10, p11, p12]] (keepK slMk 3) =
    bif lt p8.y (c32 0) then (bif ge p9.y (c32 0) then (bif slLow X p8 p9 then some (.ret, slFr m s 1 0 9, [[.cx .f32 a b, .cx .f32 c d], [.cx .f32 X U], encTr [p0, p1, p2, p3, p4, p5, p6, p7, p8, p9, p10, p11, p12]]) else bif slHigh X p8 p9 then some (.ret, slFr m s 1 0 9, [[.cx .f32 a b, .cx .f32 c d], [.cx .f32 X U], encTr [p0, p1, p2, p3, p4, p5, p6, p7, p8, p9, p10, p11, p12]]) else some (.norm, slFr m s 1 1 10, [[.cx .f32 a b, .cx .f32 c d], [.cx .f32 X U], encTr [p0, p1, p2, p3, p4, p5, p6, p7, p8, p9, p10, p11, p12]])) else some (.norm, slFr m s 1 0 10, [[.cx .f32 a b, .cx .f32 c d], [.cx .f32 X U], encTr [p0, p1, p2, p3, p4, p5, p6, p7, p8, p9, p10, p11, p12]])) else some (.norm, slFr m s 1 0 10, [[.cx .f32 a b, .cx .f32 c d], [.cx .f32 X U], encTr [p0, p1, p2, p3, p4, p5, p6, p7, p8, p9, p10, p11, p12]]) := by kernel_rfl
theorem sl_round11_9 (m : Value) (s a b c d X U : F32) (p0 p1 p2 p3 p4 p5 p6 p7 p8 p9 p10 p11 p12 : Sh) : exK Try.prog [] [] [] (G := anyW) [] 0 noRule [] 400 0 0 (loopN 0 Try.f7) (slFr m s 1 1 9) [[.cx .f32 a b, .cx .f32 c d], [.cx .f32 X U], encTr [p0, p1, p2, p3, p4, p5, p6, p7, p8, p9, p10, p11, p12]] (keepK slMk 3) =
    bif lt p8.y (c32 0) then (bif ge p9.y (c32 0) then (some (.ret, slFr m s 1 1 9, [[.cx .f32 a b, .cx .f32 c d], [.cx .f32 X U], encTr [p0, p1, p2, p3, p4, p5, p6, p7, p8, p9, p10, p11, p12]])) else some (.norm, slFr m s 1 1 10, [[.cx .f32 a b, .cx .f32 c d], [.cx .f32 X U], encTr [p0, p1, p2, p3, p4, p5, p6, p7, p8, p9, p10, p11, p12]])) else some (.norm, slFr m s 1 1 10, [[.cx .f32 a b, .cx .f32 c d], [.cx .f32 X U], encTr [p0, p1, p2, p3, p4, p5, p6, p7, p8, p9, p10, p11, p12]]) := by kernel_rfl
theorem sl_round00_10 (m : Value) (s a b c d : F32) (p0 p1 p2 p3 p4 p5 p6 p7 p8 p9 p10 p11 p12 : Sh) : exK Try.prog [] [] [] (G := anyW) [] 0 noRule [] 400 0 0 (loopN 0 Try.f7) (slFr m s 0 0 10) [[.cx .f32 a b, .cx .f32 c d], [], encTr [p0, p1, p2, p3, p4, p5, p6, p7, p8, p9, p10, p11, p12]] (keepK slMk 3) =
    bif lt p9.y (c32 0) then (bif ge p10.y (c32 0) then (some (.ret, slFr m s 0 0 10, [[.cx .f32 a b, .cx .f32 c d], [], encTr [p0, p1, p2, p3, p4, p5, p6, p7, p8, p9, p10, p11, p12]])) else some (.norm, slFr m s 0 0 11, [[.cx .f32 a b, .cx .f32 c d], [], encTr [p0, p1, p2, p3, p4, p5, p6, p7, p8, p9, p10, p11, p12]])) else some (.norm, slFr m s 0 0 11, [[.cx .f32 a b, .cx .f32 c d], [], encTr [p0, p1, p2, p3, p4, p5, p6, p7, p8, p9, p10, p11, p12]]) := by kernel_rfl
theorem sl_round10_10 (m : Value) (s a b c d X U : F32) (p0 p1 p2 p3 p4 p5 p6 p7 p8 p9 p10 p11 p12 : Sh) : exK Try.prog [] [] [] (G := anyW) [] 0 noRule [] 400 0 0 (loopN 0 Try.f7) (slFr m s 1 0 10) [[.cx .f32 a b, .cx .f32 c d], [.cx .f32 X U], encTr [p0, p1, p2, p3, p4, p5, p6, p7, p8, p9, p10, p11, p12]] (keepK slMk 3) =
    bif lt p9.y (c32 0) then (bif ge p10.y (c32 0) then (bif slLow X p9 p10 then some (.ret, slFr m s 1 0 10, [[.cx .f32 a b, .cx .f32 c d], [.cx .f32 X U], encTr [p0, p1, p2, p3, p4, p5, p6, p7, p8, p9, p10, p11, p12]]) else bif slHigh X p9 p10 then some (.ret, slFr m s 1 0 10, [[.cx .f32 a b, .cx .f32 c d], [.cx .f32 X U], encTr [p0, p1, p2, p3, p4, p5, p6, p7, p8, p9, p10, p11, p12]]) else some (.norm, slFr m s 1 1 11, [[.cx .f32 a b, .cx .f32 c d], [.cx .f32 X U], encTr [p0, p1, p2, p3, p4, p5, p6, p7, p8, p9, p10, p11, p12]])) else some (.norm, slFr m s 1 0 11, [[.cx .f32 a b, .cx .f32 c d], [.cx .f32 X U], encTr [p0, p1, p2, p3, p4, p5, p6, p7, p8, p9, p10, p11, p12]])) else some (.norm, slFr m s 1 0 11, [[.cx .f32 a b, .cx .f32 c d], [.cx .f32 X U], encTr [p0, p1, p2, p3, p4, p5, p6, p7, p8, p9, p10, p11, p12]]) := by kernel_rfl
theorem sl_round11_10 (m : Value) (s a b c d X U : F32) (p0 p1 p2 p3 p4 p5 p6 p7 p8 p9 p10 p11 p12 : Sh) : exK Try.prog [] [] [] (G := anyW) [] 0 noRule [] 400 0 0 (loopN 0 Try.f7) (slFr m s 1 1 10) [[.cx .f32 a b, .cx .f32 c d], [.cx .f32 X U], encTr [p0, p1, p2, p3, p4, p5, p6, p7, p8, p9, p10, p11, p12]] (keepK slMk 3) =
    bif lt p9.y (c32 0) then (bif ge p10.y (c32 0) then (some (.ret, slFr m s 1 1 10, [[.cx .f32 a b, .cx .f32 c d], [.cx .f32 X U], encTr [p0, p1, p2, p3, p4, p5, p6, p7, p8, p9, p10, p11, p12]])) else some (.norm, slFr m s 1 1 11, [[.cx .f32 a b, .cx .f32 c d], [.cx .f32 X U], encTr [p0, p1, p2, p3, p4, p5, p6, p7, p8, p9, p10, p11, p12]])) else some (.norm, slFr m s 1 1 11, [[.cx .f32 a b, .cx .f32 c d], [.cx .f32 X U], encTr [p0, p1, p2, p3, p4, p5, p6, p7, p8, p9, p10, p11, p12]]) := by kernel_rfl
theorem sl_round00_11 (m : Value) (s a b c d : F32) (p0 p1 p2 p3 p4 p5 p6 p7 p8 p9 p10 p11 p12 : Sh) : exK Try.prog [] [] [] (G := anyW) [] 0 noRule [] 400 0 0 (loopN 0 Try.f7) (slFr m s 0 0 11) [[.cx .f32 a b, .cx .f32 c d], [], encTr [p0, p1, p2, p3, p4, p5, p6, p7, p8, p9, p10, p11, p12]] (keepK slMk 3) =
    bif lt p10.y (c32 0) then (bif ge p11.y (c32 0) then (some (.ret, slFr m s 0 0 11, [[.cx .f32 a b, .cx .f32 c d], [], encTr [p0, p1, p2, p3, p4, p5, p6, p7, p8, p9, p10, p11, p12]])) else some (.norm, slFr m s 0 0 12, [[.cx .f32 a b, .cx .f32 c d], [], encTr [p0, p1, p2, p3, p4, p5, p6, p7, p8, p9, p10, p11, p12]])) else some (.norm, slFr m s 0 0 12, [[.cx .f32 a b, .cx .f32 c d], [], encTr [p0, p1, p2, p3, p4, p5, p6, p7, p8, p9, p10, p11, p12]]) := by kernel_rfl
theorem sl_round10_11 (m : Value) (s a b c d X U : F32) (p0 p1 p2 p3 p4 p5 p6 p7 p8 p9 p10 p11 p12 : Sh) : exK Try.prog [] [] [] (G := anyW) [] 0 noRule [] 400 0 0 (loopN 0 Try.f7) (slFr m s 1 0 11) [[.cx .f32 a b, .cx .f32 c d], [.cx .f32 X U], encTr [p0, p1, p2, p3, p4, p5, p6, p7, p8, p9, p10, p11, p12]] (keepK slMk 3) =
    bif lt p10.y (c32 0) then (bif ge p11.y (c32 0) then (bif slLow X p10 p11 then some (.ret, slFr m s 1 0 11, [[.cx .f32 a b, .cx .f32 c d], [.cx .f32 X U], encTr [p0, p1, p2, p3, p4, p5, p6, p7, p8, p9, p10, p11, p12]]) else bif slHigh X p10 p11 then some (.ret, slFr m s 1 0 11, [[.cx .f32 a b, .cx .f32 c d], [.cx .f32 X U], encTr [p0, p1, p2, p3, p4, p5, p6, p7, p8, p9, p10, p11, p12]]) else some (.norm, slFr m s 1 1 12, [[.cx .f32 a b, .cx .f32 c d], [.cx .f32 X U], encTr [p0, p1, p2, p3, p4, p5, p6, p7, p8, p9, p10, p11, p12]])) else some (.norm, slFr m s 1 0 12, [[.cx .f32 a b, .cx .f32 c d], [.cx .f32 X U], encTr [p0, p1, p2, p3, p4, p5, p6, p7, p8, p9, p10, p11, p12]])) else some (.norm, slFr m s 1 0 12, [[.cx .f32 a b, .cx .f32 c d], [.cx .f32 X U], encTr [p0, p1, p2, p3, p4, p5, p6, p7, p8, p9, p10, p11, p12]]) := by kernel_rfl
theorem sl_round11_11 (m : Value) (s a b c d X U : F32) (p0 p1 p2 p3 p4 p5 p6 p7 p8 p9 p10 p11 p12 : Sh) : exK Try.prog [] [] [] (G := anyW) [] 0 noRule [] 400 0 0 (loopN 0 Try.f7) (slFr m s 1 1 11) [[.cx .f32 a b, .cx .f32 c d], [.cx .f32 X U], encTr [p0, p1, p2, p3, p4, p5, p6, p7, p8, p9, p10, p11, p12]] (keepK slMk 3) =
    bif lt p10.y (c32 0) then (bif ge p11.y (c32 0) then (some (.ret, slFr m s 1 1 11, [[.cx .f32 a b, .cx .f32 c d], [.cx .f32 X U], encTr [p0, p1, p2, p3, p4, p5, p6, p7, p8, p9, p10, p11, p12]])) else some (.norm, slFr m s 1 1 12, [[.cx .f32 a b, .cx .f32 c d], [.cx .f32 X U], encTr [p0, p1, p2, p3, p4, p5, p6, p7, p8, p9, p10, p11, p12]])) else some (.norm, slFr m s 1 1 12, [[.cx .f32 a b, .cx .f32 c d], [.cx .f32 X U], encTr [p0, p1, p2, p3, p4, p5, p6, p7, p8, p9, p10, p11, p12]]) := by kernel_rfl
theorem sl_round00_12 (m : Value) (s a b c d : F32) (p0 p1 p2 p3 p4 p5 p6 p7 p8 p9 p10 p11 p12 : Sh) : exK Try.prog [] [] [] (G := anyW) [] 0 noRule [] 400 0 0 (loopN 0 Try.f7) (slFr m s 0 0 12) [[.cx .f32 a b, .cx .f32 c d], [], encTr [p0, p1, p2, p3, p4, p5, p6, p7, p8, p9, p10, p11, p12]] (keepK slMk 3) =
    bif lt p11.y (c32 0) then (bif ge p12.y (c32 0) then (some (.ret, slFr m s 0 0 12, [[.cx .f32 a b, .cx .f32 c d], [], encTr [p0, p1, p2, p3, p4, p5, p6, p7, p8, p9, p10, p11, p12]])) else some (.norm, slFr m s 0 0 13, [[.cx .f32 a b, .cx .f32 c d], [], encTr [p0, p1, p2, p3, p4, p5, p6, p7, p8, p9, p10, p11, p12]])) else some (.norm, slFr m s 0 0 13, [[.cx .f32 a b, .cx .f32 c d], [], encTr [p0, p1, p2, p3, p4, p5, p6, p7, p8, p9, p10, p11, p12]]) := by kernel_rfl
theorem sl_round10_12 (m : Value) (s a b c d X U : F32) (p0 p1 p2 p3 p4 p5 p6 p7 p8 p9 p10 p11 p12 : Sh) : exK Try.prog [] [] [] (G := anyW) [] 0 noRule [] 400 0 0 (loopN 0 Try.f7) (slFr m s 1 0 12) [[.cx .f32 a b, .cx .f32 c d], [.cx .f32 X U], encTr [p0, p1, p2, p3, p4, p5, p6, p7, p8, p9, p10, p11, p12]] (keepK slMk 3) =
    bif lt p11.y (c32 0) then (bif ge p12.y (c32 0) then (bif slLow X p11 p12 then some (.ret, slFr m s 1 0 12, [[.cx .f32 a b, .cx .f32 c d], [.cx .f32 X U], encTr [p0, p1, p2, p3, p4, p5, p6, p7, p8, p9, p10, p11, p12]]) else bif slHigh X p11 p12 then some (.ret, slFr m s 1 0 12, [[.cx .f32 a b, .cx .f32 c d], [.cx .f32 X U], encTr [p0, p1, p2, p3, p4, p5, p6, p7, p8, p9, p10, p11, p12]]) else some (.norm, slFr m s 1 1 13, [[.cx .f32 a b, .cx .f32 c d], [.cx .f32 X U], encTr [p0, p1, p2, p3, p4, p5, p6, p7, p8, p9, p10, p11, p12]])) else some (.norm, slFr m s 1 0 13, [[.cx .f32 a b, .cx .f32 c d], [.cx .f32 X U], encTr [p0, p1, p2, p3, p4, p5, p6, p7, p8, p9, p10, p11, p12]])) else some (.norm, slFr m s 1 0 13, [[.cx .f32 a b, .cx .f32 c d], [.cx .f32 X U], encTr [p0, p1, p2, p3, p4, p5, p6, p7, p8, p9, p10, p11, p12]]) := by kernel_rfl
theorem sl_round11_12 (m : Value) (s a b c d X U : F32) (p0 p1 p2 p3 p4 p5 p6 p7 p8 p9 p10 p11 p12 : Sh) : exK Try.prog [] [] [] (G := anyW) [] 0 noRule [] 400 0 0 (loopN 0 Try.f7) (slFr m s 1 1 12) [[.cx .f32 a b, .cx .f32 c d], [.cx .f32 X U], encTr [p0, p1, p2, p3, p4, p5, p6, p7, p8, p9, p10, p11, p12]] (keepK slMk 3) =
    bif lt p11.y (c32 0) then (bif ge p12.y (c32 0) then (some (.ret, slFr m s 1 1 12, [[.cx .f32 a b, .cx .f32 c d], [.cx .f32 X U], encTr [p0, p1, p2, p3, p4, p5, p6, p7, p8, p9, p10, p11, p12]])) else some (.norm, slFr m s 1 1 13, [[.cx .f32 a b, .cx .f32 c d], [.cx .f32 X U], encTr [p0, p1, p2, p3, p4, p5, p6, p7, p8, p9, p10, p11, p12]])) else some (.norm, slFr m s 1 1 13, [[.cx .f32 a b, .cx .f32 c d], [.cx .f32 X U], encTr [p0, p1, p2, p3, p4, p5, p6, p7, p8, p9, p10, p11, p12]]) := by kernel_rfl
theorem sl_last00 (m : Value) (s a b c d : F32) (p0 p1 p2 p3 p4 p5 p6 p7 p8 p9 p10 p11 p12 : Sh) : exK Try.prog [] [] [] (G := anyW) [] 0 noRule [] 400 0 0 (loopN 0 Try.f7) (slFr m s 0 0 13) [[.cx .f32 a b, .cx .f32 c d], [], encTr [p0, p1, p2, p3, p4, p5, p6, p7, p8, p9, p10, p11, p12]] (keepK slMk 3) = some (.exit 0, slFr m s 0 0 13, [[.cx .f32 a b, .cx .f32 c d], [], encTr [p0, p1, p2, p3, p4, p5, p6, p7, p8, p9, p10, p11, p12]]) := by kernel_rfl
theorem sl_last11 (m : Value) (s a b c d X U : F32) (p0 p1 p2 p3 p4 p5 p6 p7 p8 p9 p10 p11 p12 : Sh) : exK Try.prog [] [] [] (G := anyW) [] 0 noRule [] 400 0 0 (loopN 0 Try.f7) (slFr m s 1 1 13) [[.cx .f32 a b, .cx .f32 c d], [.cx .f32 X U], encTr [p0, p1, p2, p3, p4, p5, p6, p7, p8, p9, p10, p11, p12]] (keepK slMk 3) = some (.exit 0, slFr m s 1 1 13, [[.cx .f32 a b, .cx .f32 c d], [.cx .f32 X U], encTr [p0, p1, p2, p3, p4, p5, p6, p7, p8, p9, p10, p11, p12]]) := by kernel_rfl
/-- The pair at j crosses, near x, and no other one. -/
def slOnly (x : F32) : Nat → List Sh → Bool
  | 0, a :: b :: L => crT a b && (!(slLow x a b) && (!(slHigh x a b) && crNo (b :: L)))
  | j + 1, a :: b :: L => !(crT a b) && slOnly x j (b :: L)
  | _, _ => false
theorem sl_no00_13 (w0 : Base) (hw : w0.s0.length ≤ 0) (m : Value) (s a b c d : F32) (p0 p1 p2 p3 p4 p5 p6 p7 p8 p9 p10 p11 p12 : Sh) : InGoes Try.prog 0 w0 (loopN 0 Try.f7) (slFr m s 0 0 13) [[.cx .f32 a b, .cx .f32 c d], [], encTr [p0, p1, p2, p3, p4, p5, p6, p7, p8, p9, p10, p11, p12]] (.exit 0) (slFr m s 0 0 13) [[.cx .f32 a b, .cx .f32 c d], [], encTr [p0, p1, p2, p3, p4, p5, p6, p7, p8, p9, p10, p11, p12]] :=
  goes_last (fun h => by cases h) (goes_of_exK w0 hw (sl_last00 m s a b c d p0 p1 p2 p3 p4 p5 p6 p7 p8 p9 p10 p11 p12))
theorem sl_no00_12 (w0 : Base) (hw : w0.s0.length ≤ 0) (m : Value) (s a b c d : F32) (p0 p1 p2 p3 p4 p5 p6 p7 p8 p9 p10 p11 p12 : Sh) (h : crNo [p11, p12] = true) : InGoes Try.prog 0 w0 (loopN 0 Try.f7) (slFr m s 0 0 12) [[.cx .f32 a b, .cx .f32 c d], [], encTr [p0, p1, p2, p3, p4, p5, p6, p7, p8, p9, p10, p11, p12]] (.exit 0) (slFr m s 0 0 13) [[.cx .f32 a b, .cx .f32 c d], [], encTr [p0, p1, p2, p3, p4, p5, p6, p7, p8, p9, p10, p11, p12]] := by
  have hr := sl_round00_12 m s a b c d p0 p1 p2 p3 p4 p5 p6 p7 p8 p9 p10 p11 p12
  have h' : (!(crT p11 p12) && crNo [p12]) = true := h
  rw [Bool.and_eq_true, Bool.not_eq_true'] at h'
  have hn := sl_no00_13 w0 hw m s a b c d p0 p1 p2 p3 p4 p5 p6 p7 p8 p9 p10 p11 p12
  rcases cr_cases h'.1 with h1 | ⟨h1, h2⟩
  · rw [h1] at hr
    exact goes_round (goes_of_exK w0 hw hr) hn
  · rw [h1, h2] at hr
    exact goes_round (goes_of_exK w0 hw hr) hn
theorem sl_no00_11 (w0 : Base) (hw : w0.s0.length ≤ 0) (m : Value) (s a b c d : F32) (p0 p1 p2 p3 p4 p5 p6 p7 p8 p9 p10 p11 p12 : Sh) (h : crNo [p10, p11, p12] = true) : InGoes Try.prog 0 w0 (loopN 0 Try.f7) (slFr m s 0 0 11) [[.cx .f32 a b, .cx .f32 c d], [], encTr [p0, p1, p2, p3, p4, p5, p6, p7, p8, p9, p10, p11, p12]] (.exit 0) (slFr m s 0 0 13) [[.cx .f32 a b, .cx .f32 c d], [], encTr [p0, p1, p2, p3, p4, p5, p6, p7, p8, p9, p10, p11, p12]] := by
  have hr := sl_round00_11 m s a b c d p0 p1 p2 p3 p4 p5 p6 p7 p8 p9 p10 p11 p12
  have h' : (!(crT p10 p11) && crNo [p11, p12]) = true := h
  rw [Bool.and_eq_true, Bool.not_eq_true'] at h'
  have hn := sl_no00_12 w0 hw m s a b c d p0 p1 p2 p3 p4 p5 p6 p7 p8 p9 p10 p11 p12 h'.2
  rcases cr_cases h'.1 with h1 | ⟨h1, h2⟩
  · rw [h1] at hr
    exact goes_round (goes_of_exK w0 hw hr) hn
  · rw [h1, h2] at hr
    exact goes_round (goes_of_exK w0 hw hr) hn
theorem sl_no00_10 (w0 : Base) (hw : w0.s0.length ≤ 0) (m : Value) (s a b c d : F32) (p0 p1 p2 p3 p4 p5 p6 p7 p8 p9 p10 p11 p12 : Sh) (h : crNo [p9, p10, p11, p12] = true) : InGoes Try.prog 0 w0 (loopN 0 Try.f7) (slFr m s 0 0 10) [[.cx .f32 a b, .cx .f32 c d], [], encTr [p0, p1, p2, p3, p4, p5, p6, p7, p8, p9, p10, p11, p12]] (.exit 0) (slFr m s 0 0 13) [[.cx .f32 a b, .cx .f32 c d], [], encTr [p0, p1, p2, p3, p4, p5, p6, p7, p8, p9, p10, p11, p12]] := by
  have hr := sl_round00_10 m s a b c d p0 p1 p2 p3 p4 p5 p6 p7 p8 p9 p10 p11 p12
  have h' : (!(crT p9 p10) && crNo [p10, p11, p12]) = true := h
  rw [Bool.and_eq_true, Bool.not_eq_true'] at h'
  have hn := sl_no00_11 w0 hw m s a b c d p0 p1 p2 p3 p4 p5 p6 p7 p8 p9 p10 p11 p12 h'.2
  rcases cr_cases h'.1 with h1 | ⟨h1, h2⟩
  · rw [h1] at hr
    exact goes_round (goes_of_exK w0 hw hr) hn
  · rw [h1, h2] at hr
    exact goes_round (goes_of_exK w0 hw hr) hn
theorem sl_no00_9 (w0 : Base) (hw : w0.s0.length ≤ 0) (m : Value) (s a b c d : F32) (p0 p1 p2 p3 p4 p5 p6 p7 p8 p9 p10 p11 p12 : Sh) (h : crNo [p8, p9, p10, p11, p12] = true) : InGoes Try.prog 0 w0 (loopN 0 Try.f7) (slFr m s 0 0 9) [[.cx .f32 a b, .cx .f32 c d], [], encTr [p0, p1, p2, p3, p4, p5, p6, p7, p8, p9, p10, p11, p12]] (.exit 0) (slFr m s 0 0 13) [[.cx .f32 a b, .cx .f32 c d], [], encTr [p0, p1, p2, p3, p4, p5, p6, p7, p8, p9, p10, p11, p12]] := by
  have hr := sl_round00_9 m s a b c d p0 p1 p2 p3 p4 p5 p6 p7 p8 p9 p10 p11 p12
  have h' : (!(crT p8 p9) && crNo [p9, p10, p11, p12]) = true := h
  rw [Bool.and_eq_true, Bool.not_eq_true'] at h'
  have hn := sl_no00_10 w0 hw m s a b c d p0 p1 p2 p3 p4 p5 p6 p7 p8 p9 p10 p11 p12 h'.2
  rcases cr_cases h'.1 with h1 | ⟨h1, h2⟩
  · rw [h1] at hr
    exact goes_round (goes_of_exK w0 hw hr) hn
  · rw [h1, h2] at hr
    exact goes_round (goes_of_exK w0 hw hr) hn
theorem sl_no00_8 (w0 : Base) (hw : w0.s0.length ≤ 0) (m : Value) (s a b c d : F32) (p0 p1 p2 p3 p4 p5 p6 p7 p8 p9 p10 p11 p12 : Sh) (h : crNo [p7, p8, p9, p10, p11, p12] = true) : InGoes Try.prog 0 w0 (loopN 0 Try.f7) (slFr m s 0 0 8) [[.cx .f32 a b, .cx .f32 c d], [], encTr [p0, p1, p2, p3, p4, p5, p6, p7, p8, p9, p10, p11, p12]] (.exit 0) (slFr m s 0 0 13) [[.cx .f32 a b, .cx .f32 c d], [], encTr [p0, p1, p2, p3, p4, p5, p6, p7, p8, p9, p10, p11, p12]] := by
  have hr := sl_round00_8 m s a b c d p0 p1 p2 p3 p4 p5 p6 p7 p8 p9 p10 p11 p12
  have h' : (!(crT p7 p8) && crNo [p8, p9, p10, p11, p12]) = true := h
  rw [Bool.and_eq_true, Bool.not_eq_true'] at h'
  have hn := sl_no00_9 w0 hw m s a b c d p0 p1 p2 p3 p4 p5 p6 p7 p8 p9 p10 p11 p12 h'.2
  rcases cr_cases h'.1 with h1 | ⟨h1, h2⟩
  · rw [h1] at hr
    exact goes_round (goes_of_exK w0 hw hr) hn
  · rw [h1, h2] at hr
    exact goes_round (goes_of_exK w0 hw hr) hn
theorem sl_no00_7 (w0 : Base) (hw : w0.s0.length ≤ 0) (m : Value) (s a b c d : F32) (p0 p1 p2 p3 p4 p5 p6 p7 p8 p9 p10 p11 p12 : Sh) (h : crNo [p6, p7, p8, p9, p10, p11, p12] = true) : InGoes Try.prog 0 w0 (loopN 0 Try.f7) (slFr m s 0 0 7) [[.cx .f32 a b, .cx .f32 c d], [], encTr [p0, p1, p2, p3, p4, p5, p6, p7, p8, p9, p10, p11, p12]] (.exit 0) (slFr m s 0 0 13) [[.cx .f32 a b, .cx .f32 c d], [], encTr [p0, p1, p2, p3, p4, p5, p6, p7, p8, p9, p10, p11, p12]] := by
  have hr := sl_round00_7 m s a b c d p0 p1 p2 p3 p4 p5 p6 p7 p8 p9 p10 p11 p12
  have h' : (!(crT p6 p7) && crNo [p7, p8, p9, p10, p11, p12]) = true := h
  rw [Bool.and_eq_true, Bool.not_eq_true'] at h'
  have hn := sl_no00_8 w0 hw m s a b c d p0 p1 p2 p3 p4 p5 p6 p7 p8 p9 p10 p11 p12 h'.2
  rcases cr_cases h'.1 with h1 | ⟨h1, h2⟩
  · rw [h1] at hr
    exact goes_round (goes_of_exK w0 hw hr) hn
  · rw [h1, h2] at hr
    exact goes_round (goes_of_exK w0 hw hr) hn
theorem sl_no00_6 (w0 : Base) (hw : w0.s0.length ≤ 0) (m : Value) (s a b c d : F32) (p0 p1 p2 p3 p4 p5 p6 p7 p8 p9 p10 p11 p12 : Sh) (h : crNo [p5, p6, p7, p8, p9, p10, p11, p12] = true) : InGoes Try.prog 0 w0 (loopN 0 Try.f7) (slFr m s 0 0 6) [[.cx .f32 a b, .cx .f32 c d], [], encTr [p0, p1, p2, p3, p4, p5, p6, p7, p8, p9, p10, p11, p12]] (.exit 0) (slFr m s 0 0 13) [[.cx .f32 a b, .cx .f32 c d], [], encTr [p0, p1, p2, p3, p4, p5, p6, p7, p8, p9, p10, p11, p12]] := by
  have hr := sl_round00_6 m s a b c d p0 p1 p2 p3 p4 p5 p6 p7 p8 p9 p10 p11 p12
  have h' : (!(crT p5 p6) && crNo [p6, p7, p8, p9, p10, p11, p12]) = true := h
  rw [Bool.and_eq_true, Bool.not_eq_true'] at h'
  have hn := sl_no00_7 w0 hw m s a b c d p0 p1 p2 p3 p4 p5 p6 p7 p8 p9 p10 p11 p12 h'.2
  rcases cr_cases h'.1 with h1 | ⟨h1, h2⟩
  · rw [h1] at hr
    exact goes_round (goes_of_exK w0 hw hr) hn
  · rw [h1, h2] at hr
    exact goes_round (goes_of_exK w0 hw hr) hn
theorem sl_no00_5 (w0 : Base) (hw : w0.s0.length ≤ 0) (m : Value) (s a b c d : F32) (p0 p1 p2 p3 p4 p5 p6 p7 p8 p9 p10 p11 p12 : Sh) (h : crNo [p4, p5, p6, p7, p8, p9, p10, p11, p12] = true) : InGoes Try.prog 0 w0 (loopN 0 Try.f7) (slFr m s 0 0 5) [[.cx .f32 a b, .cx .f32 c d], [], encTr [p0, p1, p2, p3, p4, p5, p6, p7, p8, p9, p10, p11, p12]] (.exit 0) (slFr m s 0 0 13) [[.cx .f32 a b, .cx .f32 c d], [], encTr [p0, p1, p2, p3, p4, p5, p6, p7, p8, p9, p10, p11, p12]] := by
  have hr := sl_round00_5 m s a b c d p0 p1 p2 p3 p4 p5 p6 p7 p8 p9 p10 p11 p12
  have h' : (!(crT p4 p5) && crNo [p5, p6, p7, p8, p9, p10, p11, p12]) = true := h
  rw [Bool.and_eq_true, Bool.not_eq_true'] at h'
  have hn := sl_no00_6 w0 hw m s a b c d p0 p1 p2 p3 p4 p5 p6 p7 p8 p9 p10 p11 p12 h'.2
  rcases cr_cases h'.1 with h1 | ⟨h1, h2⟩
  · rw [h1] at hr
    exact goes_round (goes_of_exK w0 hw hr) hn
  · rw [h1, h2] at hr
    exact goes_round (goes_of_exK w0 hw hr) hn
theorem sl_no00_4 (w0 : Base) (hw : w0.s0.length ≤ 0) (m : Value) (s a b c d : F32) (p0 p1 p2 p3 p4 p5 p6 p7 p8 p9 p10 p11 p12 : Sh) (h : crNo [p3, p4, p5, p6, p7, p8, p9, p10, p11, p12] = true) : InGoes Try.prog 0 w0 (loopN 0 Try.f7) (slFr m s 0 0 4) [[.cx .f32 a b, .cx .f32 c d], [], encTr [p0, p1, p2, p3, p4, p5, p6, p7, p8, p9, p10, p11, p12]] (.exit 0) (slFr m s 0 0 13) [[.cx .f32 a b, .cx .f32 c d], [], encTr [p0, p1, p2, p3, p4, p5, p6, p7, p8, p9, p10, p11, p12]] := by
  have hr := sl_round00_4 m s a b c d p0 p1 p2 p3 p4 p5 p6 p7 p8 p9 p10 p11 p12
  have h' : (!(crT p3 p4) && crNo [p4, p5, p6, p7, p8, p9, p10, p11, p12]) = true := h
  rw [Bool.and_eq_true, Bool.not_eq_true'] at h'
  have hn := sl_no00_5 w0 hw m s a b c d p0 p1 p2 p3 p4 p5 p6 p7 p8 p9 p10 p11 p12 h'.2
  rcases cr_cases h'.1 with h1 | ⟨h1, h2⟩
  · rw [h1] at hr
    exact goes_round (goes_of_exK w0 hw hr) hn
  · rw [h1, h2] at hr
    exact goes_round (goes_of_exK w0 hw hr) hn
theorem sl_no00_3 (w0 : Base) (hw : w0.s0.length ≤ 0) (m : Value) (s a b c d : F32) (p0 p1 p2 p3 p4 p5 p6 p7 p8 p9 p10 p11 p12 : Sh) (h : crNo [p2, p3, p4, p5, p6, p7, p8, p9, p10, p11, p12] = true) : InGoes Try.prog 0 w0 (loopN 0 Try.f7) (slFr m s 0 0 3) [[.cx .f32 a b, .cx .f32 c d], [], encTr [p0, p1, p2, p3, p4, p5, p6, p7, p8, p9, p10, p11, p12]] (.exit 0) (slFr m s 0 0 13) [[.cx .f32 a b, .cx .f32 c d], [], encTr [p0, p1, p2, p3, p4, p5, p6, p7, p8, p9, p10, p11, p12]] := by
  have hr := sl_round00_3 m s a b c d p0 p1 p2 p3 p4 p5 p6 p7 p8 p9 p10 p11 p12
  have h' : (!(crT p2 p3) && crNo [p3, p4, p5, p6, p7, p8, p9, p10, p11, p12]) = true := h
  rw [Bool.and_eq_true, Bool.not_eq_true'] at h'
  have hn := sl_no00_4 w0 hw m s a b c d p0 p1 p2 p3 p4 p5 p6 p7 p8 p9 p10 p11 p12 h'.2
  rcases cr_cases h'.1 with h1 | ⟨h1, h2⟩
  · rw [h1] at hr
    exact goes_round (goes_of_exK w0 hw hr) hn
  · rw [h1, h2] at hr
    exact goes_round (goes_of_exK w0 hw hr) hn
theorem sl_no00_2 (w0 : Base) (hw : w0.s0.length ≤ 0) (m : Value) (s a b c d : F32) (p0 p1 p2 p3 p4 p5 p6 p7 p8 p9 p10 p11 p12 : Sh) (h : crNo [p1, p2, p3, p4, p5, p6, p7, p8, p9, p10, p11, p12] = true) : InGoes Try.prog 0 w0 (loopN 0 Try.f7) (slFr m s 0 0 2) [[.cx .f32 a b, .cx .f32 c d], [], encTr [p0, p1, p2, p3, p4, p5, p6, p7, p8, p9, p10, p11, p12]] (.exit 0) (slFr m s 0 0 13) [[.cx .f32 a b, .cx .f32 c d], [], encTr [p0, p1, p2, p3, p4, p5, p6, p7, p8, p9, p10, p11, p12]] := by
  have hr := sl_round00_2 m s a b c d p0 p1 p2 p3 p4 p5 p6 p7 p8 p9 p10 p11 p12
  have h' : (!(crT p1 p2) && crNo [p2, p3, p4, p5, p6, p7, p8, p9, p10, p11, p12]) = true := h
  rw [Bool.and_eq_true, Bool.not_eq_true'] at h'
  have hn := sl_no00_3 w0 hw m s a b c d p0 p1 p2 p3 p4 p5 p6 p7 p8 p9 p10 p11 p12 h'.2
  rcases cr_cases h'.1 with h1 | ⟨h1, h2⟩
  · rw [h1] at hr
    exact goes_round (goes_of_exK w0 hw hr) hn
  · rw [h1, h2] at hr
    exact goes_round (goes_of_exK w0 hw hr) hn
theorem sl_no00_1 (w0 : Base) (hw : w0.s0.length ≤ 0) (m : Value) (s a b c d : F32) (p0 p1 p2 p3 p4 p5 p6 p7 p8 p9 p10 p11 p12 : Sh) (h : crNo [p0, p1, p2, p3, p4, p5, p6, p7, p8, p9, p10, p11, p12] = true) : InGoes Try.prog 0 w0 (loopN 0 Try.f7) (slFr m s 0 0 1) [[.cx .f32 a b, .cx .f32 c d], [], encTr [p0, p1, p2, p3, p4, p5, p6, p7, p8, p9, p10, p11, p12]] (.exit 0) (slFr m s 0 0 13) [[.cx .f32 a b, .cx .f32 c d], [], encTr [p0, p1, p2, p3, p4, p5, p6, p7, p8, p9, p10, p11, p12]] := by
  have hr := sl_round00_1 m s a b c d p0 p1 p2 p3 p4 p5 p6 p7 p8 p9 p10 p11 p12
  have h' : (!(crT p0 p1) && crNo [p1, p2, p3, p4, p5, p6, p7, p8, p9, p10, p11, p12]) = true := h
  rw [Bool.and_eq_true, Bool.not_eq_true'] at h'
  have hn := sl_no00_2 w0 hw m s a b c d p0 p1 p2 p3 p4 p5 p6 p7 p8 p9 p10 p11 p12 h'.2
  rcases cr_cases h'.1 with h1 | ⟨h1, h2⟩
  · rw [h1] at hr
    exact goes_round (goes_of_exK w0 hw hr) hn
  · rw [h1, h2] at hr
    exact goes_round (goes_of_exK w0 hw hr) hn
theorem sl_no11_13 (w0 : Base) (hw : w0.s0.length ≤ 0) (m : Value) (s a b c d X U : F32) (p0 p1 p2 p3 p4 p5 p6 p7 p8 p9 p10 p11 p12 : Sh) : InGoes Try.prog 0 w0 (loopN 0 Try.f7) (slFr m s 1 1 13) [[.cx .f32 a b, .cx .f32 c d], [.cx .f32 X U], encTr [p0, p1, p2, p3, p4, p5, p6, p7, p8, p9, p10, p11, p12]] (.exit 0) (slFr m s 1 1 13) [[.cx .f32 a b, .cx .f32 c d], [.cx .f32 X U], encTr [p0, p1, p2, p3, p4, p5, p6, p7, p8, p9, p10, p11, p12]] :=
  goes_last (fun h => by cases h) (goes_of_exK w0 hw (sl_last11 m s a b c d X U p0 p1 p2 p3 p4 p5 p6 p7 p8 p9 p10 p11 p12))
theorem sl_no11_12 (w0 : Base) (hw : w0.s0.length ≤ 0) (m : Value) (s a b c d X U : F32) (p0 p1 p2 p3 p4 p5 p6 p7 p8 p9 p10 p11 p12 : Sh) (h : crNo [p11, p12] = true) : InGoes Try.prog 0 w0 (loopN 0 Try.f7) (slFr m s 1 1 12) [[.cx .f32 a b, .cx .f32 c d], [.cx .f32 X U], encTr [p0, p1, p2, p3, p4, p5, p6, p7, p8, p9, p10, p11, p12]] (.exit 0) (slFr m s 1 1 13) [[.cx .f32 a b, .cx .f32 c d], [.cx .f32 X U], encTr [p0, p1, p2, p3, p4, p5, p6, p7, p8, p9, p10, p11, p12]] := by
  have hr := sl_round11_12 m s a b c d X U p0 p1 p2 p3 p4 p5 p6 p7 p8 p9 p10 p11 p12
  have h' : (!(crT p11 p12) && crNo [p12]) = true := h
  rw [Bool.and_eq_true, Bool.not_eq_true'] at h'
  have hn := sl_no11_13 w0 hw m s a b c d X U p0 p1 p2 p3 p4 p5 p6 p7 p8 p9 p10 p11 p12
  rcases cr_cases h'.1 with h1 | ⟨h1, h2⟩
  · rw [h1] at hr
    exact goes_round (goes_of_exK w0 hw hr) hn
  · rw [h1, h2] at hr
    exact goes_round (goes_of_exK w0 hw hr) hn
theorem sl_no11_11 (w0 : Base) (hw : w0.s0.length ≤ 0) (m : Value) (s a b c d X U : F32) (p0 p1 p2 p3 p4 p5 p6 p7 p8 p9 p10 p11 p12 : Sh) (h : crNo [p10, p11, p12] = true) : InGoes Try.prog 0 w0 (loopN 0 Try.f7) (slFr m s 1 1 11) [[.cx .f32 a b, .cx .f32 c d], [.cx .f32 X U], encTr [p0, p1, p2, p3, p4, p5, p6, p7, p8, p9, p10, p11, p12]] (.exit 0) (slFr m s 1 1 13) [[.cx .f32 a b, .cx .f32 c d], [.cx .f32 X U], encTr [p0, p1, p2, p3, p4, p5, p6, p7, p8, p9, p10, p11, p12]] := by
  have hr := sl_round11_11 m s a b c d X U p0 p1 p2 p3 p4 p5 p6 p7 p8 p9 p10 p11 p12
  have h' : (!(crT p10 p11) && crNo [p11, p12]) = true := h
  rw [Bool.and_eq_true, Bool.not_eq_true'] at h'
  have hn := sl_no11_12 w0 hw m s a b c d X U p0 p1 p2 p3 p4 p5 p6 p7 p8 p9 p10 p11 p12 h'.2
  rcases cr_cases h'.1 with h1 | ⟨h1, h2⟩
  · rw [h1] at hr
    exact goes_round (goes_of_exK w0 hw hr) hn
  · rw [h1, h2] at hr
    exact goes_round (goes_of_exK w0 hw hr) hn
theorem sl_no11_10 (w0 : Base) (hw : w0.s0.length ≤ 0) (m : Value) (s a b c d X U : F32) (p0 p1 p2 p3 p4 p5 p6 p7 p8 p9 p10 p11 p12 : Sh) (h : crNo [p9, p10, p11, p12] = true) : InGoes Try.prog 0 w0 (loopN 0 Try.f7) (slFr m s 1 1 10) [[.cx .f32 a b, .cx .f32 c d], [.cx .f32 X U], encTr [p0, p1, p2, p3, p4, p5, p6, p7, p8, p9, p10, p11, p12]] (.exit 0) (slFr m s 1 1 13) [[.cx .f32 a b, .cx .f32 c d], [.cx .f32 X U], encTr [p0, p1, p2, p3, p4, p5, p6, p7, p8, p9, p10, p11, p12]] := by
  have hr := sl_round11_10 m s a b c d X U p0 p1 p2 p3 p4 p5 p6 p7 p8 p9 p10 p11 p12
  have h' : (!(crT p9 p10) && crNo [p10, p11, p12]) = true := h
  rw [Bool.and_eq_true, Bool.not_eq_true'] at h'
  have hn := sl_no11_11 w0 hw m s a b c d X U p0 p1 p2 p3 p4 p5 p6 p7 p8 p9 p10 p11 p12 h'.2
  rcases cr_cases h'.1 with h1 | ⟨h1, h2⟩
  · rw [h1] at hr
    exact goes_round (goes_of_exK w0 hw hr) hn
  · rw [h1, h2] at hr
    exact goes_round (goes_of_exK w0 hw hr) hn
theorem sl_no11_9 (w0 : Base) (hw : w0.s0.length ≤ 0) (m : Value) (s a b c d X U : F32) (p0 p1 p2 p3 p4 p5 p6 p7 p8 p9 p10 p11 p12 : Sh) (h : crNo [p8, p9, p10, p11, p12] = true) : InGoes Try.prog 0 w0 (loopN 0 Try.f7) (slFr m s 1 1 9) [[.cx .f32 a b, .cx .f32 c d], [.cx .f32 X U], encTr [p0, p1, p2, p3, p4, p5, p6, p7, p8, p9, p10, p11, p12]] (.exit 0) (slFr m s 1 1 13) [[.cx .f32 a b, .cx .f32 c d], [.cx .f32 X U], encTr [p0, p1, p2, p3, p4, p5, p6, p7, p8, p9, p10, p11, p12]] := by
  have hr := sl_round11_9 m s a b c d X U p0 p1 p2 p3 p4 p5 p6 p7 p8 p9 p10 p11 p12
  have h' : (!(crT p8 p9) && crNo [p9, p10, p11, p12]) = true := h
  rw [Bool.and_eq_true, Bool.not_eq_true'] at h'
  have hn := sl_no11_10 w0 hw m s a b c d X U p0 p1 p2 p3 p4 p5 p6 p7 p8 p9 p10 p11 p12 h'.2
  rcases cr_cases h'.1 with h1 | ⟨h1, h2⟩
  · rw [h1] at hr
    exact goes_round (goes_of_exK w0 hw hr) hn
  · rw [h1, h2] at hr
    exact goes_round (goes_of_exK w0 hw hr) hn
theorem sl_no11_8 (w0 : Base) (hw : w0.s0.length ≤ 0) (m : Value) (s a b c d X U : F32) (p0 p1 p2 p3 p4 p5 p6 p7 p8 p9 p10 p11 p12 : Sh) (h : crNo [p7, p8, p9, p10, p11, p12] = true) : InGoes Try.prog 0 w0 (loopN 0 Try.f7) (slFr m s 1 1 8) [[.cx .f32 a b, .cx .f32 c d], [.cx .f32 X U], encTr [p0, p1, p2, p3, p4, p5, p6, p7, p8, p9, p10, p11, p12]] (.exit 0) (slFr m s 1 1 13) [[.cx .f32 a b, .cx .f32 c d], [.cx .f32 X U], encTr [p0, p1, p2, p3, p4, p5, p6, p7, p8, p9, p10, p11, p12]] := by
  have hr := sl_round11_8 m s a b c d X U p0 p1 p2 p3 p4 p5 p6 p7 p8 p9 p10 p11 p12
  have h' : (!(crT p7 p8) && crNo [p8, p9, p10, p11, p12]) = true := h
  rw [Bool.and_eq_true, Bool.not_eq_true'] at h'
  have hn := sl_no11_9 w0 hw m s a b c d X U p0 p1 p2 p3 p4 p5 p6 p7 p8 p9 p10 p11 p12 h'.2
  rcases cr_cases h'.1 with h1 | ⟨h1, h2⟩
  · rw [h1] at hr
    exact goes_round (goes_of_exK w0 hw hr) hn
  · rw [h1, h2] at hr
    exact goes_round (goes_of_exK w0 hw hr) hn
theorem sl_no11_7 (w0 : Base) (hw : w0.s0.length ≤ 0) (m : Value) (s a b c d X U : F32) (p0 p1 p2 p3 p4 p5 p6 p7 p8 p9 p10 p11 p12 : Sh) (h : crNo [p6, p7, p8, p9, p10, p11, p12] = true) : InGoes Try.prog 0 w0 (loopN 0 Try.f7) (slFr m s 1 1 7) [[.cx .f32 a b, .cx .f32 c d], [.cx .f32 X U], encTr [p0, p1, p2, p3, p4, p5, p6, p7, p8, p9, p10, p11, p12]] (.exit 0) (slFr m s 1 1 13) [[.cx .f32 a b, .cx .f32 c d], [.cx .f32 X U], encTr [p0, p1, p2, p3, p4, p5, p6, p7, p8, p9, p10, p11, p12]] := by
  have hr := sl_round11_7 m s a b c d X U p0 p1 p2 p3 p4 p5 p6 p7 p8 p9 p10 p11 p12
  have h' : (!(crT p6 p7) && crNo [p7, p8, p9, p10, p11, p12]) = true := h
  rw [Bool.and_eq_true, Bool.not_eq_true'] at h'
  have hn := sl_no11_8 w0 hw m s a b c d X U p0 p1 p2 p3 p4 p5 p6 p7 p8 p9 p10 p11 p12 h'.2
  rcases cr_cases h'.1 with h1 | ⟨h1, h2⟩
  · rw [h1] at hr
    exact goes_round (goes_of_exK w0 hw hr) hn
  · rw [h1, h2] at hr
    exact goes_round (goes_of_exK w0 hw hr) hn
theorem sl_no11_6 (w0 : Base) (hw : w0.s0.length ≤ 0) (m : Value) (s a b c d X U : F32) (p0 p1 p2 p3 p4 p5 p6 p7 p8 p9 p10 p11 p12 : Sh) (h : crNo [p5, p6, p7, p8, p9, p10, p11, p12] = true) : InGoes Try.prog 0 w0 (loopN 0 Try.f7) (slFr m s 1 1 6) [[.cx .f32 a b, .cx .f32 c d], [.cx .f32 X U], encTr [p0, p1, p2, p3, p4, p5, p6, p7, p8, p9, p10, p11, p12]] (.exit 0) (slFr m s 1 1 13) [[.cx .f32 a b, .cx .f32 c d], [.cx .f32 X U], encTr [p0, p1, p2, p3, p4, p5, p6, p7, p8, p9, p10, p11, p12]] := by
  have hr := sl_round11_6 m s a b c d X U p0 p1 p2 p3 p4 p5 p6 p7 p8 p9 p10 p11 p12
  have h' : (!(crT p5 p6) && crNo [p6, p7, p8, p9, p10, p11, p12]) = true := h
  rw [Bool.and_eq_true, Bool.not_eq_true'] at h'
  have hn := sl_no11_7 w0 hw m s a b c d X U p0 p1 p2 p3 p4 p5 p6 p7 p8 p9 p10 p11 p12 h'.2
  rcases cr_cases h'.1 with h1 | ⟨h1, h2⟩
  · rw [h1] at hr
    exact goes_round (goes_of_exK w0 hw hr) hn
  · rw [h1, h2] at hr
    exact goes_round (goes_of_exK w0 hw hr) hn
theorem sl_no11_5 (w0 : Base) (hw : w0.s0.length ≤ 0) (m : Value) (s a b c d X U : F32) (p0 p1 p2 p3 p4 p5 p6 p7 p8 p9 p10 p11 p12 : Sh) (h : crNo [p4, p5, p6, p7, p8, p9, p10, p11, p12] = true) : InGoes Try.prog 0 w0 (loopN 0 Try.f7) (slFr m s 1 1 5) [[.cx .f32 a b, .cx .f32 c d], [.cx .f32 X U], encTr [p0, p1, p2, p3, p4, p5, p6, p7, p8, p9, p10, p11, p12]] (.exit 0) (slFr m s 1 1 13) [[.cx .f32 a b, .cx .f32 c d], [.cx .f32 X U], encTr [p0, p1, p2, p3, p4, p5, p6, p7, p8, p9, p10, p11, p12]] := by
  have hr := sl_round11_5 m s a b c d X U p0 p1 p2 p3 p4 p5 p6 p7 p8 p9 p10 p11 p12
  have h' : (!(crT p4 p5) && crNo [p5, p6, p7, p8, p9, p10, p11, p12]) = true := h
  rw [Bool.and_eq_true, Bool.not_eq_true'] at h'
  have hn := sl_no11_6 w0 hw m s a b c d X U p0 p1 p2 p3 p4 p5 p6 p7 p8 p9 p10 p11 p12 h'.2
  rcases cr_cases h'.1 with h1 | ⟨h1, h2⟩
  · rw [h1] at hr
    exact goes_round (goes_of_exK w0 hw hr) hn
  · rw [h1, h2] at hr
    exact goes_round (goes_of_exK w0 hw hr) hn
theorem sl_no11_4 (w0 : Base) (hw : w0.s0.length ≤ 0) (m : Value) (s a b c d X U : F32) (p0 p1 p2 p3 p4 p5 p6 p7 p8 p9 p10 p11 p12 : Sh) (h : crNo [p3, p4, p5, p6, p7, p8, p9, p10, p11, p12] = true) : InGoes Try.prog 0 w0 (loopN 0 Try.f7) (slFr m s 1 1 4) [[.cx .f32 a b, .cx .f32 c d], [.cx .f32 X U], encTr [p0, p1, p2, p3, p4, p5, p6, p7, p8, p9, p10, p11, p12]] (.exit 0) (slFr m s 1 1 13) [[.cx .f32 a b, .cx .f32 c d], [.cx .f32 X U], encTr [p0, p1, p2, p3, p4, p5, p6, p7, p8, p9, p10, p11, p12]] := by
  have hr := sl_round11_4 m s a b c d X U p0 p1 p2 p3 p4 p5 p6 p7 p8 p9 p10 p11 p12
  have h' : (!(crT p3 p4) && crNo [p4, p5, p6, p7, p8, p9, p10, p11, p12]) = true := h
  rw [Bool.and_eq_true, Bool.not_eq_true'] at h'
  have hn := sl_no11_5 w0 hw m s a b c d X U p0 p1 p2 p3 p4 p5 p6 p7 p8 p9 p10 p11 p12 h'.2
  rcases cr_cases h'.1 with h1 | ⟨h1, h2⟩
  · rw [h1] at hr
    exact goes_round (goes_of_exK w0 hw hr) hn
  · rw [h1, h2] at hr
    exact goes_round (goes_of_exK w0 hw hr) hn
theorem sl_no11_3 (w0 : Base) (hw : w0.s0.length ≤ 0) (m : Value) (s a b c d X U : F32) (p0 p1 p2 p3 p4 p5 p6 p7 p8 p9 p10 p11 p12 : Sh) (h : crNo [p2, p3, p4, p5, p6, p7, p8, p9, p10, p11, p12] = true) : InGoes Try.prog 0 w0 (loopN 0 Try.f7) (slFr m s 1 1 3) [[.cx .f32 a b, .cx .f32 c d], [.cx .f32 X U], encTr [p0, p1, p2, p3, p4, p5, p6, p7, p8, p9, p10, p11, p12]] (.exit 0) (slFr m s 1 1 13) [[.cx .f32 a b, .cx .f32 c d], [.cx .f32 X U], encTr [p0, p1, p2, p3, p4, p5, p6, p7, p8, p9, p10, p11, p12]] := by
  have hr := sl_round11_3 m s a b c d X U p0 p1 p2 p3 p4 p5 p6 p7 p8 p9 p10 p11 p12
  have h' : (!(crT p2 p3) && crNo [p3, p4, p5, p6, p7, p8, p9, p10, p11, p12]) = true := h
  rw [Bool.and_eq_true, Bool.not_eq_true'] at h'
  have hn := sl_no11_4 w0 hw m s a b c d X U p0 p1 p2 p3 p4 p5 p6 p7 p8 p9 p10 p11 p12 h'.2
  rcases cr_cases h'.1 with h1 | ⟨h1, h2⟩
  · rw [h1] at hr
    exact goes_round (goes_of_exK w0 hw hr) hn
  · rw [h1, h2] at hr
    exact goes_round (goes_of_exK w0 hw hr) hn
theorem sl_no11_2 (w0 : Base) (hw : w0.s0.length ≤ 0) (m : Value) (s a b c d X U : F32) (p0 p1 p2 p3 p4 p5 p6 p7 p8 p9 p10 p11 p12 : Sh) (h : crNo [p1, p2, p3, p4, p5, p6, p7, p8, p9, p10, p11, p12] = true) : InGoes Try.prog 0 w0 (loopN 0 Try.f7) (slFr m s 1 1 2) [[.cx .f32 a b, .cx .f32 c d], [.cx .f32 X U], encTr [p0, p1, p2, p3, p4, p5, p6, p7, p8, p9, p10, p11, p12]] (.exit 0) (slFr m s 1 1 13) [[.cx .f32 a b, .cx .f32 c d], [.cx .f32 X U], encTr [p0, p1, p2, p3, p4, p5, p6, p7, p8, p9, p10, p11, p12]] := by
  have hr := sl_round11_2 m s a b c d X U p0 p1 p2 p3 p4 p5 p6 p7 p8 p9 p10 p11 p12
  have h' : (!(crT p1 p2) && crNo [p2, p3, p4, p5, p6, p7, p8, p9, p10, p11, p12]) = true := h
  rw [Bool.and_eq_true, Bool.not_eq_true'] at h'
  have hn := sl_no11_3 w0 hw m s a b c d X U p0 p1 p2 p3 p4 p5 p6 p7 p8 p9 p10 p11 p12 h'.2
  rcases cr_cases h'.1 with h1 | ⟨h1, h2⟩
  · rw [h1] at hr
    exact goes_round (goes_of_exK w0 hw hr) hn
  · rw [h1, h2] at hr
    exact goes_round (goes_of_exK w0 hw hr) hn
theorem sl_no11_1 (w0 : Base) (hw : w0.s0.length ≤ 0) (m : Value) (s a b c d X U : F32) (p0 p1 p2 p3 p4 p5 p6 p7 p8 p9 p10 p11 p12 : Sh) (h : crNo [p0, p1, p2, p3, p4, p5, p6, p7, p8, p9, p10, p11, p12] = true) : InGoes Try.prog 0 w0 (loopN 0 Try.f7) (slFr m s 1 1 1) [[.cx .f32 a b, .cx .f32 c d], [.cx .f32 X U], encTr [p0, p1, p2, p3, p4, p5, p6, p7, p8, p9, p10, p11, p12]] (.exit 0) (slFr m s 1 1 13) [[.cx .f32 a b, .cx .f32 c d], [.cx .f32 X U], encTr [p0, p1, p2, p3, p4, p5, p6, p7, p8, p9, p10, p11, p12]] := by
  have hr := sl_round11_1 m s a b c d X U p0 p1 p2 p3 p4 p5 p6 p7 p8 p9 p10 p11 p12
  have h' : (!(crT p0 p1) && crNo [p1, p2, p3, p4, p5, p6, p7, p8, p9, p10, p11, p12]) = true := h
  rw [Bool.and_eq_true, Bool.not_eq_true'] at h'
  have hn := sl_no11_2 w0 hw m s a b c d X U p0 p1 p2 p3 p4 p5 p6 p7 p8 p9 p10 p11 p12 h'.2
  rcases cr_cases h'.1 with h1 | ⟨h1, h2⟩
  · rw [h1] at hr
    exact goes_round (goes_of_exK w0 hw hr) hn
  · rw [h1, h2] at hr
    exact goes_round (goes_of_exK w0 hw hr) hn
theorem sl_only_13 (w0 : Base) (_ : w0.s0.length ≤ 0) (m : Value) (s a b c d X U : F32) (p0 p1 p2 p3 p4 p5 p6 p7 p8 p9 p10 p11 p12 : Sh) (j : Nat) (h : slOnly X j [p12] = true) : InGoes Try.prog 0 w0 (loopN 0 Try.f7) (slFr m s 1 0 13) [[.cx .f32 a b, .cx .f32 c d], [.cx .f32 X U], encTr [p0, p1, p2, p3, p4, p5, p6, p7, p8, p9, p10, p11, p12]] (.exit 0) (slFr m s 1 1 13) [[.cx .f32 a b, .cx .f32 c d], [.cx .f32 X U], encTr [p0, p1, p2, p3, p4, p5, p6, p7, p8, p9, p10, p11, p12]] := by
  cases j <;> cases h
theorem sl_only_12 (w0 : Base) (hw : w0.s0.length ≤ 0) (m : Value) (s a b c d X U : F32) (p0 p1 p2 p3 p4 p5 p6 p7 p8 p9 p10 p11 p12 : Sh) (j : Nat) (h : slOnly X j [p11, p12] = true) : InGoes Try.prog 0 w0 (loopN 0 Try.f7) (slFr m s 1 0 12) [[.cx .f32 a b, .cx .f32 c d], [.cx .f32 X U], encTr [p0, p1, p2, p3, p4, p5, p6, p7, p8, p9, p10, p11, p12]] (.exit 0) (slFr m s 1 1 13) [[.cx .f32 a b, .cx .f32 c d], [.cx .f32 X U], encTr [p0, p1, p2, p3, p4, p5, p6, p7, p8, p9, p10, p11, p12]] := by
  have hr := sl_round10_12 m s a b c d X U p0 p1 p2 p3 p4 p5 p6 p7 p8 p9 p10 p11 p12
  cases j with
  | zero =>
    have h' : (crT p11 p12 && (!(slLow X p11 p12) && (!(slHigh X p11 p12) && crNo [p12]))) = true := h
    simp only [Bool.and_eq_true, Bool.not_eq_true'] at h'
    obtain ⟨h1, h2, h3, h4⟩ := h'
    unfold crT at h1
    rw [Bool.and_eq_true] at h1
    rw [h1.1, h1.2, h2, h3] at hr
    exact goes_round (goes_of_exK w0 hw hr) (sl_no11_13 w0 hw m s a b c d X U p0 p1 p2 p3 p4 p5 p6 p7 p8 p9 p10 p11 p12)
  | succ j =>
    have h' : (!(crT p11 p12) && slOnly X j [p12]) = true := h
    rw [Bool.and_eq_true, Bool.not_eq_true'] at h'
    have hn := sl_only_13 w0 hw m s a b c d X U p0 p1 p2 p3 p4 p5 p6 p7 p8 p9 p10 p11 p12 j h'.2
    rcases cr_cases h'.1 with h1 | ⟨h1, h2⟩
    · rw [h1] at hr
      exact goes_round (goes_of_exK w0 hw hr) hn
    · rw [h1, h2] at hr
      exact goes_round (goes_of_exK w0 hw hr) hn
theorem sl_only_11 (w0 : Base) (hw : w0.s0.length ≤ 0) (m : Value) (s a b c d X U : F32) (p0 p1 p2 p3 p4 p5 p6 p7 p8 p9 p10 p11 p12 : Sh) (j : Nat) (h : slOnly X j [p10, p11, p12] = true) : InGoes Try.prog 0 w0 (loopN 0 Try.f7) (slFr m s 1 0 11) [[.cx .f32 a b, .cx .f32 c d], [.cx .f32 X U], encTr [p0, p1, p2, p3, p4, p5, p6, p7, p8, p9, p10, p11, p12]] (.exit 0) (slFr m s 1 1 13) [[.cx .f32 a b, .cx .f32 c d], [.cx .f32 X U], encTr [p0, p1, p2, p3, p4, p5, p6, p7, p8, p9, p10, p11, p12]] := by
  have hr := sl_round10_11 m s a b c d X U p0 p1 p2 p3 p4 p5 p6 p7 p8 p9 p10 p11 p12
  cases j with
  | zero =>
    have h' : (crT p10 p11 && (!(slLow X p10 p11) && (!(slHigh X p10 p11) && crNo [p11, p12]))) = true := h
    simp only [Bool.and_eq_true, Bool.not_eq_true'] at h'
    obtain ⟨h1, h2, h3, h4⟩ := h'
    unfold crT at h1
    rw [Bool.and_eq_true] at h1
    rw [h1.1, h1.2, h2, h3] at hr
    exact goes_round (goes_of_exK w0 hw hr) (sl_no11_12 w0 hw m s a b c d X U p0 p1 p2 p3 p4 p5 p6 p7 p8 p9 p10 p11 p12 h4)
  | succ j =>
    have h' : (!(crT p10 p11) && slOnly X j [p11, p12]) = true := h
    rw [Bool.and_eq_true, Bool.not_eq_true'] at h'
    have hn := sl_only_12 w0 hw m s a b c d X U p0 p1 p2 p3 p4 p5 p6 p7 p8 p9 p10 p11 p12 j h'.2
    rcases cr_cases h'.1 with h1 | ⟨h1, h2⟩
    · rw [h1] at hr
      exact goes_round (goes_of_exK w0 hw hr) hn
    · rw [h1, h2] at hr
      exact goes_round (goes_of_exK w0 hw hr) hn
theorem sl_only_10 (w0 : Base) (hw : w0.s0.length ≤ 0) (m : Value) (s a b c d X U : F32) (p0 p1 p2 p3 p4 p5 p6 p7 p8 p9 p10 p11 p12 : Sh) (j : Nat) (h : slOnly X j [p9, p10, p11, p12] = true) : InGoes Try.prog 0 w0 (loopN 0 Try.f7) (slFr m s 1 0 10) [[.cx .f32 a b, .cx .f32 c d], [.cx .f32 X U], encTr [p0, p1, p2, p3, p4, p5, p6, p7, p8, p9, p10, p11, p12]] (.exit 0) (slFr m s 1 1 13) [[.cx .f32 a b, .cx .f32 c d], [.cx .f32 X U], encTr [p0, p1, p2, p3, p4, p5, p6, p7, p8, p9, p10, p11, p12]] := by
  have hr := sl_round10_10 m s a b c d X U p0 p1 p2 p3 p4 p5 p6 p7 p8 p9 p10 p11 p12
  cases j with
  | zero =>
    have h' : (crT p9 p10 && (!(slLow X p9 p10) && (!(slHigh X p9 p10) && crNo [p10, p11, p12]))) = true := h
    simp only [Bool.and_eq_true, Bool.not_eq_true'] at h'
    obtain ⟨h1, h2, h3, h4⟩ := h'
    unfold crT at h1
    rw [Bool.and_eq_true] at h1
    rw [h1.1, h1.2, h2, h3] at hr
    exact goes_round (goes_of_exK w0 hw hr) (sl_no11_11 w0 hw m s a b c d X U p0 p1 p2 p3 p4 p5 p6 p7 p8 p9 p10 p11 p12 h4)
  | succ j =>
    have h' : (!(crT p9 p10) && slOnly X j [p10, p11, p12]) = true := h
    rw [Bool.and_eq_true, Bool.not_eq_true'] at h'
    have hn := sl_only_11 w0 hw m s a b c d X U p0 p1 p2 p3 p4 p5 p6 p7 p8 p9 p10 p11 p12 j h'.2
    rcases cr_cases h'.1 with h1 | ⟨h1, h2⟩
    · rw [h1] at hr
      exact goes_round (goes_of_exK w0 hw hr) hn
    · rw [h1, h2] at hr
      exact goes_round (goes_of_exK w0 hw hr) hn
theorem sl_only_9 (w0 : Base) (hw : w0.s0.length ≤ 0) (m : Value) (s a b c d X U : F32) (p0 p1 p2 p3 p4 p5 p6 p7 p8 p9 p10 p11 p12 : Sh) (j : Nat) (h : slOnly X j [p8, p9, p10, p11, p12] = true) : InGoes Try.prog 0 w0 (loopN 0 Try.f7) (slFr m s 1 0 9) [[.cx .f32 a b, .cx .f32 c d], [.cx .f32 X U], encTr [p0, p1, p2, p3, p4, p5, p6, p7, p8, p9, p10, p11, p12]] (.exit 0) (slFr m s 1 1 13) [[.cx .f32 a b, .cx .f32 c d], [.cx .f32 X U], encTr [p0, p1, p2, p3, p4, p5, p6, p7, p8, p9, p10, p11, p12]] := by
  have hr := sl_round10_9 m s a b c d X U p0 p1 p2 p3 p4 p5 p6 p7 p8 p9 p10 p11 p12
  cases j with
  | zero =>
    have h' : (crT p8 p9 && (!(slLow X p8 p9) && (!(slHigh X p8 p9) && crNo [p9, p10, p11, p12]))) = true := h
    simp only [Bool.and_eq_true, Bool.not_eq_true'] at h'
    obtain ⟨h1, h2, h3, h4⟩ := h'
    unfold crT at h1
    rw [Bool.and_eq_true] at h1
    rw [h1.1, h1.2, h2, h3] at hr
    exact goes_round (goes_of_exK w0 hw hr) (sl_no11_10 w0 hw m s a b c d X U p0 p1 p2 p3 p4 p5 p6 p7 p8 p9 p10 p11 p12 h4)
  | succ j =>
    have h' : (!(crT p8 p9) && slOnly X j [p9, p10, p11, p12]) = true := h
    rw [Bool.and_eq_true, Bool.not_eq_true'] at h'
    have hn := sl_only_10 w0 hw m s a b c d X U p0 p1 p2 p3 p4 p5 p6 p7 p8 p9 p10 p11 p12 j h'.2
    rcases cr_cases h'.1 with h1 | ⟨h1, h2⟩
    · rw [h1] at hr
      exact goes_round (goes_of_exK w0 hw hr) hn
    · rw [h1, h2] at hr
      exact goes_round (goes_of_exK w0 hw hr) hn
theorem sl_only_8 (w0 : Base) (hw : w0.s0.length ≤ 0) (m : Value) (s a b c d X U : F32) (p0 p1 p2 p3 p4 p5 p6 p7 p8 p9 p10 p11 p12 : Sh) (j : Nat) (h : slOnly X j [p7, p8, p9, p10, p11, p12] = true) : InGoes Try.prog 0 w0 (loopN 0 Try.f7) (slFr m s 1 0 8) [[.cx .f32 a b, .cx .f32 c d], [.cx .f32 X U], encTr [p0, p1, p2, p3, p4, p5, p6, p7, p8, p9, p10, p11, p12]] (.exit 0) (slFr m s 1 1 13) [[.cx .f32 a b, .cx .f32 c d], [.cx .f32 X U], encTr [p0, p1, p2, p3, p4, p5, p6, p7, p8, p9, p10, p11, p12]] := by
  have hr := sl_round10_8 m s a b c d X U p0 p1 p2 p3 p4 p5 p6 p7 p8 p9 p10 p11 p12
  cases j with
  | zero =>
    have h' : (crT p7 p8 && (!(slLow X p7 p8) && (!(slHigh X p7 p8) && crNo [p8, p9, p10, p11, p12]))) = true := h
    simp only [Bool.and_eq_true, Bool.not_eq_true'] at h'
    obtain ⟨h1, h2, h3, h4⟩ := h'
    unfold crT at h1
    rw [Bool.and_eq_true] at h1
    rw [h1.1, h1.2, h2, h3] at hr
    exact goes_round (goes_of_exK w0 hw hr) (sl_no11_9 w0 hw m s a b c d X U p0 p1 p2 p3 p4 p5 p6 p7 p8 p9 p10 p11 p12 h4)
  | succ j =>
    have h' : (!(crT p7 p8) && slOnly X j [p8, p9, p10, p11, p12]) = true := h
    rw [Bool.and_eq_true, Bool.not_eq_true'] at h'
    have hn := sl_only_9 w0 hw m s a b c d X U p0 p1 p2 p3 p4 p5 p6 p7 p8 p9 p10 p11 p12 j h'.2
    rcases cr_cases h'.1 with h1 | ⟨h1, h2⟩
    · rw [h1] at hr
      exact goes_round (goes_of_exK w0 hw hr) hn
    · rw [h1, h2] at hr
      exact goes_round (goes_of_exK w0 hw hr) hn
theorem sl_only_7 (w0 : Base) (hw : w0.s0.length ≤ 0) (m : Value) (s a b c d X U : F32) (p0 p1 p2 p3 p4 p5 p6 p7 p8 p9 p10 p11 p12 : Sh) (j : Nat) (h : slOnly X j [p6, p7, p8, p9, p10, p11, p12] = true) : InGoes Try.prog 0 w0 (loopN 0 Try.f7) (slFr m s 1 0 7) [[.cx .f32 a b, .cx .f32 c d], [.cx .f32 X U], encTr [p0, p1, p2, p3, p4, p5, p6, p7, p8, p9, p10, p11, p12]] (.exit 0) (slFr m s 1 1 13) [[.cx .f32 a b, .cx .f32 c d], [.cx .f32 X U], encTr [p0, p1, p2, p3, p4, p5, p6, p7, p8, p9, p10, p11, p12]] := by
  have hr := sl_round10_7 m s a b c d X U p0 p1 p2 p3 p4 p5 p6 p7 p8 p9 p10 p11 p12
  cases j with
  | zero =>
    have h' : (crT p6 p7 && (!(slLow X p6 p7) && (!(slHigh X p6 p7) && crNo [p7, p8, p9, p10, p11, p12]))) = true := h
    simp only [Bool.and_eq_true, Bool.not_eq_true'] at h'
    obtain ⟨h1, h2, h3, h4⟩ := h'
    unfold crT at h1
    rw [Bool.and_eq_true] at h1
    rw [h1.1, h1.2, h2, h3] at hr
    exact goes_round (goes_of_exK w0 hw hr) (sl_no11_8 w0 hw m s a b c d X U p0 p1 p2 p3 p4 p5 p6 p7 p8 p9 p10 p11 p12 h4)
  | succ j =>
    have h' : (!(crT p6 p7) && slOnly X j [p7, p8, p9, p10, p11, p12]) = true := h
    rw [Bool.and_eq_true, Bool.not_eq_true'] at h'
    have hn := sl_only_8 w0 hw m s a b c d X U p0 p1 p2 p3 p4 p5 p6 p7 p8 p9 p10 p11 p12 j h'.2
    rcases cr_cases h'.1 with h1 | ⟨h1, h2⟩
    · rw [h1] at hr
      exact goes_round (goes_of_exK w0 hw hr) hn
    · rw [h1, h2] at hr
      exact goes_round (goes_of_exK w0 hw hr) hn
theorem sl_only_6 (w0 : Base) (hw : w0.s0.length ≤ 0) (m : Value) (s a b c d X U : F32) (p0 p1 p2 p3 p4 p5 p6 p7 p8 p9 p10 p11 p12 : Sh) (j : Nat) (h : slOnly X j [p5, p6, p7, p8, p9, p10, p11, p12] = true) : InGoes Try.prog 0 w0 (loopN 0 Try.f7) (slFr m s 1 0 6) [[.cx .f32 a b, .cx .f32 c d], [.cx .f32 X U], encTr [p0, p1, p2, p3, p4, p5, p6, p7, p8, p9, p10, p11, p12]] (.exit 0) (slFr m s 1 1 13) [[.cx .f32 a b, .cx .f32 c d], [.cx .f32 X U], encTr [p0, p1, p2, p3, p4, p5, p6, p7, p8, p9, p10, p11, p12]] := by
  have hr := sl_round10_6 m s a b c d X U p0 p1 p2 p3 p4 p5 p6 p7 p8 p9 p10 p11 p12
  cases j with
  | zero =>
    have h' : (crT p5 p6 && (!(slLow X p5 p6) && (!(slHigh X p5 p6) && crNo [p6, p7, p8, p9, p10, p11, p12]))) = true := h
    simp only [Bool.and_eq_true, Bool.not_eq_true'] at h'
    obtain ⟨h1, h2, h3, h4⟩ := h'
    unfold crT at h1
    rw [Bool.and_eq_true] at h1
    rw [h1.1, h1.2, h2, h3] at hr
    exact goes_round (goes_of_exK w0 hw hr) (sl_no11_7 w0 hw m s a b c d X U p0 p1 p2 p3 p4 p5 p6 p7 p8 p9 p10 p11 p12 h4)
  | succ j =>
    have h' : (!(crT p5 p6) && slOnly X j [p6, p7, p8, p9, p10, p11, p12]) = true := h
    rw [Bool.and_eq_true, Bool.not_eq_true'] at h'
    have hn := sl_only_7 w0 hw m s a b c d X U p0 p1 p2 p3 p4 p5 p6 p7 p8 p9 p10 p11 p12 j h'.2
    rcases cr_cases h'.1 with h1 | ⟨h1, h2⟩
    · rw [h1] at hr
      exact goes_round (goes_of_exK w0 hw hr) hn
    · rw [h1, h2] at hr
      exact goes_round (goes_of_exK w0 hw hr) hn
theorem sl_only_5 (w0 : Base) (hw : w0.s0.length ≤ 0) (m : Value) (s a b c d X U : F32) (p0 p1 p2 p3 p4 p5 p6 p7 p8 p9 p10 p11 p12 : Sh) (j : Nat) (h : slOnly X j [p4, p5, p6, p7, p8, p9, p10, p11, p12] = true) : InGoes Try.prog 0 w0 (loopN 0 Try.f7) (slFr m s 1 0 5) [[.cx .f32 a b, .cx .f32 c d], [.cx .f32 X U], encTr [p0, p1, p2, p3, p4, p5, p6, p7, p8, p9, p10, p11, p12]] (.exit 0) (slFr m s 1 1 13) [[.cx .f32 a b, .cx .f32 c d], [.cx .f32 X U], encTr [p0, p1, p2, p3, p4, p5, p6, p7, p8, p9, p10, p11, p12]] := by
  have hr := sl_round10_5 m s a b c d X U p0 p1 p2 p3 p4 p5 p6 p7 p8 p9 p10 p11 p12
  cases j with
  | zero =>
    have h' : (crT p4 p5 && (!(slLow X p4 p5) && (!(slHigh X p4 p5) && crNo [p5, p6, p7, p8, p9, p10, p11, p12]))) = true := h
    simp only [Bool.and_eq_true, Bool.not_eq_true'] at h'
    obtain ⟨h1, h2, h3, h4⟩ := h'
    unfold crT at h1
    rw [Bool.and_eq_true] at h1
    rw [h1.1, h1.2, h2, h3] at hr
    exact goes_round (goes_of_exK w0 hw hr) (sl_no11_6 w0 hw m s a b c d X U p0 p1 p2 p3 p4 p5 p6 p7 p8 p9 p10 p11 p12 h4)
  | succ j =>
    have h' : (!(crT p4 p5) && slOnly X j [p5, p6, p7, p8, p9, p10, p11, p12]) = true := h
    rw [Bool.and_eq_true, Bool.not_eq_true'] at h'
    have hn := sl_only_6 w0 hw m s a b c d X U p0 p1 p2 p3 p4 p5 p6 p7 p8 p9 p10 p11 p12 j h'.2
    rcases cr_cases h'.1 with h1 | ⟨h1, h2⟩
    · rw [h1] at hr
      exact goes_round (goes_of_exK w0 hw hr) hn
    · rw [h1, h2] at hr
      exact goes_round (goes_of_exK w0 hw hr) hn
theorem sl_only_4 (w0 : Base) (hw : w0.s0.length ≤ 0) (m : Value) (s a b c d X U : F32) (p0 p1 p2 p3 p4 p5 p6 p7 p8 p9 p10 p11 p12 : Sh) (j : Nat) (h : slOnly X j [p3, p4, p5, p6, p7, p8, p9, p10, p11, p12] = true) : InGoes Try.prog 0 w0 (loopN 0 Try.f7) (slFr m s 1 0 4) [[.cx .f32 a b, .cx .f32 c d], [.cx .f32 X U], encTr [p0, p1, p2, p3, p4, p5, p6, p7, p8, p9, p10, p11, p12]] (.exit 0) (slFr m s 1 1 13) [[.cx .f32 a b, .cx .f32 c d], [.cx .f32 X U], encTr [p0, p1, p2, p3, p4, p5, p6, p7, p8, p9, p10, p11, p12]] := by
  have hr := sl_round10_4 m s a b c d X U p0 p1 p2 p3 p4 p5 p6 p7 p8 p9 p10 p11 p12
  cases j with
  | zero =>
    have h' : (crT p3 p4 && (!(slLow X p3 p4) && (!(slHigh X p3 p4) && crNo [p4, p5, p6, p7, p8, p9, p10, p11, p12]))) = true := h
    simp only [Bool.and_eq_true, Bool.not_eq_true'] at h'
    obtain ⟨h1, h2, h3, h4⟩ := h'
    unfold crT at h1
    rw [Bool.and_eq_true] at h1
    rw [h1.1, h1.2, h2, h3] at hr
    exact goes_round (goes_of_exK w0 hw hr) (sl_no11_5 w0 hw m s a b c d X U p0 p1 p2 p3 p4 p5 p6 p7 p8 p9 p10 p11 p12 h4)
  | succ j =>
    have h' : (!(crT p3 p4) && slOnly X j [p4, p5, p6, p7, p8, p9, p10, p11, p12]) = true := h
    rw [Bool.and_eq_true, Bool.not_eq_true'] at h'
    have hn := sl_only_5 w0 hw m s a b c d X U p0 p1 p2 p3 p4 p5 p6 p7 p8 p9 p10 p11 p12 j h'.2
    rcases cr_cases h'.1 with h1 | ⟨h1, h2⟩
    · rw [h1] at hr
      exact goes_round (goes_of_exK w0 hw hr) hn
    · rw [h1, h2] at hr
      exact goes_round (goes_of_exK w0 hw hr) hn
theorem sl_only_3 (w0 : Base) (hw : w0.s0.length ≤ 0) (m : Value) (s a b c d X U : F32) (p0 p1 p2 p3 p4 p5 p6 p7 p8 p9 p10 p11 p12 : Sh) (j : Nat) (h : slOnly X j [p2, p3, p4, p5, p6, p7, p8, p9, p10, p11, p12] = true) : InGoes Try.prog 0 w0 (loopN 0 Try.f7) (slFr m s 1 0 3) [[.cx .f32 a b, .cx .f32 c d], [.cx .f32 X U], encTr [p0, p1, p2, p3, p4, p5, p6, p7, p8, p9, p10, p11, p12]] (.exit 0) (slFr m s 1 1 13) [[.cx .f32 a b, .cx .f32 c d], [.cx .f32 X U], encTr [p0, p1, p2, p3, p4, p5, p6, p7, p8, p9, p10, p11, p12]] := by
  have hr := sl_round10_3 m s a b c d X U p0 p1 p2 p3 p4 p5 p6 p7 p8 p9 p10 p11 p12
  cases j with
  | zero =>
    have h' : (crT p2 p3 && (!(slLow X p2 p3) && (!(slHigh X p2 p3) && crNo [p3, p4, p5, p6, p7, p8, p9, p10, p11, p12]))) = true := h
    simp only [Bool.and_eq_true, Bool.not_eq_true'] at h'
    obtain ⟨h1, h2, h3, h4⟩ := h'
    unfold crT at h1
    rw [Bool.and_eq_true] at h1
    rw [h1.1, h1.2, h2, h3] at hr
    exact goes_round (goes_of_exK w0 hw hr) (sl_no11_4 w0 hw m s a b c d X U p0 p1 p2 p3 p4 p5 p6 p7 p8 p9 p10 p11 p12 h4)
  | succ j =>
    have h' : (!(crT p2 p3) && slOnly X j [p3, p4, p5, p6, p7, p8, p9, p10, p11, p12]) = true := h
    rw [Bool.and_eq_true, Bool.not_eq_true'] at h'
    have hn := sl_only_4 w0 hw m s a b c d X U p0 p1 p2 p3 p4 p5 p6 p7 p8 p9 p10 p11 p12 j h'.2
    rcases cr_cases h'.1 with h1 | ⟨h1, h2⟩
    · rw [h1] at hr
      exact goes_round (goes_of_exK w0 hw hr) hn
    · rw [h1, h2] at hr
      exact goes_round (goes_of_exK w0 hw hr) hn
theorem sl_only_2 (w0 : Base) (hw : w0.s0.length ≤ 0) (m : Value) (s a b c d X U : F32) (p0 p1 p2 p3 p4 p5 p6 p7 p8 p9 p10 p11 p12 : Sh) (j : Nat) (h : slOnly X j [p1, p2, p3, p4, p5, p6, p7, p8, p9, p10, p11, p12] = true) : InGoes Try.prog 0 w0 (loopN 0 Try.f7) (slFr m s 1 0 2) [[.cx .f32 a b, .cx .f32 c d], [.cx .f32 X U], encTr [p0, p1, p2, p3, p4, p5, p6, p7, p8, p9, p10, p11, p12]] (.exit 0) (slFr m s 1 1 13) [[.cx .f32 a b, .cx .f32 c d], [.cx .f32 X U], encTr [p0, p1, p2, p3, p4, p5, p6, p7, p8, p9, p10, p11, p12]] := by
  have hr := sl_round10_2 m s a b c d X U p0 p1 p2 p3 p4 p5 p6 p7 p8 p9 p10 p11 p12
  cases j with
  | zero =>
    have h' : (crT p1 p2 && (!(slLow X p1 p2) && (!(slHigh X p1 p2) && crNo [p2, p3, p4, p5, p6, p7, p8, p9, p10, p11, p12]))) = true := h
    simp only [Bool.and_eq_true, Bool.not_eq_true'] at h'
    obtain ⟨h1, h2, h3, h4⟩ := h'
    unfold crT at h1
    rw [Bool.and_eq_true] at h1
    rw [h1.1, h1.2, h2, h3] at hr
    exact goes_round (goes_of_exK w0 hw hr) (sl_no11_3 w0 hw m s a b c d X U p0 p1 p2 p3 p4 p5 p6 p7 p8 p9 p10 p11 p12 h4)
  | succ j =>
    have h' : (!(crT p1 p2) && slOnly X j [p2, p3, p4, p5, p6, p7, p8, p9, p10, p11, p12]) = true := h
    rw [Bool.and_eq_true, Bool.not_eq_true'] at h'
    have hn := sl_only_3 w0 hw m s a b c d X U p0 p1 p2 p3 p4 p5 p6 p7 p8 p9 p10 p11 p12 j h'.2
    rcases cr_cases h'.1 with h1 | ⟨h1, h2⟩
    · rw [h1] at hr
      exact goes_round (goes_of_exK w0 hw hr) hn
    · rw [h1, h2] at hr
      exact goes_round (goes_of_exK w0 hw hr) hn
theorem sl_only_1 (w0 : Base) (hw : w0.s0.length ≤ 0) (m : Value) (s a b c d X U : F32) (p0 p1 p2 p3 p4 p5 p6 p7 p8 p9 p10 p11 p12 : Sh) (j : Nat) (h : slOnly X j [p0, p1, p2, p3, p4, p5, p6, p7, p8, p9, p10, p11, p12] = true) : InGoes Try.prog 0 w0 (loopN 0 Try.f7) (slFr m s 1 0 1) [[.cx .f32 a b, .cx .f32 c d], [.cx .f32 X U], encTr [p0, p1, p2, p3, p4, p5, p6, p7, p8, p9, p10, p11, p12]] (.exit 0) (slFr m s 1 1 13) [[.cx .f32 a b, .cx .f32 c d], [.cx .f32 X U], encTr [p0, p1, p2, p3, p4, p5, p6, p7, p8, p9, p10, p11, p12]] := by
  have hr := sl_round10_1 m s a b c d X U p0 p1 p2 p3 p4 p5 p6 p7 p8 p9 p10 p11 p12
  cases j with
  | zero =>
    have h' : (crT p0 p1 && (!(slLow X p0 p1) && (!(slHigh X p0 p1) && crNo [p1, p2, p3, p4, p5, p6, p7, p8, p9, p10, p11, p12]))) = true := h
    simp only [Bool.and_eq_true, Bool.not_eq_true'] at h'
    obtain ⟨h1, h2, h3, h4⟩ := h'
    unfold crT at h1
    rw [Bool.and_eq_true] at h1
    rw [h1.1, h1.2, h2, h3] at hr
    exact goes_round (goes_of_exK w0 hw hr) (sl_no11_2 w0 hw m s a b c d X U p0 p1 p2 p3 p4 p5 p6 p7 p8 p9 p10 p11 p12 h4)
  | succ j =>
    have h' : (!(crT p0 p1) && slOnly X j [p1, p2, p3, p4, p5, p6, p7, p8, p9, p10, p11, p12]) = true := h
    rw [Bool.and_eq_true, Bool.not_eq_true'] at h'
    have hn := sl_only_2 w0 hw m s a b c d X U p0 p1 p2 p3 p4 p5 p6 p7 p8 p9 p10 p11 p12 j h'.2
    rcases cr_cases h'.1 with h1 | ⟨h1, h2⟩
    · rw [h1] at hr
      exact goes_round (goes_of_exK w0 hw hr) hn
    · rw [h1, h2] at hr
      exact goes_round (goes_of_exK w0 hw hr) hn
end Go.Proofs.Ytlpahmefebgdlaa.Fx
/- The law FnSections: its first loop's rule, the first part of its run. No condition. -/
namespace Go.Proofs.Ytlpahmefebgdlaa.Fx
open Go Go.RowKit

def cxX : AC → F32
  | .cx .f32 x _ => x
  | _ => c32 0
def cxU : AC → F32
  | .cx .f32 _ u => u
  | _ => c32 0
def crCell (j : Nat) (L : List Sh) : AC := .cx .f32 (cxX (crPair j L)) (cxU (crPair j L))
theorem crCell_eq {j : Nat} {L : List Sh} (h : crOnly j L = true) : crPair j L = crCell j L := by
  obtain ⟨x, u, e⟩ := crPair_cx j L h
  unfold crCell
  rw [e]; rfl
def crFnJ (j : Nat) : List AV → Option (Bool × Bool × List AC)
  | [.c (.fl .f32 s), .agg [.cx .f32 x y, .cx .f32 u v], .c (.fl .f32 h), .c (.val (.int .i64 (.ofNat k)))] => some (decide (k = 12) && (flQ s h ⟨x, y, u, v⟩ 12 && crOnly j (cpL s h ⟨x, y, u, v⟩)), true, [crCell j (cpL s h ⟨x, y, u, v⟩)])
  | _ => none
theorem crossJ_ok (j : Nat) : ∀ args b cells, crFnJ j args = some (true, b, cells) → ∀ vs w, RepF [] args vs → args.all plainA = true → Calls Try.prog 45 vs.toArray w fun e w' => Ext w w' ∧
    (match b with
    | true => ∃ (blk cap : Nat) (us : Array Value) (t : TypeId), e = .returned (.tuple #[.slice (some ⟨blk, 0, none⟩) cells.length cap, .bool true]) ∧ w.heap.size ≤ blk ∧ w'.heap[blk]? = some (.cells us t (0, 0)) ∧ RepP [] cells us.toList ∧ cap ≤ us.size ∧ cells.length ≤ cap
    | false => e = .returned (.tuple #[.slice none 0 0, .bool false])) := by
  intro args b cells h
  refine cross_ok (some j) args b cells ?_
  unfold crFnJ at h
  split at h
  · rename_i s x y u v t k
    simp only [Option.some.injEq, Prod.mk.injEq, Bool.and_eq_true, decide_eq_true_eq] at h
    obtain ⟨⟨h1, h2, h3⟩, rfl, rfl⟩ := h
    have h4 : crQ (some j) (cpL s t ⟨x, y, u, v⟩) = true := h3
    have h5 : crOut (some j) (cpL s t ⟨x, y, u, v⟩) = [crCell j (cpL s t ⟨x, y, u, v⟩)] := by
      show [crPair j _] = _
      rw [crCell_eq h3]
    show some (decide (k = 12) && (flQ s t ⟨x, y, u, v⟩ 12 && crQ (some j) (cpL s t ⟨x, y, u, v⟩)), true, crOut (some j) (cpL s t ⟨x, y, u, v⟩)) = _
    rw [h2, h4, h5, h1]; rfl
  · cases h
def eCrossJ (j : Nat) : EntryN Try.prog := { f := 45, fn := crFnJ j, enter := fun _ _ => enter_of Try.func45 (by kernel_rfl) (c := Try.f45.body.getD .skip) (by kernel_rfl), ok := crossJ_ok j }
def decTr : List AC → Option (List Sh)
  | [] => some []
  | .cx .f32 x y :: l => (decTr l).map fun L => ⟨x, y, c32 0, c32 0⟩ :: L
  | _ => none
theorem decTr_enc : ∀ (c : List AC) (L : List Sh), decTr c = some L → c = encTr L
  | [], L, h => by cases h; rfl
  | x :: l, L, h => by
    unfold decTr at h
    split at h
    · rename_i he; cases he
    · rename_i x0 y0 l0 he
      simp only [List.cons.injEq] at he
      obtain ⟨rfl, rfl⟩ := he
      cases hd : decTr l with
      | none => rw [hd] at h; cases h
      | some L0 =>
        rw [hd] at h
        cases h
        rw [decTr_enc l L0 hd]; rfl
    · cases h
def slLp (o : Option Nat) : LoopRule
  | 0, _ :: .c (.val m) :: _ :: _ :: _ :: .c (.fl .f32 s) :: .c (.ptr 0 0) :: .c (.slc 1 n) :: _ :: .c (.slc 2 q) :: _ :: .c (.val (.int .i64 at_)) :: .c (.val (.int .i64 k)) :: F, [[.cx .f32 a b, .cx .f32 c d], cr, tr] => match decTr tr, o, cr with
    | some L, none, [] => some (decide (F.length = 287 ∧ L.length = 13 ∧ n = 0 ∧ q = 13 ∧ at_ = 0 ∧ k = 1) && crNo L, .exit 0, slFr m s 0 0 13, [[.cx .f32 a b, .cx .f32 c d], [], encTr L])
    | some L, some j, [.cx .f32 X U] => some (decide (F.length = 287 ∧ L.length = 13 ∧ n = 1 ∧ q = 13 ∧ at_ = 0 ∧ k = 1) && slOnly X j L, .exit 0, slFr m s 1 1 13, [[.cx .f32 a b, .cx .f32 c d], [.cx .f32 X U], encTr L])
    | _, _, _ => none
  | _, _, _ => none
theorem sl_weaken (m : Value) (s : F32) (n : Nat) (at_ k : Int) (y0 y1 y2 y3 y4 y5 : AV) (F : List AV) (h : F.length = 287) : weaken slMk (y0 :: .c (.val m) :: y1 :: y2 :: y3 :: .c (.fl .f32 s) :: .c (.ptr 0 0) :: .c (.slc 1 n) :: y4 :: .c (.slc 2 13) :: y5 :: .c (.val (.int .i64 at_)) :: .c (.val (.int .i64 k)) :: F) = slFr m s n at_ k := by
  have e : weaken slMk (y0 :: .c (.val m) :: y1 :: y2 :: y3 :: .c (.fl .f32 s) :: .c (.ptr 0 0) :: .c (.slc 1 n) :: y4 :: .c (.slc 2 13) :: y5 :: .c (.val (.int .i64 at_)) :: .c (.val (.int .i64 k)) :: F) =
    ([.c .any, .c (.val m), .c .any, .c .any, .c .any, .c (.fl .f32 s), .c (.ptr 0 0), .c (.slc 1 n), .c .any, .c (.slc 2 13), .c .any, .c (.val (.int .i64 at_)), .c (.val (.int .i64 k))] : List AV) ++ weaken (List.replicate 287 false) F := by kernel_rfl
  rw [e, weaken_any 287 F h]; rfl
theorem sl_loops (W : World) (o : Option Nat) : LoopsOk Try.prog 0 (Ext W) (slLp o) 0 (Try.f7.body.getD .skip) := by
  intro j x hx F M o' F' M' hl w0 _ hw
  have hX : (loopsAll (Try.f7.body.getD .skip))[0]? = some (loopN 0 Try.f7) := by kernel_rfl
  rw [Nat.zero_add] at hl
  unfold slLp at hl
  split at hl
  · rename_i y0 m y1 y2 y3 s n y4 q y5 at_ k F a b c d cr tr
    rw [hX] at hx
    cases hx
    split at hl
    · rename_i L hL
      simp only [Option.some.injEq, Prod.mk.injEq, Bool.and_eq_true, decide_eq_true_eq] at hl
      obtain ⟨⟨⟨hF, h13, rfl, rfl, rfl, rfl⟩, hq⟩, rfl, rfl, rfl⟩ := hl
      have hc := decTr_enc _ _ hL
      subst hc
      obtain ⟨p0, p1, p2, p3, p4, p5, p6, p7, p8, p9, p10, p11, p12, rfl⟩ := len13 h13
      refine InGoes.weaken slMk ?_
      rw [sl_weaken _ _ _ _ _ _ _ _ _ _ _ F hF]
      exact sl_no00_1 w0 hw m s a b c d p0 p1 p2 p3 p4 p5 p6 p7 p8 p9 p10 p11 p12 hq
    · rename_i L i X U hL
      simp only [Option.some.injEq, Prod.mk.injEq, Bool.and_eq_true, decide_eq_true_eq] at hl
      obtain ⟨⟨⟨hF, h13, rfl, rfl, rfl, rfl⟩, hq⟩, rfl, rfl, rfl⟩ := hl
      have hc := decTr_enc _ _ hL
      subst hc
      obtain ⟨p0, p1, p2, p3, p4, p5, p6, p7, p8, p9, p10, p11, p12, rfl⟩ := len13 h13
      refine InGoes.weaken slMk ?_
      rw [sl_weaken _ _ _ _ _ _ _ _ _ _ _ F hF]
      exact sl_only_1 w0 hw m s a b c d X U p0 p1 p2 p3 p4 p5 p6 p7 p8 p9 p10 p11 p12 i hq
    · cases hl
  · cases hl
theorem sl_far (o : Option Nat) : ∀ j, farOff ≤ j → ∀ F M, slLp o j F M = none := by
  intro j hj F M
  unfold slLp
  split
  · exact absurd hj (by decide)
  · rfl
end Go.Proofs.Ytlpahmefebgdlaa.Fx
/- The law FnSections: the first part of its run. No condition. -/
namespace Go.Proofs.Ytlpahmefebgdlaa.Fx
open Go Go.RowKit

def scYes : Option AV := some (.c (.sb true))
def scNay : Option AV := some (.c (.sb false))
def iW (n : Int) : F32 := lit .f32 (floatOfInt .f32 n)
def scShare (a : Int) : F32 := iW (IntKind.i64.wrap (1 + a)) / c32 1107296256
def scH : F32 := c32 1023410176
def scShip (b d : Int) : Sh := ⟨two32 + iW b / c32 1082130432, c32 3196059648, drQ d 8 / c32 1082130432, one32⟩
def slL (s : F32) (p : Sh) : List Sh := (cpL s scH p).map fun q => ⟨q.x, q.y, c32 0, c32 0⟩
theorem sc_one0 (W : World) (c m : Value) (T : List AV → List (List AC) → Option AV) : runU1 Try.prog [] [] [eCross none, eTrace] [wR8Long W, wR8At W, wShip W] (slLp none) 23 slMk 3 Try.f7 [.c (.val c), .c (.val m)] T =
    bif good W c && good W m then bif longV 48 (bytesOf W c) (bytesOf W m) then scYes else
    bif good W m then bif good W c then bif good W m then
    bif (flQ (scShare (r8v (bytesOf W m) 0 16)) scH (scShip (r8v (bytesOf W m) 1 8) (dr3 (bytesOf W c))) 12 && crQ none (cpL (scShare (r8v (bytesOf W m) 0 16)) scH (scShip (r8v (bytesOf W m) 1 8) (dr3 (bytesOf W c))))) && true then
    bif flQ (scShare (r8v (bytesOf W m) 0 16)) scH (scShip (r8v (bytesOf W m) 1 8) (dr3 (bytesOf W c))) 12 && true then
    bif crNo (slL (scShare (r8v (bytesOf W m) 0 16)) (scShip (r8v (bytesOf W m) 1 8) (dr3 (bytesOf W c)))) then
      T (slFr m (scShare (r8v (bytesOf W m) 0 16)) 0 0 13) [(scShip (r8v (bytesOf W m) 1 8) (dr3 (bytesOf W c))).cells, [], encTr (slL (scShare (r8v (bytesOf W m) 0 16)) (scShip (r8v (bytesOf W m) 1 8) (dr3 (bytesOf W c))))]
    else none else none else none else none else none else none else none := by kernel_rfl
theorem sc_one1 (W : World) (c m : Value) (j : Nat) (T : List AV → List (List AC) → Option AV) : runU1 Try.prog [] [] [eCrossJ j, eTrace] [wR8Long W, wR8At W, wShip W] (slLp (some j)) 23 slMk 3 Try.f7 [.c (.val c), .c (.val m)] T =
    bif good W c && good W m then bif longV 48 (bytesOf W c) (bytesOf W m) then scYes else
    bif good W m then bif good W c then bif good W m then
    bif (flQ (scShare (r8v (bytesOf W m) 0 16)) scH (scShip (r8v (bytesOf W m) 1 8) (dr3 (bytesOf W c))) 12 && crOnly j (cpL (scShare (r8v (bytesOf W m) 0 16)) scH (scShip (r8v (bytesOf W m) 1 8) (dr3 (bytesOf W c))))) && true then
    bif flQ (scShare (r8v (bytesOf W m) 0 16)) scH (scShip (r8v (bytesOf W m) 1 8) (dr3 (bytesOf W c))) 12 && true then
    bif slOnly (cxX (crPair j (cpL (scShare (r8v (bytesOf W m) 0 16)) scH (scShip (r8v (bytesOf W m) 1 8) (dr3 (bytesOf W c)))))) j (slL (scShare (r8v (bytesOf W m) 0 16)) (scShip (r8v (bytesOf W m) 1 8) (dr3 (bytesOf W c)))) then
      T (slFr m (scShare (r8v (bytesOf W m) 0 16)) 1 1 13) [(scShip (r8v (bytesOf W m) 1 8) (dr3 (bytesOf W c))).cells, [crCell j (cpL (scShare (r8v (bytesOf W m) 0 16)) scH (scShip (r8v (bytesOf W m) 1 8) (dr3 (bytesOf W c))))], encTr (slL (scShare (r8v (bytesOf W m) 0 16)) (scShip (r8v (bytesOf W m) 1 8) (dr3 (bytesOf W c))))]
    else none else none else none else none else none else none else none := by kernel_rfl
end Go.Proofs.Ytlpahmefebgdlaa.Fx
