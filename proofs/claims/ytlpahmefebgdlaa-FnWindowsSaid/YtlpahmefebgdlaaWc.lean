/- Contracts: circles, periods. No condition. -/
import Derived.Test.YtlpahmefebgdlaaWb
import Derived.Test.YtlpahmefebgdlaaCj
namespace Go.Proofs.Ytlpahmefebgdlaa.Fx
open Go Go.RowKit

def sCan : Entry Try.prog := { f := 90, fn := shP6S fun x0 x1 x2 x3 x4 x5 m => rB (orbS x0 x1 x2 x3 x4 x5 && aboveS m), ok := okP6S (E := [sl03Is, sAbove]) Try.func90 (by kernel_rfl) fun x0 x1 x2 x3 x4 x5 m _ => by show _ = some (AV.c (.sb (orbS x0 x1 x2 x3 x4 x5 && aboveS m))); rw [push_and]; kernel_rfl }
def peW (x0 m : F32) : F64 := c64 4618760256179416344 / rate (fabs (widen x0)) (widen m)
def peC (x0 x1 x2 x3 x4 x5 m : F32) : Bool := (orbS x0 x1 x2 x3 x4 x5 && aboveS m) && gt x0 (c32 0)
theorem period_raw (x0 x1 x2 x3 x4 x5 m : F32) : runO Try.prog [sCan, sEllipse, sRate, sl03Narrow] Try.f38 [.agg [.fl .f32 x0, .fl .f32 x1, .fl .f32 x2, .fl .f32 x3, .fl .f32 x4, .fl .f32 x5], .c (.fl .f32 m)] [] =
    bif !(orbS x0 x1 x2 x3 x4 x5 && aboveS m) then Zr else bif !(gt x0 (c32 0)) then Zr else bif fits (peW x0 m) then some (.tup [.fl .f32 (giveV (narrow (peW x0 m))), .sb (giveB (narrow (peW x0 m)))]) else none := by kernel_rfl
def peV (x0 x1 x2 x3 x4 x5 m : F32) : F32 := bif peC x0 x1 x2 x3 x4 x5 m then giveV (narrow (peW x0 m)) else c32 0
def peB (x0 x1 x2 x3 x4 x5 m : F32) : Bool := bif peC x0 x1 x2 x3 x4 x5 m then giveB (narrow (peW x0 m)) else false
def peQ (x0 x1 x2 x3 x4 x5 m : F32) : Bool := !(peC x0 x1 x2 x3 x4 x5 m) || fits (peW x0 m)
theorem period_run (x0 x1 x2 x3 x4 x5 m : F32) (h : peQ x0 x1 x2 x3 x4 x5 m = true) : runO Try.prog [sCan, sEllipse, sRate, sl03Narrow] Try.f38 [.agg [.fl .f32 x0, .fl .f32 x1, .fl .f32 x2, .fl .f32 x3, .fl .f32 x4, .fl .f32 x5], .c (.fl .f32 m)] [] =
    some (.tup [.fl .f32 (peV x0 x1 x2 x3 x4 x5 m), .sb (peB x0 x1 x2 x3 x4 x5 m)]) := by
  rw [period_raw]
  unfold peQ at h
  unfold peV peB
  unfold peC at h ⊢
  cases h1 : orbS x0 x1 x2 x3 x4 x5 && aboveS m
  · rfl
  · cases h2 : gt x0 (c32 0)
    · rfl
    · rw [h1, h2] at h
      have h' : fits (peW x0 m) = true := h
      rw [h']; rfl

/-- An orbit that is known bit for bit. -/
def wd32 (r : Nat) : Bool := decide (r < 4294967296)
def shOV : List AV → List (List AC) → Option (Bool × AV)
  | [.agg [.val (.float .f32 a), .val (.float .f32 b), .val (.float .f32 c), .val (.float .f32 d), .val (.float .f32 e), .val (.float .f32 f)], .c (.fl .f32 m)], _ =>
    some (wd32 a && wd32 b && wd32 c && wd32 d && wd32 e && wd32 f && peQ (c32 a) (c32 b) (c32 c) (c32 d) (c32 e) (c32 f) m, .tup [.fl .f32 (peV (c32 a) (c32 b) (c32 c) (c32 d) (c32 e) (c32 f) m), .sb (peB (c32 a) (c32 b) (c32 c) (c32 d) (c32 e) (c32 f) m)])
  | _, _ => none
theorem ePeriodV_ok : EOk Try.prog 38 shOV := by
  intro args M r hr σ vs w _ ha
  unfold shOV at hr
  split at hr
  · rename_i a b c d e f m
    simp only [Option.some.injEq, Prod.mk.injEq, Bool.and_eq_true, wd32, decide_eq_true_eq] at hr
    obtain ⟨⟨⟨⟨⟨⟨⟨ha1, hb1⟩, hc1⟩, hd1⟩, he1⟩, hf1⟩, hq⟩, rfl⟩ := hr
    cases ha with
    | cons e1 ha => cases ha with
      | cons e2 ha =>
        cases ha
        obtain ⟨⟨us⟩, rfl, hu⟩ := e1
        have hv : RepL σ [.val (.float .f32 a), .val (.float .f32 b), .val (.float .f32 c), .val (.float .f32 d), .val (.float .f32 e), .val (.float .f32 f)] us := hu
        clear hu
        match us, hv with
        | _, .cons u1 (.cons u2 (.cons u3 (.cons u4 (.cons u5 (.cons u6 .nil))))) =>
          refine gives0O Try.func38 (by kernel_rfl) rfl (period_run (c32 a) (c32 b) (c32 c) (c32 d) (c32 e) (c32 f) m hq) (.cons ?_ (.cons e2 .nil))
          exact ⟨_, rfl, .cons ⟨0, u1, ha1⟩ (.cons ⟨0, u2, hb1⟩ (.cons ⟨0, u3, hc1⟩ (.cons ⟨0, u4, hd1⟩ (.cons ⟨0, u5, he1⟩ (.cons ⟨0, u6, hf1⟩ .nil)))))⟩
  · cases hr
def ePeriodV : Entry Try.prog := { f := 38, fn := shOV, ok := ePeriodV_ok }

-- circles
theorem above_run (x : F32) : run Try.prog [sFinite] Try.f89 [.c (.fl .f32 x)] [] = some (.c (.sb (aboveS x))) := by
  unfold aboveS; rw [push_and]; kernel_rfl
theorem above_calls (r : Nat) (hr : Wd .f32 r) (w : World) : Calls Try.prog 89 #[.float .f32 r] w fun e w' => e = .returned (.bool (aboveS (c32 r))) ∧ Ext w w' :=
  (run_sound (σ := []) (vs := [.float .f32 r]) Try.func89 (above_run (c32 r)) (MemOk.nil w) (.cons ⟨0, rfl, hr⟩ .nil)).mono fun e w' ⟨v, he, hv, hw⟩ => by
    have hv' : v = .bool (aboveS (c32 r)) := hv
    subst hv'
    exact ⟨he, hw⟩
def orbV (r : Nat) : Value := .agg #[.float .f32 r, .float .f32 0, .float .f32 0, .float .f32 0, .float .f32 0, .float .f32 0]
theorem Ext.frozen {W w : World} (h : Ext W w) {a : Addr} (hb : a.block < W.heap.size) : w.frozen? a = W.frozen? a := by
  unfold World.frozen?
  rw [h.block a.block hb]
theorem size_new (w : World) (o : Obj) : w.heap.size < (w.alloc o).heap.size := by
  rw [World.size_alloc]; exact Nat.lt_succ_self _
theorem run_store_float {P : Program} {w : World} {a : Addr} {m : Mode} (k : FloatKind) (n : Nat) : (store a (.float k n) m).run P w = stored P w a (.float k n) m := run_store P w a _ m rfl
attribute [local go_sem] run_store_float
theorem circle_calls (r : Nat) (hr : Wd .f32 r) (w : World) : Calls Try.prog 37 #[.float .f32 r] w fun e w' => e = .returned (.tuple #[orbV (bif aboveS (c32 r) then r else 0), .bool (aboveS (c32 r))]) ∧ Ext w w' := by
  cases hb : aboveS (c32 r)
  all_goals
    go_enter Try.func37, Try.ntmps37
    go_wp2_with fail
    go_call (above_calls r hr _) as e w' ⟨he, hx⟩
    subst he
    have c0 : w'.cell? ⟨w.heap.size, 0, none⟩ = some (.float .f32 0) := hx.cell (new_cell w _ _ 0 rfl)
    have c1 : w'.cell? ⟨w.heap.size, 1, none⟩ = some (.float .f32 0) := hx.cell (new_cell w _ _ 1 rfl)
    have c2 : w'.cell? ⟨w.heap.size, 2, none⟩ = some (.float .f32 0) := hx.cell (new_cell w _ _ 2 rfl)
    have c3 : w'.cell? ⟨w.heap.size, 3, none⟩ = some (.float .f32 0) := hx.cell (new_cell w _ _ 3 rfl)
    have c4 : w'.cell? ⟨w.heap.size, 4, none⟩ = some (.float .f32 0) := hx.cell (new_cell w _ _ 4 rfl)
    have c5 : w'.cell? ⟨w.heap.size, 5, none⟩ = some (.float .f32 0) := hx.cell (new_cell w _ _ 5 rfl)
    have f0 := (hx.frozen (a := ⟨w.heap.size, 0, none⟩) (size_new w _)).trans (new_frozen w _ _ 0)
    have f1 := (hx.frozen (a := ⟨w.heap.size, 1, none⟩) (size_new w _)).trans (new_frozen w _ _ 1)
    have f2 := (hx.frozen (a := ⟨w.heap.size, 2, none⟩) (size_new w _)).trans (new_frozen w _ _ 2)
    have f3 := (hx.frozen (a := ⟨w.heap.size, 3, none⟩) (size_new w _)).trans (new_frozen w _ _ 3)
    have f4 := (hx.frozen (a := ⟨w.heap.size, 4, none⟩) (size_new w _)).trans (new_frozen w _ _ 4)
    have f5 := (hx.frozen (a := ⟨w.heap.size, 5, none⟩) (size_new w _)).trans (new_frozen w _ _ 5)
    have hx' : Below w.heap.size w w' := Below.trans (Below.alloc (Below.refl _ _) (Nat.le_refl _) _) (Below.mono hx (Nat.le_of_lt (size_new w _)))
    clear hx
    rw [hb]
    go_wp2

    all_goals
      refine bodyPost_ret (v := .tuple #[orbV _, .bool _]) ?_ rfl ⟨rfl, ?_⟩
      · unfold orbV
        simp [results, Try.results37, go_sem, World.cell?_setCell_same', World.cell?_setCell_other, c0, c1, c2, c3, c4, c5]
      · unfold Ext
        go_grown
        all_goals exact Nat.le_refl _
def shCi : List AV → List (List AC) → Option (Bool × AV)
  | [.c (.fl .f32 x)], _ => some (x.isSome, .tup [.val (orbV (bif aboveS x then B x 0 else 0)), .sb (aboveS x)])
  | _, _ => none
theorem eCircle_ok : EOk Try.prog 37 shCi := by
  intro args M r hr σ vs w _ ha
  unfold shCi at hr
  split at hr
  · rename_i x
    simp only [Option.some.injEq, Prod.mk.injEq] at hr
    obtain ⟨hx, rfl⟩ := hr
    cases x with
    | none => cases hx
    | some r =>
      cases ha with
      | cons e1 ha =>
        cases ha
        obtain ⟨t, rfl, hw⟩ := e1
        refine .inr ⟨enter_of Try.func37 (by kernel_rfl) (c := Try.f37.body.getD .skip) (by kernel_rfl), ?_⟩
        exact (circle_calls r hw w).mono fun e w' ⟨he, hx⟩ => ⟨_, he, ⟨_, rfl, .cons rfl (.cons rfl .nil)⟩, hx⟩
  · cases hr
def eCircle : Entry Try.prog := { f := 37, fn := shCi, ok := eCircle_ok }
end Go.Proofs.Ytlpahmefebgdlaa.Fx
