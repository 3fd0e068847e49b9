/- Texts put together: Xz, Xl. No condition. -/
import Derived.Test.YtlpahmefebgdlaaQp
import Derived.Test.YtlpahmefebgdlaaQq
import Derived.Test.YtlpahmefebgdlaaQr
import Derived.Test.YtlpahmefebgdlaaQs
import Derived.Test.YtlpahmefebgdlaaQt
import Derived.Test.YtlpahmefebgdlaaQu
import Derived.Test.YtlpahmefebgdlaaQi
/- The law FnShips: its run. No condition. -/
namespace Go.Proofs.Ytlpahmefebgdlaa.Fx
open Go Go.RowKit

theorem ships_tail (W : World) (c : Value) (s : F32) (p : Sh) (n k : Nat) (hn : n < 6) (hk : k < 6) : runV2 Try.prog [eRunShip, eMirror, eConstT, eStep, eApart, eGapN, eSameShip] [] [eTrace] [wR8AtN W n k] noRule [10, 25] 12 Try.f8 (spFr c s) [shCel p] = spT W c s (shQ p) n k := by
  have h1 : n = 0 ∨ n = 1 ∨ n = 2 ∨ n = 3 ∨ n = 4 ∨ n = 5 := by omega
  have h2 : k = 0 ∨ k = 1 ∨ k = 2 ∨ k = 3 ∨ k = 4 ∨ k = 5 := by omega
  rcases h1 with rfl | rfl | rfl | rfl | rfl | rfl
  · rcases h2 with rfl | rfl | rfl | rfl | rfl | rfl
    · exact ships_tail0_0 W c s p
    · exact ships_tail0_1 W c s p
    · exact ships_tail0_2 W c s p
    · exact ships_tail0_3 W c s p
    · exact ships_tail0_4 W c s p
    · exact ships_tail0_5 W c s p
  · rcases h2 with rfl | rfl | rfl | rfl | rfl | rfl
    · exact ships_tail1_0 W c s p
    · exact ships_tail1_1 W c s p
    · exact ships_tail1_2 W c s p
    · exact ships_tail1_3 W c s p
    · exact ships_tail1_4 W c s p
    · exact ships_tail1_5 W c s p
  · rcases h2 with rfl | rfl | rfl | rfl | rfl | rfl
    · exact ships_tail2_0 W c s p
    · exact ships_tail2_1 W c s p
    · exact ships_tail2_2 W c s p
    · exact ships_tail2_3 W c s p
    · exact ships_tail2_4 W c s p
    · exact ships_tail2_5 W c s p
  · rcases h2 with rfl | rfl | rfl | rfl | rfl | rfl
    · exact ships_tail3_0 W c s p
    · exact ships_tail3_1 W c s p
    · exact ships_tail3_2 W c s p
    · exact ships_tail3_3 W c s p
    · exact ships_tail3_4 W c s p
    · exact ships_tail3_5 W c s p
  · rcases h2 with rfl | rfl | rfl | rfl | rfl | rfl
    · exact ships_tail4_0 W c s p
    · exact ships_tail4_1 W c s p
    · exact ships_tail4_2 W c s p
    · exact ships_tail4_3 W c s p
    · exact ships_tail4_4 W c s p
    · exact ships_tail4_5 W c s p
  · rcases h2 with rfl | rfl | rfl | rfl | rfl | rfl
    · exact ships_tail5_0 W c s p
    · exact ships_tail5_1 W c s p
    · exact ships_tail5_2 W c s p
    · exact ships_tail5_3 W c s p
    · exact ships_tail5_4 W c s p
    · exact ships_tail5_5 W c s p
theorem has_some {x : F32} {a : Rat} (h : HasS x a) : (widen x).isSome = true := by
  obtain ⟨s, m, e, ⟨r, hr, -⟩, -⟩ := widen_has h
  rw [hr]; rfl
theorem smN_self {x : F32} {a : Rat} (h : HasS x a) : smQ x x = true ∧ smN x x = true := by
  obtain ⟨h1, h2⟩ := eqS_true h h
  unfold smQ smN
  rw [has_some h, h1, h2]
  simp
theorem smSh_self {g : Rat} {p : Sh} {P : V4} (h : HasG g p P) : smShQ p p = true ∧ smSh p p = true := by
  obtain ⟨a1, a2⟩ := smN_self h.x
  obtain ⟨b1, b2⟩ := smN_self h.y
  obtain ⟨c1, c2⟩ := smN_self h.u
  obtain ⟨d1, d2⟩ := smN_self h.v
  unfold smShQ smSh
  rw [a1, a2, b1, b2, c1, c2, d1, d2]
  exact ⟨rfl, rfl⟩
theorem ceq_self {g : Rat} {p : Sh} {P : V4} (h : HasG g p P) : ceq p.x p.y p.x p.y = true := by
  unfold ceq
  rw [(eqS_true h.x h.x).1, (eqS_true h.y h.y).1]; rfl
/-- All that is known of a start. -/
structure StOk (p : Sh) (X Y U V : Rat) : Prop where
  x : HasS p.x X
  y : HasS p.y Y
  u : HasS p.u U
  v : HasS p.v V
  x1 : -2 ≤ X
  x2 : X ≤ 2
  y1 : -2 ≤ Y
  y2 : Y ≤ 2
  u1 : -1 ≤ U
  u2 : U ≤ 1
  v1 : -1 ≤ V
  v2 : V ≤ 1
  z : (X = 0 ∧ Y = 0) ∨ 1 / 64 ≤ X * X + Y * Y
  y4 : HasS (shQ p).y (Y + 4)
  ex : eq (p.x + c32 0) p.x = true ∧ eq (p.x + c32 2147483648) p.x = true
  ey : eq ((shQ p).y + c32 0) (shQ p).y = true ∧ eq ((shQ p).y + c32 2147483648) (shQ p).y = true
theorem rat_bd (i : Int) (n : Int) (h0 : 0 ≤ i) (h1 : i ≤ n) : (0 : Rat) ≤ (i : Rat) ∧ (i : Rat) ≤ (n : Rat) := ⟨Rat.intCast_le_intCast.2 h0, Rat.intCast_le_intCast.2 h1⟩
theorem off_sq (i : Int) (h : i ≠ 16) : (1 : Rat) / 64 ≤ ((i : Rat) - 16) / 8 * (((i : Rat) - 16) / 8) := by
  have key : (1 : Rat) ≤ ((i : Rat) - 16) * ((i : Rat) - 16) := by
    rcases Int.lt_or_gt_of_ne h with h1 | h1
    · have h2 : (i : Rat) ≤ ((15 : Int) : Rat) := Rat.intCast_le_intCast.2 (by omega)
      have e : ((15 : Int) : Rat) = 15 := rfl
      rw [e] at h2
      have := Rat.mul_le_mul_of_nonneg_left (show (1 : Rat) ≤ 16 - (i : Rat) by grind) (show (0 : Rat) ≤ 16 - (i : Rat) by grind)
      grind
    · have h2 : ((17 : Int) : Rat) ≤ (i : Rat) := Rat.intCast_le_intCast.2 (by omega)
      have e : ((17 : Int) : Rat) = 17 := rfl
      rw [e] at h2
      have := Rat.mul_le_mul_of_nonneg_left (show (1 : Rat) ≤ (i : Rat) - 16 by grind) (show (0 : Rat) ≤ (i : Rat) - 16 by grind)
      grind
  grind
theorem start_ok (i j p q : Int) (i0 : 0 ≤ i) (i1 : i < 33) (j0 : 0 ≤ j) (j1 : j < 33) (p0 : 0 ≤ p) (p1 : p < 17) (q0 : 0 ≤ q) (q1 : q < 17) :
    StOk ⟨drQ i 16, drQ j 16, drQ p 8, drQ q 8⟩ (((i : Rat) - 16) / 8) (((j : Rat) - 16) / 8) (((p : Rat) - 8) / 8) (((q : Rat) - 8) / 8) := by
  obtain ⟨hx, ex⟩ := st_x i i0 i1
  obtain ⟨hy, -⟩ := st_x j j0 j1
  obtain ⟨hy4, ey⟩ := st_y j j0 j1
  have hu := st_u p p0 p1
  have hv := st_u q q0 q1
  obtain ⟨a1, a2⟩ := rat_bd i 32 i0 (by omega)
  obtain ⟨b1, b2⟩ := rat_bd j 32 j0 (by omega)
  obtain ⟨c1, c2⟩ := rat_bd p 16 p0 (by omega)
  obtain ⟨d1, d2⟩ := rat_bd q 16 q0 (by omega)
  have e1 : ((32 : Int) : Rat) = 32 := rfl
  have e2 : ((16 : Int) : Rat) = 16 := rfl
  rw [e1] at a2 b2
  rw [e2] at c2 d2
  refine ⟨hx, hy, hu, hv, by grind, by grind, by grind, by grind, by grind, by grind, by grind, by grind, ?_, hy4, ex, ey⟩
  by_cases h : i = 16 ∧ j = 16
  · obtain ⟨rfl, rfl⟩ := h
    rw [e2]
    left
    constructor <;> grind
  · right
    by_cases hi : i = 16
    · have := off_sq j (fun hj => h ⟨hi, hj⟩)
      have := sq_nonneg (((i : Rat) - 16) / 8)
      grind
    · have := off_sq i hi
      have := sq_nonneg (((j : Rat) - 16) / 8)
      grind
theorem sp_all {W : World} {m : Value} {l' : List Int} (hm : BytesAt W m l') {s : F32} {M : Rat} {p : Sh} {X Y U V : Rat} (hs : Shr s M) (h : StOk p X Y U V) (n k : Nat) (hn : n < 6) (hk : k < 6) (e1 : r8v (bytesOf W m) 2 6 = n) (e2 : r8v (bytesOf W m) 3 6 = k) : spT W m s (shQ p) n k = shYes := by
  have hp : HasG 1 (shQ p) ⟨X, Y + 4, U, V⟩ := ⟨h.x, by rw [Rat.one_mul]; exact h.y4, by rw [Rat.one_mul]; exact h.u, h.v⟩
  have hf : finS spH = true := by kernel_rfl
  have ok := ship_ok hs sp_tick hf hp h.x1 h.x2 (by have := h.y1; grind) (by have := h.y2; grind) h.u1 h.u2 h.v1 h.v2
  obtain ⟨k1, k2, k3⟩ := tick0 hs hp h.x1 h.x2 (by have := h.y1; grind) (by have := h.y2; grind) h.u1 h.u2 h.v1 h.v2 h.ex h.ey
  have g0 : flQ s spH (shQ p) n = true := ok.fl 0 n (by omega)
  have g1 : flQ s spH (flS s spH n (shQ p)) k = true := ok.fl n k (by omega)
  have g2 : flQ s spH (shQ p) (n + k) = true := ok.fl 0 (n + k) (by omega)
  obtain ⟨P, hP⟩ := ok.hasS (n + k) (by omega)
  have g3 : (mir (flS s spH (n + k) (shQ p))).fin = true := hasG_fin (mir_hasG hP)
  have g4 : flQ s spH (mir (flS s spH (n + k) (shQ p))) (n + k) = true := ok.back (n + k) (by omega)
  have g5 : (mir (shQ p)).fin = true := hasG_fin (mir_hasG hp)
  obtain ⟨c1, c2, c3⟩ := ok.co 0 (by omega)
  obtain ⟨c4, c5, c6⟩ := ok.co (n + k) (by omega)
  have g6 : coQQ s (shQ p).x (shQ p).y (shQ p).u (shQ p).v = true := by
    have d1 : (potFit s (shQ p).x (shQ p).y && fits (powerW (shQ p).u (shQ p).v)) = true := c1
    have d2 : coOk s (shQ p).x (shQ p).y (shQ p).u (shQ p).v = true := c2
    have d3 : finS (coW s (shQ p).x (shQ p).y (shQ p).u (shQ p).v) = true := c3
    unfold coQQ; rw [d1, d2, d3]; rfl
  have g7 : coQQ s (flS s spH (n + k) (shQ p)).x (flS s spH (n + k) (shQ p)).y (flS s spH (n + k) (shQ p)).u (flS s spH (n + k) (shQ p)).v = true := by unfold coQQ; rw [c4, c5, c6]; rfl
  obtain ⟨s1, s2⟩ := smSh_self hP
  obtain ⟨a1, a2⟩ := ok.at_ (n + k) (by omega)
  obtain ⟨b1, b2⟩ := ok.sp (n + k) (by omega)
  have gg := ok.gap (n + k) (by omega)
  have z0 : ceq (flS s spH 0 (shQ p)).x (flS s spH 0 (shQ p)).y (shQ p).x (shQ p).y = true := ceq_self hp
  have zN := ceq_self hP
  have zt : ceq (stp s (shQ p) (c32 0)).x (stp s (shQ p) (c32 0)).y (shQ p).x (shQ p).y = true := by unfold ceq; rw [k2, k3]; rfl
  have hZ : spZ s (shQ p) (flS s spH k (flS s spH n (shQ p))) (flS s spH (n + k) (shQ p)) (flS s spH 0 (shQ p)) (flS s spH (n + k) (shQ p)) (flS s spH (n + k) (mir (flS s spH (n + k) (shQ p)))) (mir (shQ p)) (stp s (shQ p) (c32 0)) = shYes := by
    rw [flS_add]
    unfold spZ
    have a1' : fits (longF ((flS s spH (n + k) (mir (flS s spH (n + k) (shQ p)))).x - (mir (shQ p)).x) ((flS s spH (n + k) (mir (flS s spH (n + k) (shQ p)))).y - (mir (shQ p)).y)) = true := a1
    have a2' : lt (widen (long ((flS s spH (n + k) (mir (flS s spH (n + k) (shQ p)))).x - (mir (shQ p)).x) ((flS s spH (n + k) (mir (flS s spH (n + k) (shQ p)))).y - (mir (shQ p)).y))) c01 = true := a2
    have b1' : fits (longF ((flS s spH (n + k) (mir (flS s spH (n + k) (shQ p)))).u - (mir (shQ p)).u) ((flS s spH (n + k) (mir (flS s spH (n + k) (shQ p)))).v - (mir (shQ p)).v)) = true := b1
    have b2' : lt (widen (long ((flS s spH (n + k) (mir (flS s spH (n + k) (shQ p)))).u - (mir (shQ p)).u) ((flS s spH (n + k) (mir (flS s spH (n + k) (shQ p)))).v - (mir (shQ p)).v))) c01 = true := b2
    have gg' : lt (gapN (widen (coW s (shQ p).x (shQ p).y (shQ p).u (shQ p).v)) (widen (coW s (flS s spH (n + k) (shQ p)).x (flS s spH (n + k) (shQ p)).y (flS s spH (n + k) (shQ p)).u (flS s spH (n + k) (shQ p)).v))) (c01 * (one + gapN (widen (coW s (shQ p).x (shQ p).y (shQ p).u (shQ p).v)) zero)) = true := gg
    rw [s1, s2, z0, zN, a1', a2', b1', b2', gg', zt]; rfl
  unfold spT
  rw [good_of hm, decide_eq_true e1, decide_eq_true e2, g0, g1, g2, g3, g4, g5, g6, g7, k1, hZ]; rfl
theorem sp_frame {p : Sh} {t : F32} {X Y U V : Rat} (h : StOk p X Y U V) (hf : FrOk p t) (T : Option AV) : tiQ p t = true ∧ toQ (tiS p t) t = true ∧ (mir p).fin = true ∧ (mir (mir p)).fin = true ∧ shA p (tiS p t) (toS (tiS p t) t) (mir (mir p)) T = T := by
  have ny := negS_has h.y
  have nu := negS_has h.u
  have nny := negS_has ny
  have nnu := negS_has nu
  rw [Rat.neg_neg] at nny nnu
  have f1 : (mir p).fin = true := by
    unfold Sh.fin vShip cfin mir
    rw [hasS_fin h.x, hasS_fin ny, hasS_fin nu, hasS_fin h.v]; rfl
  have f2 : (mir (mir p)).fin = true := by
    unfold Sh.fin vShip cfin mir
    rw [hasS_fin h.x, hasS_fin nny, hasS_fin nnu, hasS_fin h.v]; rfl
  refine ⟨hf.ti, hf.to, f1, f2, ?_⟩
  have c1 : cneq (mir (mir p)).x (mir (mir p)).y p.x p.y = false := by
    unfold cneq mir
    rw [(eqS_true h.x h.x).1, (eqS_true nny h.y).1]; rfl
  have c2 : cneq (mir (mir p)).u (mir (mir p)).v p.u p.v = false := by
    unfold cneq mir
    rw [(eqS_true nnu h.u).1, (eqS_true h.v h.v).1]; rfl
  have a2 : gt (widen (long ((toS (tiS p t) t).x - p.x) ((toS (tiS p t) t).y - p.y))) c001 = false := hf.at_.2
  have b2 : gt (widen (long ((toS (tiS p t) t).u - p.u) ((toS (tiS p t) t).v - p.v))) c001 = false := hf.sp.2
  have g2 : gt (gapN (widen (long (tiS p t).x (tiS p t).y)) (widen (long p.x p.y))) c001 = false := hf.gap
  unfold shA
  rw [hf.at_.1, a2, hf.sp.1, b2, c1, c2, hf.l1, hf.l2, g2]; rfl
theorem ships_run {W : World} {c m : Value} {l l' : List Int} (hc : BytesAt W c l) (hm : BytesAt W m l') :
    ∃ n k : Nat, runV1 Try.prog [eTurnIn, eTurnOut, eMirror, eApart, eLong, eGapN] [] [] [wR8Long W, wR8At W, wShip W] noRule [10, 25] 12 shMk 1 Try.f8 [.c (.val c), .c (.val m)] (runV2 Try.prog [eRunShip, eMirror, eConstT, eStep, eApart, eGapN, eSameShip] [] [eTrace] [wR8AtN W n k] noRule [10, 25] 12 Try.f8) = shYes := by
  obtain ⟨n0, n1⟩ := r8v_range (bytesOf W m) 2 (n := 6) (by decide)
  obtain ⟨k0, k1⟩ := r8v_range (bytesOf W m) 3 (n := 6) (by decide)
  obtain ⟨n, hn⟩ := Int.eq_ofNat_of_zero_le n0
  obtain ⟨k, hk⟩ := Int.eq_ofNat_of_zero_le k0
  obtain ⟨M, hs⟩ := sp_shr (r8v (bytesOf W m) 0 16) (r8v_range _ _ (by decide)).1 (r8v_range _ _ (by decide)).2
  obtain ⟨C, S, C', S', ph⟩ := ph_all (r8v (bytesOf W m) 1 65) (r8v_range _ _ (by decide)).1 (r8v_range _ _ (by decide)).2
  have hst := start_ok (dr1 (bytesOf W c)) (dr2 (bytesOf W c)) (dr3 (bytesOf W c)) (dr4 (bytesOf W c)) (dr1_range _).1 (dr1_range _).2 (dr2_range _).1 (dr2_range _).2 (dr3_range _).1 (dr3_range _).2 (dr4_range _).1 (dr4_range _).2
  have fr := frame_ok hst.x hst.y hst.u hst.v hst.x1 hst.x2 hst.y1 hst.y2 hst.u1 hst.u2 hst.v1 hst.v2 hst.z ph
  obtain ⟨q1, q2, q3, q4, q5⟩ := sp_frame hst fr (runV2 Try.prog [eRunShip, eMirror, eConstT, eStep, eApart, eGapN, eSameShip] [] [eTrace] [wR8AtN W n k] noRule [10, 25] 12 Try.f8 (spFr m (spShare (r8v (bytesOf W m) 0 16))) [shCel (shP (bytesOf W c))])
  have hT := sp_all hm hs hst n k (by omega) (by omega) hn hk
  refine ⟨n, k, ?_⟩
  refine (ships_head W c m _).trans ?_
  have q1' : tiQ (shP (bytesOf W c)) (tmW (r8v (bytesOf W m) 1 65)) = true := q1
  have q2' : toQ (tiS (shP (bytesOf W c)) (tmW (r8v (bytesOf W m) 1 65))) (tmW (r8v (bytesOf W m) 1 65)) = true := q2
  have q3' : (mir (shP (bytesOf W c))).fin = true := q3
  have q4' : (mir (mir (shP (bytesOf W c)))).fin = true := q4
  have q5' : shA (shP (bytesOf W c)) (tiS (shP (bytesOf W c)) (tmW (r8v (bytesOf W m) 1 65))) (toS (tiS (shP (bytesOf W c)) (tmW (r8v (bytesOf W m) 1 65))) (tmW (r8v (bytesOf W m) 1 65))) (mir (mir (shP (bytesOf W c)))) (runV2 Try.prog [eRunShip, eMirror, eConstT, eStep, eApart, eGapN, eSameShip] [] [eTrace] [wR8AtN W n k] noRule [10, 25] 12 Try.f8 (spFr m (spShare (r8v (bytesOf W m) 0 16))) [shCel (shP (bytesOf W c))]) = runV2 Try.prog [eRunShip, eMirror, eConstT, eStep, eApart, eGapN, eSameShip] [] [eTrace] [wR8AtN W n k] noRule [10, 25] 12 Try.f8 (spFr m (spShare (r8v (bytesOf W m) 0 16))) [shCel (shP (bytesOf W c))] := q5
  have hT' : spT W m (spShare (r8v (bytesOf W m) 0 16)) (shQ (shP (bytesOf W c))) n k = shYes := hT
  rw [good_of hc, good_of hm, q1', q2', q3', q4', q5', ships_tail W m _ _ n k (by omega) (by omega), hT']
  cases longV 48 (bytesOf W c) (bytesOf W m) <;> rfl
end Go.Proofs.Ytlpahmefebgdlaa.Fx
/- A drawn region with many operations: its lexical order is looked at pair by pair, along the list. -/
namespace Go.Proofs.Ytlpahmefebgdlaa.Fx
open Go Go.RowKit

def quickFrom (md : Region.Mode) (ops : Array Oper) : Nat → List Oper → Bool
  | _, [] => true
  | k, o :: l => o.after.all (fun e => !Region.binds md e || Nat.blt e.on k) && (l.all (fun oj => oj.after.any (fun e => Region.binds md e && e.on == k) || (o.apart ops oj && memApart o oj)) && quickFrom md ops (k + 1) l)

theorem quick_spec {md : Region.Mode} {ops : Array Oper} : ∀ (l : List Oper) (k : Nat) (listed : Array Bool), (∀ j, l[j]? = ops[k + j]?) → k + l.length = ops.size →
    (∀ j, listed[j]? = if j < ops.size then some (decide (j < k)) else none) → quickFrom md ops k l = true →
    Region.lexFrom md ops l.length k listed = true ∧ memLexFrom md ops l.length k listed = true
  | [], k, listed, hl, hk, hL, h => by
    refine ⟨?_, rfl⟩
    simp only [List.length_nil, Nat.add_zero] at hk
    simp only [Region.lexFrom, List.length_nil, List.isEmpty_iff, Region.ready, List.filter_eq_nil_iff, List.mem_range]
    intro i hi
    have := hL i
    rw [if_pos hi] at this
    have h2 : i < k := by omega
    simp [Array.getD_eq_getD_getElem?, this, h2]
  | o :: l, k, listed, hl, hk, hL, h => by
    simp only [quickFrom, Bool.and_eq_true] at h
    obtain ⟨ha, hb, hc⟩ := h
    simp only [List.length_cons] at hk
    have hks : k < ops.size := by omega
    have h0 : ops[k]? = some o := by have := hl 0; simpa using this.symm
    have hls : listed.size = ops.size := by
      rcases Nat.lt_trichotomy listed.size ops.size with h1 | h1 | h1
      · have := hL listed.size; rw [if_pos h1] at this; simp at this
      · exact h1
      · have := hL ops.size; rw [if_neg (Nat.lt_irrefl _)] at this; simp at this; omega
    have hrec := quick_spec l (k + 1) (listed.setIfInBounds k true) (fun j => by have := hl (j + 1); simpa [Nat.add_assoc, Nat.add_comm 1 j] using this) (by omega)
      (fun j => by
        rw [Array.getElem?_setIfInBounds, hL j]
        by_cases h1 : k = j
        · subst h1; simp [hks, hls]
        · by_cases h2 : j < ops.size <;> simp [h1, h2] <;> omega) hc
    have hpair : ∀ j oj, ops[j]? = some oj → k < j → (oj.after.any (fun e => Region.binds md e && e.on == k) || (o.apart ops oj && memApart o oj)) = true := by
      intro j oj hj hlt
      refine List.all_eq_true.1 hb oj ?_
      have h1 := hl (j - k)
      rw [show k + (j - k) = j by omega, hj, show j - k = (j - k - 1) + 1 by omega, List.getElem?_cons_succ] at h1
      exact List.mem_of_getElem? h1
    refine ⟨?_, ?_⟩
    · simp only [Region.lexFrom, List.length_cons, Bool.and_eq_true]
      refine ⟨⟨?_, ?_⟩, hrec.1⟩
      · simp only [Region.ready, List.contains_iff_mem, List.mem_filter, List.mem_range, Bool.and_eq_true]
        refine ⟨hks, ?_, ?_⟩
        · have := hL k; rw [if_pos hks] at this; simp [Array.getD_eq_getD_getElem?, this]
        · rw [h0]
          simp only [Option.map_some, Option.getD_some]
          refine Array.all_eq_true_iff_forall_mem.2 fun e he => ?_
          have := Array.all_eq_true_iff_forall_mem.1 ha e he
          rcases Bool.or_eq_true _ _ ▸ this with h1 | h1
          · simp [h1]
          · have h2 : e.on < k := by simpa using h1
            have h3 := hL e.on; rw [if_pos (by omega)] at h3
            simp [Array.getD_eq_getD_getElem?, h3, h2]
      · simp only [Region.free, h0, List.all_eq_true, List.mem_range, Bool.or_eq_true]
        intro j hj
        rcases Nat.lt_trichotomy j k with h1 | h1 | h1
        · have h3 := hL j; rw [if_pos hj] at h3
          exact .inl (.inr (by simp [Array.getD_eq_getD_getElem?, h3, h1]))
        · exact .inl (.inl (by simp [h1]))
        · refine .inr ?_
          obtain ⟨oj, hoj⟩ : ∃ oj, ops[j]? = some oj := ⟨_, Array.getElem?_eq_getElem hj⟩
          rw [hoj]
          have := hpair j oj hoj h1
          simp only [Bool.or_eq_true, Bool.and_eq_true] at this ⊢
          exact this.imp id And.left
    · simp only [memLexFrom, List.length_cons, Bool.and_eq_true]
      refine ⟨?_, hrec.2⟩
      simp only [memFree, h0, List.all_eq_true, List.mem_range, Bool.or_eq_true]
      intro j hj
      rcases Nat.lt_trichotomy j k with h1 | h1 | h1
      · have h3 := hL j; rw [if_pos hj] at h3
        exact .inl (.inr (by simp [Array.getD_eq_getD_getElem?, h3, h1]))
      · exact .inl (.inl (by simp [h1]))
      · refine .inr ?_
        obtain ⟨oj, hoj⟩ : ∃ oj, ops[j]? = some oj := ⟨_, Array.getElem?_eq_getElem hj⟩
        rw [hoj]
        have := hpair j oj hoj h1
        simp only [Bool.or_eq_true, Bool.and_eq_true] at this ⊢
        exact this.imp id And.right

theorem quick_lex {md : Region.Mode} {ops : Array Oper} (hs : Region.noSelect ops = true) (h : quickFrom md ops 0 ops.toList = true) : Region.lexB md ops = true ∧ memLexB md ops = true := by
  have := quick_spec (md := md) ops.toList 0 (Array.replicate ops.size false) (by simp) (by simp) (fun j => by by_cases h1 : j < ops.size <;> simp [h1]) h
  simp only [Region.lexB, memLexB, hs, Bool.true_and]
  simpa using this
end Go.Proofs.Ytlpahmefebgdlaa.Fx
