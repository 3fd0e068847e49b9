/- Texts put together: Tq, Kv, Lb. No condition. -/
import Derived.Test.YtlpahmefebgdlaaPn
import Derived.Test.YtlpahmefebgdlaaPq
import Derived.Test.YtlpahmefebgdlaaPp
import Derived.Test.YtlpahmefebgdlaaPl
import Derived.Test.YtlpahmefebgdlaaRows
import Derived.ProofKit
import Derived.OpenShut
import Derived.ChangeSlices
import Derived.WideKeyArgs
/- The law FnSections: the third and the fourth part of its run. No condition. -/
namespace Go.Proofs.Ytlpahmefebgdlaa.Fx
open Go Go.RowKit

def scFr3 (s g : F32) (c : F32) (n : Int) : List AV := [.c .any, .c .any, .c .any, .c .any, .c .any, .c (.fl .f32 s)] ++ List.replicate 16 (.c .any) ++ [.c (.fl .f32 g), .c (.sb true), .c (.fl .f32 c), .c (.val (.int .i64 n))] ++ List.replicate 274 (.c .any)
def scMk3 : List Bool := [false, false, false, false, false, true] ++ List.replicate 16 false ++ [true, true, true, true] ++ List.replicate 274 false
def scConst (a : Int) : F32 := iW a / c32 1082130432
theorem sc_three (W : World) (o : Option Nat) (m : Value) (s : F32) (p : Sh) (T : List AV → List (List AC) → Option AV) : runU3 Try.prog [ePart] [] [] [wR8At W] (slLp o) 23 32 35 scMk3 0 Try.f7 T (scFr2 m s) [p.cells] =
    bif ptQ s scH p then bif good W m then bif good W m then T (scFr3 s (paW s scH p) (scConst (r8v (bytesOf W m) 2 17)) (IntKind.i64.wrap (1 + r8v (bytesOf W m) 3 6))) [] else none else none else none := by kernel_rfl
theorem sc_four1 (W : World) (s g c : F32) : runU4 Try.prog [ePotT] [] [eReach] (G := Ext W) [] l4Lp 23 32 35 Try.f7 (scFr3 s g c 1) [] =
    bif (isShare s && (finS c && rmQ s 1)) && true then bif gt g (c32 1101004800) then scNay else bif lt g (c32 3248488448) then scNay else bif (rmBs s c 1 == rmBs s c 1) && rmQ s 1 then scYes else none else none := by kernel_rfl
theorem sc_four2 (W : World) (s g c : F32) : runU4 Try.prog [ePotT] [] [eReach] (G := Ext W) [] l4Lp 23 32 35 Try.f7 (scFr3 s g c 2) [] =
    bif (isShare s && (finS c && rmQ s 2)) && true then bif gt g (c32 1101004800) then scNay else bif lt g (c32 3248488448) then scNay else bif (rmBs s c 2 == rmBs s c 2) && rmQ s 2 then scYes else none else none := by kernel_rfl
theorem sc_four3 (W : World) (s g c : F32) : runU4 Try.prog [ePotT] [] [eReach] (G := Ext W) [] l4Lp 23 32 35 Try.f7 (scFr3 s g c 3) [] =
    bif (isShare s && (finS c && rmQ s 3)) && true then bif gt g (c32 1101004800) then scNay else bif lt g (c32 3248488448) then scNay else bif (rmBs s c 3 == rmBs s c 3) && rmQ s 3 then scYes else none else none := by kernel_rfl
theorem sc_four4 (W : World) (s g c : F32) : runU4 Try.prog [ePotT] [] [eReach] (G := Ext W) [] l4Lp 23 32 35 Try.f7 (scFr3 s g c 4) [] =
    bif (isShare s && (finS c && rmQ s 4)) && true then bif gt g (c32 1101004800) then scNay else bif lt g (c32 3248488448) then scNay else bif (rmBs s c 4 == rmBs s c 4) && rmQ s 4 then scYes else none else none := by kernel_rfl
theorem sc_four5 (W : World) (s g c : F32) : runU4 Try.prog [ePotT] [] [eReach] (G := Ext W) [] l4Lp 23 32 35 Try.f7 (scFr3 s g c 5) [] =
    bif (isShare s && (finS c && rmQ s 5)) && true then bif gt g (c32 1101004800) then scNay else bif lt g (c32 3248488448) then scNay else bif (rmBs s c 5 == rmBs s c 5) && rmQ s 5 then scYes else none else none := by kernel_rfl
theorem sc_four6 (W : World) (s g c : F32) : runU4 Try.prog [ePotT] [] [eReach] (G := Ext W) [] l4Lp 23 32 35 Try.f7 (scFr3 s g c 6) [] =
    bif (isShare s && (finS c && rmQ s 6)) && true then bif gt g (c32 1101004800) then scNay else bif lt g (c32 3248488448) then scNay else bif (rmBs s c 6 == rmBs s c 6) && rmQ s 6 then scYes else none else none := by kernel_rfl
theorem sc_four (W : World) (s g c : F32) (n : Int) (h1 : 1 ≤ n) (h6 : n ≤ 6) (hs : isShare s = true) (hc : finS c = true) (hr : rmQ s n.toNat = true) (hg : gt g (c32 1101004800) = false) (hl : lt g (c32 3248488448) = false) :
    runU4 Try.prog [ePotT] [] [eReach] (G := Ext W) [] l4Lp 23 32 35 Try.f7 (scFr3 s g c n) [] = scYes := by
  have h' : n = 1 ∨ n = 2 ∨ n = 3 ∨ n = 4 ∨ n = 5 ∨ n = 6 := by omega
  have hb : ∀ l : List Bool, (l == l) = true := fun l => BEq.rfl
  rcases h' with rfl | rfl | rfl | rfl | rfl | rfl
  · have hr : rmQ s 1 = true := hr
    rw [sc_four1, hs, hc, hr, hg, hl, hb]; rfl
  · have hr : rmQ s 2 = true := hr
    rw [sc_four2, hs, hc, hr, hg, hl, hb]; rfl
  · have hr : rmQ s 3 = true := hr
    rw [sc_four3, hs, hc, hr, hg, hl, hb]; rfl
  · have hr : rmQ s 4 = true := hr
    rw [sc_four4, hs, hc, hr, hg, hl, hb]; rfl
  · have hr : rmQ s 5 = true := hr
    rw [sc_four5, hs, hc, hr, hg, hl, hb]; rfl
  · have hr : rmQ s 6 = true := hr
    rw [sc_four6, hs, hc, hr, hg, hl, hb]; rfl
end Go.Proofs.Ytlpahmefebgdlaa.Fx
/- The law FnSections: its run. No condition. -/
namespace Go.Proofs.Ytlpahmefebgdlaa.Fx
open Go Go.RowKit

theorem scLoop_all (s d : F32) (T : Option AV) : ∀ L : List Sh, (∀ q ∈ L, cpq s q = true ∧ lt (widen (cpd s q)) (widen d) = false) → scLoop s d T L = T
  | [], _ => rfl
  | q :: L, h => by
    obtain ⟨h1, h2⟩ := h q (by simp)
    unfold scLoop
    rw [h1, h2]
    exact scLoop_all s d T L fun r hr => h r (by simp [hr])
theorem ne_has {x : F64} {a : Rat} (h : Has x a) : ne x x = false := by
  obtain ⟨z, z', e, ho, g1, g2⟩ := ord_has h h
  unfold ne
  rw [ho]
  have : z = z' := by
    have h := g1.symm.trans g2
    rcases Int.lt_trichotomy z z' with h1 | h1 | h1
    · have := (wi_lt e).2 h1; grind
    · exact h1
    · have := (wi_lt e).2 h1; grind
  subst this
  rw [show compare z z = .eq from Int.compare_eq_eq.2 rfl]; rfl
theorem sc_two_all (W : World) (o : Option Nat) (m : Value) (s : F32) (n : Nat) (p : Sh) (cr : List AC) (q0 q1 q2 q3 q4 q5 q6 q7 q8 q9 q10 q11 q12 : Sh) (T : List AV → List (List AC) → Option AV) (z : Nat) (hz : z < 13) (h1 : isShare s = true) (h2 : clQ s scH p = true) (h3 : (cpOut s scH p).1 = z)
    (h4 : ∀ q ∈ [q0, q1, q2, q3, q4, q5, q6, q7, q8, q9, q10, q11, q12], cpq s q = true ∧ lt (widen (cpd s q)) (widen (cpOut s scH p).2) = false) (h5 : ∀ q, [q0, q1, q2, q3, q4, q5, q6, q7, q8, q9, q10, q11, q12][z]? = some q → ne (widen (cpd s q)) (widen (cpOut s scH p).2) = false) :
    runU2 Try.prog [eMassT, eClosestAt z, eApart] [] [] (G := Ext W) [] (slLp o) 23 32 scMk2 1 Try.f7 T (slFr m s n n 13) [p.cells, cr, encTr [q0, q1, q2, q3, q4, q5, q6, q7, q8, q9, q10, q11, q12]] = T (scFr2 m s) [p.cells] := by
  have h' : z = 0 ∨ z = 1 ∨ z = 2 ∨ z = 3 ∨ z = 4 ∨ z = 5 ∨ z = 6 ∨ z = 7 ∨ z = 8 ∨ z = 9 ∨ z = 10 ∨ z = 11 ∨ z = 12 := by omega
  rcases h' with rfl | rfl | rfl | rfl | rfl | rfl | rfl | rfl | rfl | rfl | rfl | rfl | rfl
  · have h3' : (cpOut s scH p).1 = 0 := h3
    refine (sc_two0 W o m s n p cr q0 q1 q2 q3 q4 q5 q6 q7 q8 q9 q10 q11 q12 T).trans ?_
    rw [h1, h2, decide_eq_true h3', bne_self_eq_false, (h4 q0 (by simp)).1, h5 q0 rfl, scLoop_all _ _ _ _ h4]; rfl
  · have h3' : (cpOut s scH p).1 = 1 := h3
    refine (sc_two1 W o m s n p cr q0 q1 q2 q3 q4 q5 q6 q7 q8 q9 q10 q11 q12 T).trans ?_
    rw [h1, h2, decide_eq_true h3', bne_self_eq_false, (h4 q1 (by simp)).1, h5 q1 rfl, scLoop_all _ _ _ _ h4]; rfl
  · have h3' : (cpOut s scH p).1 = 2 := h3
    refine (sc_two2 W o m s n p cr q0 q1 q2 q3 q4 q5 q6 q7 q8 q9 q10 q11 q12 T).trans ?_
    rw [h1, h2, decide_eq_true h3', bne_self_eq_false, (h4 q2 (by simp)).1, h5 q2 rfl, scLoop_all _ _ _ _ h4]; rfl
  · have h3' : (cpOut s scH p).1 = 3 := h3
    refine (sc_two3 W o m s n p cr q0 q1 q2 q3 q4 q5 q6 q7 q8 q9 q10 q11 q12 T).trans ?_
    rw [h1, h2, decide_eq_true h3', bne_self_eq_false, (h4 q3 (by simp)).1, h5 q3 rfl, scLoop_all _ _ _ _ h4]; rfl
  · have h3' : (cpOut s scH p).1 = 4 := h3
    refine (sc_two4 W o m s n p cr q0 q1 q2 q3 q4 q5 q6 q7 q8 q9 q10 q11 q12 T).trans ?_
    rw [h1, h2, decide_eq_true h3', bne_self_eq_false, (h4 q4 (by simp)).1, h5 q4 rfl, scLoop_all _ _ _ _ h4]; rfl
  · have h3' : (cpOut s scH p).1 = 5 := h3
    refine (sc_two5 W o m s n p cr q0 q1 q2 q3 q4 q5 q6 q7 q8 q9 q10 q11 q12 T).trans ?_
    rw [h1, h2, decide_eq_true h3', bne_self_eq_false, (h4 q5 (by simp)).1, h5 q5 rfl, scLoop_all _ _ _ _ h4]; rfl
  · have h3' : (cpOut s scH p).1 = 6 := h3
    refine (sc_two6 W o m s n p cr q0 q1 q2 q3 q4 q5 q6 q7 q8 q9 q10 q11 q12 T).trans ?_
    rw [h1, h2, decide_eq_true h3', bne_self_eq_false, (h4 q6 (by simp)).1, h5 q6 rfl, scLoop_all _ _ _ _ h4]; rfl
  · have h3' : (cpOut s scH p).1 = 7 := h3
    refine (sc_two7 W o m s n p cr q0 q1 q2 q3 q4 q5 q6 q7 q8 q9 q10 q11 q12 T).trans ?_
    rw [h1, h2, decide_eq_true h3', bne_self_eq_false, (h4 q7 (by simp)).1, h5 q7 rfl, scLoop_all _ _ _ _ h4]; rfl
  · have h3' : (cpOut s scH p).1 = 8 := h3
    refine (sc_two8 W o m s n p cr q0 q1 q2 q3 q4 q5 q6 q7 q8 q9 q10 q11 q12 T).trans ?_
    rw [h1, h2, decide_eq_true h3', bne_self_eq_false, (h4 q8 (by simp)).1, h5 q8 rfl, scLoop_all _ _ _ _ h4]; rfl
  · have h3' : (cpOut s scH p).1 = 9 := h3
    refine (sc_two9 W o m s n p cr q0 q1 q2 q3 q4 q5 q6 q7 q8 q9 q10 q11 q12 T).trans ?_
    rw [h1, h2, decide_eq_true h3', bne_self_eq_false, (h4 q9 (by simp)).1, h5 q9 rfl, scLoop_all _ _ _ _ h4]; rfl
  · have h3' : (cpOut s scH p).1 = 10 := h3
    refine (sc_two10 W o m s n p cr q0 q1 q2 q3 q4 q5 q6 q7 q8 q9 q10 q11 q12 T).trans ?_
    rw [h1, h2, decide_eq_true h3', bne_self_eq_false, (h4 q10 (by simp)).1, h5 q10 rfl, scLoop_all _ _ _ _ h4]; rfl
  · have h3' : (cpOut s scH p).1 = 11 := h3
    refine (sc_two11 W o m s n p cr q0 q1 q2 q3 q4 q5 q6 q7 q8 q9 q10 q11 q12 T).trans ?_
    rw [h1, h2, decide_eq_true h3', bne_self_eq_false, (h4 q11 (by simp)).1, h5 q11 rfl, scLoop_all _ _ _ _ h4]; rfl
  · have h3' : (cpOut s scH p).1 = 12 := h3
    refine (sc_two12 W o m s n p cr q0 q1 q2 q3 q4 q5 q6 q7 q8 q9 q10 q11 q12 T).trans ?_
    rw [h1, h2, decide_eq_true h3', bne_self_eq_false, (h4 q12 (by simp)).1, h5 q12 rfl, scLoop_all _ _ _ _ h4]; rfl
theorem closest_has (s : F32) (p : Sh) (h : ∀ q ∈ cpL s scH p, cpq s q = true ∧ ∃ R, HasS (cpd s q) R) :
    ∃ (z : Nat) (q : Sh), z < 13 ∧ (cpL s scH p)[z]? = some q ∧ (cpOut s scH p).1 = z ∧ (cpOut s scH p).2 = cpd s q ∧ finS (cpOut s scH p).2 = true ∧ (∀ r ∈ cpL s scH p, lt (widen (cpd s r)) (widen (cpOut s scH p).2) = false) := by
  obtain ⟨rest, hL⟩ : ∃ rest, cpL s scH p = p :: rest := ⟨_, rfl⟩
  have hlen : (cpL s scH p).length = 13 := rfl
  unfold cpOut
  rw [hL] at h hlen ⊢
  have hc : cpC s (-1) (c32 0) p = true := rfl
  rw [cpZ_yes s 0 (-1) (c32 0) p rest hc]
  obtain ⟨Rp, hp⟩ := (h p (by simp)).2
  obtain ⟨R', g1, g2, g3, g4⟩ := cpZ_spec s rest (0 + 1) 0 (cpd s p) Rp (by decide) (by decide) hp fun q hq => (h q (by simp [hq])).2
  have least : ∀ r ∈ p :: rest, lt (widen (cpd s r)) (widen (cpZ s (0 + 1) 0 (cpd s p) rest).2) = false := by
    intro r hr
    obtain ⟨R, hR⟩ := (h r hr).2
    rw [lt_has (widen_has hR) (widen_has g1)]
    refine decide_eq_false ?_
    rcases List.mem_cons.1 hr with rfl | hr
    · rw [hasS_inj hR hp]; grind
    · have := g3 r hr R hR; grind
  rcases g4 with ⟨g4, g5⟩ | ⟨k, q, g4, g5, g6⟩
  · exact ⟨0, p, by decide, rfl, g4, g5, hasS_fin g1, least⟩
  · refine ⟨k + 1, q, ?_, by simpa using g4, by rw [g5]; omega, g6, hasS_fin g1, least⟩
    have := (List.getElem?_eq_some_iff.1 g4).1
    simp only [List.length_cons] at hlen
    omega
theorem wrap_cells (v : Int) (h0 : 0 ≤ v) (h1 : v < 6) : 1 ≤ IntKind.i64.wrap (1 + v) ∧ IntKind.i64.wrap (1 + v) ≤ 6 := by
  have h' : v = 0 ∨ v = 1 ∨ v = 2 ∨ v = 3 ∨ v = 4 ∨ v = 5 := by omega
  rcases h' with rfl | rfl | rfl | rfl | rfl | rfl <;> decide
theorem const_fin (v : Int) (h0 : 0 ≤ v) (h1 : v < 17) : finS (scConst v) = true := by
  have h' : v = 0 ∨ v = 1 ∨ v = 2 ∨ v = 3 ∨ v = 4 ∨ v = 5 ∨ v = 6 ∨ v = 7 ∨ v = 8 ∨ v = 9 ∨ v = 10 ∨ v = 11 ∨ v = 12 ∨ v = 13 ∨ v = 14 ∨ v = 15 ∨ v = 16 := by omega
  rcases h' with rfl | rfl | rfl | rfl | rfl | rfl | rfl | rfl | rfl | rfl | rfl | rfl | rfl | rfl | rfl | rfl | rfl <;> decide +kernel
theorem sc_r4 {W : World} {m : Value} {l' : List Int} (_ : BytesAt W m l') (a : Int) (p : Sh) (a0 : 0 ≤ a) (a1 : a < 16) (ok : ScOk (scShare a) p) :
    runU4 Try.prog [ePotT] [] [eReach] (G := Ext W) [] l4Lp 23 32 35 Try.f7 (scFr3 (scShare a) (paW (scShare a) scH p) (scConst (r8v (bytesOf W m) 2 17)) (IntKind.i64.wrap (1 + r8v (bytesOf W m) 3 6))) [] = scYes := by
  obtain ⟨c1, c2⟩ := wrap_cells (r8v (bytesOf W m) 3 6) (r8v_range _ _ (by decide)).1 (r8v_range _ _ (by decide)).2
  have hf := const_fin (r8v (bytesOf W m) 2 17) (r8v_range _ _ (by decide)).1 (r8v_range _ _ (by decide)).2
  have hr := rm_all a a0 a1 (IntKind.i64.wrap (1 + r8v (bytesOf W m) 3 6)).toNat (by omega) (by omega)
  exact sc_four W (scShare a) (paW (scShare a) scH p) (scConst (r8v (bytesOf W m) 2 17)) (IntKind.i64.wrap (1 + r8v (bytesOf W m) 3 6)) c1 c2 ok.is hf hr ok.hi ok.lo
theorem sc_r3 {W : World} {m : Value} {l' : List Int} (hm : BytesAt W m l') (o : Option Nat) (a : Int) (p : Sh) (a0 : 0 ≤ a) (a1 : a < 16) (ok : ScOk (scShare a) p) :
    runU3 Try.prog [ePart] [] [] [wR8At W] (slLp o) 23 32 35 scMk3 0 Try.f7 (runU4 Try.prog [ePotT] [] [eReach] (G := Ext W) [] l4Lp 23 32 35 Try.f7) (scFr2 m (scShare a)) [p.cells] = scYes := by
  refine (sc_three W o m (scShare a) p _).trans ?_
  rw [ok.pt, good_of hm, sc_r4 hm a p a0 a1 ok]; rfl
theorem sc_rest {W : World} {m : Value} {l' : List Int} (hm : BytesAt W m l') (o : Option Nat) (a : Int) (p : Sh) (n : Nat) (cr : List AC) (a0 : 0 ≤ a) (a1 : a < 16) (ok : ScOk (scShare a) p) :
    ∃ z : Nat, runU2 Try.prog [eMassT, eClosestAt z, eApart] [] [] (G := Ext W) [] (slLp o) 23 32 scMk2 1 Try.f7 (runU3 Try.prog [ePart] [] [] [wR8At W] (slLp o) 23 32 35 scMk3 0 Try.f7 (runU4 Try.prog [ePotT] [] [eReach] (G := Ext W) [] l4Lp 23 32 35 Try.f7)) (slFr m (scShare a) n n 13) [p.cells, cr, encTr (slL (scShare a) p)] = scYes := by
  obtain ⟨z, q, hz, hq, g1, g2, g3, g4⟩ := closest_has _ p ok.cp
  refine ⟨z, ?_⟩
  have cl : clQ (scShare a) scH p = true := by
    unfold clQ
    rw [ok.fl, g3, cpAll_of _ _ fun q hq => (ok.cp q hq).1]; rfl
  have hmap : slL (scShare a) p = (cpL (scShare a) scH p).map plc := rfl
  obtain ⟨R, hR⟩ := (ok.cp q (List.mem_of_getElem? hq)).2
  have hl : slL (scShare a) p = [plc (flS (scShare a) scH 0 p), plc (flS (scShare a) scH 1 p), plc (flS (scShare a) scH 2 p), plc (flS (scShare a) scH 3 p), plc (flS (scShare a) scH 4 p), plc (flS (scShare a) scH 5 p), plc (flS (scShare a) scH 6 p), plc (flS (scShare a) scH 7 p), plc (flS (scShare a) scH 8 p), plc (flS (scShare a) scH 9 p), plc (flS (scShare a) scH 10 p), plc (flS (scShare a) scH 11 p), plc (flS (scShare a) scH 12 p)] := rfl
  rw [hl]
  refine (sc_two_all W o m (scShare a) n p cr (plc (flS (scShare a) scH 0 p)) (plc (flS (scShare a) scH 1 p)) (plc (flS (scShare a) scH 2 p)) (plc (flS (scShare a) scH 3 p)) (plc (flS (scShare a) scH 4 p)) (plc (flS (scShare a) scH 5 p)) (plc (flS (scShare a) scH 6 p)) (plc (flS (scShare a) scH 7 p)) (plc (flS (scShare a) scH 8 p)) (plc (flS (scShare a) scH 9 p)) (plc (flS (scShare a) scH 10 p)) (plc (flS (scShare a) scH 11 p)) (plc (flS (scShare a) scH 12 p)) _ z hz ok.is cl g1 ?_ ?_).trans ?_
  · intro r hr
    rw [← hl, hmap, List.mem_map] at hr
    obtain ⟨r0, hr0, rfl⟩ := hr
    exact ⟨(ok.cp r0 hr0).1, g4 r0 hr0⟩
  · intro r hr
    rw [← hl, hmap, List.getElem?_map, hq] at hr
    cases hr
    rw [g2]
    exact ne_has (widen_has hR)
  · exact sc_r3 hm o a p a0 a1 ok
theorem sc_rest0 {W : World} {m : Value} {l' : List Int} (hm : BytesAt W m l') (a : Int) (p : Sh) (cr : List AC) (a0 : 0 ≤ a) (a1 : a < 16) (ok : ScOk (scShare a) p) :
    ∃ z : Nat, runU2 Try.prog [eMassT, eClosestAt z, eApart] [] [] (G := Ext W) [] (slLp none) 23 32 scMk2 1 Try.f7 (runU3 Try.prog [ePart] [] [] [wR8At W] (slLp none) 23 32 35 scMk3 0 Try.f7 (runU4 Try.prog [ePotT] [] [eReach] (G := Ext W) [] l4Lp 23 32 35 Try.f7)) (slFr m (scShare a) 0 0 13) [p.cells, cr, encTr (slL (scShare a) p)] = scYes := sc_rest hm none a p 0 cr a0 a1 ok
theorem sc_rest1 {W : World} {m : Value} {l' : List Int} (hm : BytesAt W m l') (j : Nat) (a : Int) (p : Sh) (cr : List AC) (a0 : 0 ≤ a) (a1 : a < 16) (ok : ScOk (scShare a) p) :
    ∃ z : Nat, runU2 Try.prog [eMassT, eClosestAt z, eApart] [] [] (G := Ext W) [] (slLp (some j)) 23 32 scMk2 1 Try.f7 (runU3 Try.prog [ePart] [] [] [wR8At W] (slLp (some j)) 23 32 35 scMk3 0 Try.f7 (runU4 Try.prog [ePotT] [] [eReach] (G := Ext W) [] l4Lp 23 32 35 Try.f7)) (slFr m (scShare a) 1 1 13) [p.cells, cr, encTr (slL (scShare a) p)] = scYes := sc_rest hm (some j) a p 1 cr a0 a1 ok
theorem sc_h2 {s : F32} {p : Sh} (h : crNo (cpL s scH p) = true) : crQ none (cpL s scH p) = true ∧ crNo (slL s p) = true := by
  have pn : slL s p = (cpL s scH p).map plc := rfl
  refine ⟨h, ?_⟩
  rw [pn, crNo_plc]; exact h
theorem sc_h3 {s : F32} {p : Sh} {j : Nat} (h : slOnly (cxX (crPair j (cpL s scH p))) j (cpL s scH p) = true) : slOnly (cxX (crPair j (cpL s scH p))) j (slL s p) = true := by
  have pn : slL s p = (cpL s scH p).map plc := rfl
  rw [pn, slOnly_plc]; exact h
theorem sc_none {W : World} {c m : Value} {l l' : List Int} (hc : BytesAt W c l) (hm : BytesAt W m l') (ok : ScOk (scShare (r8v (bytesOf W m) 0 16)) (scShip (r8v (bytesOf W m) 1 8) (dr3 (bytesOf W c)))) (h : crNo (cpL (scShare (r8v (bytesOf W m) 0 16)) scH (scShip (r8v (bytesOf W m) 1 8) (dr3 (bytesOf W c)))) = true) :
    ∃ z : Nat, runU1 Try.prog [] [] [eCross none, eTrace] [wR8Long W, wR8At W, wShip W] (slLp none) 23 slMk 3 Try.f7 [.c (.val c), .c (.val m)] (runU2 Try.prog [eMassT, eClosestAt z, eApart] [] [] (G := Ext W) [] (slLp none) 23 32 scMk2 1 Try.f7 (runU3 Try.prog [ePart] [] [] [wR8At W] (slLp none) 23 32 35 scMk3 0 Try.f7 (runU4 Try.prog [ePotT] [] [eReach] (G := Ext W) [] l4Lp 23 32 35 Try.f7))) = scYes := by
  have a0 := (r8v_range (bytesOf W m) 0 (n := 16) (by decide)).1
  have a1 := (r8v_range (bytesOf W m) 0 (n := 16) (by decide)).2
  obtain ⟨h2, h3⟩ := sc_h2 h
  obtain ⟨z, hz⟩ := sc_rest0 hm (r8v (bytesOf W m) 0 16) (scShip (r8v (bytesOf W m) 1 8) (dr3 (bytesOf W c))) [] a0 a1 ok
  refine ⟨z, ?_⟩
  refine (sc_one0 W c m _).trans ?_
  rw [good_of hc, good_of hm, ok.fl, h2, h3, hz]
  cases longV 48 (bytesOf W c) (bytesOf W m) <;> rfl
theorem sc_some {W : World} {c m : Value} {l l' : List Int} (hc : BytesAt W c l) (hm : BytesAt W m l') (j : Nat) (ok : ScOk (scShare (r8v (bytesOf W m) 0 16)) (scShip (r8v (bytesOf W m) 1 8) (dr3 (bytesOf W c)))) (h : crOnly j (cpL (scShare (r8v (bytesOf W m) 0 16)) scH (scShip (r8v (bytesOf W m) 1 8) (dr3 (bytesOf W c)))) = true) (hs : slOnly (cxX (crPair j (cpL (scShare (r8v (bytesOf W m) 0 16)) scH (scShip (r8v (bytesOf W m) 1 8) (dr3 (bytesOf W c)))))) j (cpL (scShare (r8v (bytesOf W m) 0 16)) scH (scShip (r8v (bytesOf W m) 1 8) (dr3 (bytesOf W c)))) = true) :
    ∃ z : Nat, runU1 Try.prog [] [] [eCrossJ j, eTrace] [wR8Long W, wR8At W, wShip W] (slLp (some j)) 23 slMk 3 Try.f7 [.c (.val c), .c (.val m)] (runU2 Try.prog [eMassT, eClosestAt z, eApart] [] [] (G := Ext W) [] (slLp (some j)) 23 32 scMk2 1 Try.f7 (runU3 Try.prog [ePart] [] [] [wR8At W] (slLp (some j)) 23 32 35 scMk3 0 Try.f7 (runU4 Try.prog [ePotT] [] [eReach] (G := Ext W) [] l4Lp 23 32 35 Try.f7))) = scYes := by
  have a0 := (r8v_range (bytesOf W m) 0 (n := 16) (by decide)).1
  have a1 := (r8v_range (bytesOf W m) 0 (n := 16) (by decide)).2
  have h3 := sc_h3 hs
  obtain ⟨z, hz⟩ := sc_rest1 hm j (r8v (bytesOf W m) 0 16) (scShip (r8v (bytesOf W m) 1 8) (dr3 (bytesOf W c))) [crCell j (cpL (scShare (r8v (bytesOf W m) 0 16)) scH (scShip (r8v (bytesOf W m) 1 8) (dr3 (bytesOf W c))))] a0 a1 ok
  refine ⟨z, ?_⟩
  refine (sc_one1 W c m j _).trans ?_
  rw [good_of hc, good_of hm, ok.fl, h, h3, hz]
  cases longV 48 (bytesOf W c) (bytesOf W m) <;> rfl
theorem sections_run {W : World} {c m : Value} {l l' : List Int} (hc : BytesAt W c l) (hm : BytesAt W m l') :
    (∃ z : Nat, runU1 Try.prog [] [] [eCross none, eTrace] [wR8Long W, wR8At W, wShip W] (slLp none) 23 slMk 3 Try.f7 [.c (.val c), .c (.val m)] (runU2 Try.prog [eMassT, eClosestAt z, eApart] [] [] (G := Ext W) [] (slLp none) 23 32 scMk2 1 Try.f7 (runU3 Try.prog [ePart] [] [] [wR8At W] (slLp none) 23 32 35 scMk3 0 Try.f7 (runU4 Try.prog [ePotT] [] [eReach] (G := Ext W) [] l4Lp 23 32 35 Try.f7))) = scYes) ∨
    (∃ j z : Nat, runU1 Try.prog [] [] [eCrossJ j, eTrace] [wR8Long W, wR8At W, wShip W] (slLp (some j)) 23 slMk 3 Try.f7 [.c (.val c), .c (.val m)] (runU2 Try.prog [eMassT, eClosestAt z, eApart] [] [] (G := Ext W) [] (slLp (some j)) 23 32 scMk2 1 Try.f7 (runU3 Try.prog [ePart] [] [] [wR8At W] (slLp (some j)) 23 32 35 scMk3 0 Try.f7 (runU4 Try.prog [ePotT] [] [eReach] (G := Ext W) [] l4Lp 23 32 35 Try.f7))) = scYes) := by
  have ok := sc_ok (r8v (bytesOf W m) 0 16) (r8v (bytesOf W m) 1 8) (dr3 (bytesOf W c)) (r8v_range _ _ (by decide)).1 (r8v_range _ _ (by decide)).2 (r8v_range _ _ (by decide)).1 (r8v_range _ _ (by decide)).2 (dr3_range _).1 (dr3_range _).2
  rcases chain_cross _ ok.ch with h | ⟨j, h, hs⟩
  · exact .inl (sc_none hc hm ok h)
  · exact .inr ⟨j, sc_some hc hm j ok h hs⟩
end Go.Proofs.Ytlpahmefebgdlaa.Fx
/- Two slices of bytes as a law's arguments: opened and shut. No condition. -/
namespace Go.Proofs.Ytlpahmefebgdlaa
open Go.ChangeShapes Go.WideShapes Go.ChangeAt Go.RowKit Fx

theorem laidB : laidOutB Try.prog = true := by kernel_rfl
theorem cells5 : Try.prog.cellsOf 5 = 1 := by kernel_rfl
section
variable {H : Type} {enc : TypeId × Value → H}
set_option maxRecDepth 100000 in
theorem open_bytes {W : World} {base : Nat} {v : Value} {d : DataW H} {p : List MemPlace} (hval : Value.okWide Try.prog W .any base 22 v) (h : DataW.Trod enc Try.prog W 0 (fun _ => true) true 22 v d p) :
    (∃ l, BytesAt W v l) ∧ ∀ x ∈ p, ∃ xb xo, x = .cell xb xo ∧ xb < W.heap.size := by
  obtain ⟨a1, len, cap, rfl⟩ := okWide_slice Try.underlying22 hval
  obtain ⟨fuel, hf⟩ := h
  rcases open_ints Try.underlying22 Try.underlying5 cells5 hf with ⟨hcs, hx⟩ | ⟨a, len', cap', zs, hcs, _, hl, hm, hz, hx, hcell, hwz⟩
  · simp [Value.cells] at hcs
    obtain ⟨rfl, rfl, rfl⟩ := hcs
    simp only [Prod.mk.injEq] at hx
    obtain ⟨rfl, rfl⟩ := hx
    exact ⟨⟨[], .inl ⟨_, _, rfl, rfl⟩⟩, fun _ h => (by cases h)⟩
  · simp [Value.cells] at hcs
    obtain ⟨rfl, rfl, rfl⟩ := hcs
    simp only [Prod.mk.injEq] at hx
    obtain ⟨rfl, rfl⟩ := hx
    simp only [if_true] at hz
    obtain ⟨ab, ao, spot⟩ := a
    have hspot : 0 < zs.length → spot = none := fun h0 => by simpa [Addr.add] using World.cell?_spot (hcell 0 h0)
    refine ⟨?_, fun x hx => ?_⟩
    · by_cases hlen : len = 0
      · subst hlen
        exact ⟨[], .inl ⟨_, _, rfl, rfl⟩⟩
      · have hsp := hspot (by omega)
        subst hsp
        have htl : (zs.take len).length = len := by simp; omega
        have hml : maxLen = 9223372036854775807 := by decide
        refine ⟨zs.take len, .inr ⟨ab, ao, cap, by rw [htl], by rw [htl]; omega, fun j hj => ?_⟩⟩
        rw [htl] at hj
        have hcj := hcell j (by omega)
        rw [Addr.add_lit] at hcj
        have e : (zs.take len).getD j 0 = zs.getD j 0 := by simp [List.getD, hj]
        rw [e]
        have hb := range_u8 hwz j
        rw [← List.getD_eq_getElem?_getD] at hb
        exact ⟨hcj, hb.1, by omega⟩
    · simp only [MemPlace.row, List.mem_map, List.mem_range] at hx
      obtain ⟨i, hi, rfl⟩ := hx
      exact ⟨_, _, rfl, by
        have := World.block_lt_of_cell? W _ (hcell i (by omega))
        rwa [block_add] at this⟩

set_option maxRecDepth 100000 in
theorem shut_bytes {W W' : World} {v : Value} {d : DataW H} {p : List MemPlace} (h : DataW.Trod enc Try.prog W 0 (fun _ => true) true 22 v d p) (hp : ∀ x ∈ p, ∃ xb xo, x = .cell xb xo ∧ xb < W.heap.size) (hw : Ext W W') :
    DataW.Trod enc Try.prog W' 0 (fun x => decide (x < W.heap.size)) true 22 v d p :=
  WideElems.Trod_stays (P := Try.prog) laidB (by kernel_rfl) (of_decide_eq_true (by kernel_rfl)) h
    (fun x hx => by
      obtain ⟨xb, xo, rfl, hlt⟩ := hp x hx
      show W'.cell? ⟨xb, xo, none⟩ = W.cell? ⟨xb, xo, none⟩
      unfold World.cell?
      rw [hw.block xb hlt])
    (fun x hx => by obtain ⟨xb, xo, rfl, hlt⟩ := hp x hx; exact decide_eq_true hlt)
end
end Go.Proofs.Ytlpahmefebgdlaa
