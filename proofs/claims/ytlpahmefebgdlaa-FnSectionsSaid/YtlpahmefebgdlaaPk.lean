/- Texts put together: Te, Ci, Cr, Tf. No condition. -/
import Derived.Test.YtlpahmefebgdlaaPj
import Derived.Test.YtlpahmefebgdlaaPb
import Derived.Test.YtlpahmefebgdlaaPd
import Derived.Test.YtlpahmefebgdlaaPi
/- Contracts: ClosestPass, CrossingsOf over 12 steps, with one crossing at most. No condition. -/
namespace Go.Proofs.Ytlpahmefebgdlaa.Fx
open Go Go.RowKit

-- ClosestPass
def clQ (s h : F32) (p : Sh) : Bool := flQ s h p 12 && (cpAll s (cpL s h p) && finS (cpOut s h p).2)
def eClosest : Entry Try.prog := { f := 47, fn := shRun fun s h p k => (decide (k = 12) && clQ s h p, .tup [.val (.int .i64 (cpOut s h p).1), .fl .f32 (cpOut s h p).2, .sb true]), ok := okMG (N := [eFlight]) (E := [eLess, eLong, eIsFinite]) Try.func47 (by kernel_rfl) cp_far cp_loops (by
  intro args M q h
  unfold shRun at h
  split at h
  · rename_i s x y u v t k
    simp only [Option.some.injEq, Prod.mk.injEq, Bool.and_eq_true, decide_eq_true_eq] at h
    obtain ⟨⟨rfl, h2⟩, rfl⟩ := h
    unfold clQ at h2
    simp only [Bool.and_eq_true] at h2
    obtain ⟨h2, h3, h4⟩ := h2
    refine ⟨rfl, ?_⟩
    have := closest_raw s t ⟨x, y, u, v⟩
    rw [h2, h3, fin_isFinite, h4] at this
    exact this
  · cases h) }

-- blocks that are forgotten
def belowC (m : Nat) : AC → Bool
  | .ptr id _ => decide (id < m)
  | .slc id _ => decide (id < m)
  | .sub id _ _ => decide (id < m)
  | .slw id _ => decide (id < m)
  | .clo _ i j => decide (i < m ∧ j < m)
  | _ => true
def belowA (m : Nat) : AV → Bool
  | .c x => belowC m x
  | .agg l | .tup l => l.all (belowC m)
theorem belowC_rep {σ : List (Nat × Nat)} {m : Nat} {x : AC} {v : Value} (hp : belowC m x = true) (h : RepC σ x v) : RepC (σ.take m) x v := by
  have key : ∀ {id : Nat} {b : Nat × Nat}, id < m → σ[id]? = some b → (σ.take m)[id]? = some b := fun hid hb => by rw [List.getElem?_take_of_lt hid]; exact hb
  cases x with
  | ptr id off => obtain ⟨b, hb, e⟩ := h; exact ⟨b, key (of_decide_eq_true hp) hb, e⟩
  | slc id off => obtain ⟨b, hb, e⟩ := h; exact ⟨b, key (of_decide_eq_true hp) hb, e⟩
  | sub id off n => obtain ⟨b, a, c, hb, e⟩ := h; exact ⟨b, a, c, key (of_decide_eq_true hp) hb, e⟩
  | slw id n => obtain ⟨b, c, hb, e⟩ := h; exact ⟨b, c, key (of_decide_eq_true hp) hb, e⟩
  | clo f i j => obtain ⟨b, c, hb, hc, e⟩ := h; exact ⟨b, c, key (of_decide_eq_true hp).1 hb, key (of_decide_eq_true hp).2 hc, e⟩
  | _ => exact h
theorem belowL_rep {σ : List (Nat × Nat)} {m : Nat} {l : List AC} {vs : List Value} (hp : l.all (belowC m) = true) (h : RepL σ l vs) : RepL (σ.take m) l vs := by
  induction h with
  | nil => exact .nil
  | cons h _ ih =>
    simp only [List.all_cons, Bool.and_eq_true] at hp
    exact .cons (belowC_rep hp.1 h) (ih hp.2)
theorem belowA_rep {σ : List (Nat × Nat)} {m : Nat} {x : AV} {v : Value} (hp : belowA m x = true) (h : Rep σ x v) : Rep (σ.take m) x v := by
  cases x with
  | c x => exact belowC_rep (σ := σ) hp h
  | agg l => obtain ⟨vs, e, hl⟩ := h; exact ⟨vs, e, belowL_rep hp hl⟩
  | tup l => obtain ⟨vs, e, hl⟩ := h; exact ⟨vs, e, belowL_rep hp hl⟩
theorem belowF_rep {σ : List (Nat × Nat)} {m : Nat} {F : List AV} {vs : List Value} (hp : F.all (belowA m) = true) (h : RepF σ F vs) : RepF (σ.take m) F vs := by
  induction h with
  | nil => exact .nil
  | cons h _ ih =>
    simp only [List.all_cons, Bool.and_eq_true] at hp
    exact .cons (belowA_rep hp.1 h) (ih hp.2)
theorem St.take {σ : List (Nat × Nat)} {n0 : Nat} {w0 : Base} {F : List AV} {M : List (List AC)} {a : Act} {w : World} (m : Nat) (h : St σ n0 w0 F M a w) (hF : F.all (belowA m) = true) (hM : (M.take m).all (fun l => l.all plainC) = true) (h0 : w0.s0.length ≤ m) : St (σ.take m) n0 w0 F (M.take m) a w := by
  refine ⟨h.defers, belowF_rep hF h.frame, ⟨by rw [List.length_take, List.length_take, h.mem.len], ?_, ?_⟩, h.ext, ?_, ?_⟩
  · rw [List.map_take]; exact h.mem.nodup.sublist (List.take_sublist _ _)
  · intro id b cs hb hcs
    have h1 : id < m := by
      have := (List.getElem?_eq_some_iff.1 hcs).1
      rw [List.length_take] at this
      omega
    have hp : cs.all plainC = true := List.all_eq_true.1 hM _ (List.mem_of_getElem? hcs)
    rw [List.getElem?_take_of_lt h1] at hb hcs
    obtain ⟨vs, e, hw, ⟨k, hr⟩, hs⟩ := h.mem.at_ id b cs hb hcs
    exact ⟨vs, e, hw, ⟨k, plainL_rep (by simp [hp]; right; rfl) hr⟩, hs⟩
  · intro id b hid hb
    have h1 : id < m := by
      have := (List.getElem?_eq_some_iff.1 hb).1
      rw [List.length_take] at this
      omega
    rw [List.getElem?_take_of_lt h1] at hb
    exact h.own id b hid hb
  · exact List.prefix_take_iff.2 ⟨h.pre, h0⟩
/-- A round by the executor: what of its frame and memory is kept. -/
def keepK (m : List Bool) (k : Nat) (o : Out) (F : List AV) (M : List (List AC)) : Option (Out × List AV × List (List AC)) :=
  if (weaken m F).all (belowA k) = true ∧ (M.take k).all (fun l => l.all plainC) = true then some (o, weaken m F, M.take k) else none
theorem goes_of_exK {P : Program} {E : List (Entry P)} {I : List FuncId} {N : List (EntryN P)} (w0 : Base) (hw : w0.s0.length ≤ 0) {n : Nat} {c : Code} {F F' : List AV} {M M' : List (List AC)} {o : Out} {m : List Bool} {k : Nat}
    (h : exK P E I N (G := anyW) [] 0 noRule [] n 0 0 c F M (keepK m k) = some (o, F', M')) : CodeGoes P 0 w0 c F M o F' M' := by
  obtain ⟨o1, F1, M1, hK, hg⟩ := (exK_sound noRule_far anyW_mono n).1 0 0 c F M _ _ (loopsOk_none 0 c) (drawOk_nil 0 c) h
  have hg := hg w0 trivial hw
  unfold keepK at hK
  split at hK
  · rename_i hc
    cases hK
    exact fun σ a w hS Q hQ => hg σ a w hS Q fun σ' a' w' hs => hQ _ a' w' ((hs.weaken m).take k hc.1 hc.2 (by omega))
  · cases hK

-- CrossingsOf
def crT (a b : Sh) : Bool := lt a.y (c32 0) && ge b.y (c32 0)
def crq (a b : Sh) : F32 := a.y / (a.y - b.y)
def crX (a b : Sh) : F32 := a.x + crq a b * (b.x - a.x)
def crU (a b : Sh) : F32 := a.u + crq a b * (b.u - a.u)
def crFin (a b : Sh) : Bool := cfin (crX a b) (crU a b)
def crFr (n : Nat) (i : Int) : List AV := List.replicate 10 (.c .any) ++ [.c (.slc 1 13), .c .any, .c (.slc 2 n)] ++ List.replicate 16 (.c .any) ++ [.c (.val (.int .i64 12)), .c (.val (.int .i64 i))] ++ List.replicate 69 (.c .any)
def crMk : List Bool := List.replicate 10 false ++ [true, false, true] ++ List.replicate 16 false ++ [true, true] ++ List.replicate 69 false
theorem cr_round0_0 (b0a b0b b0c b0d : F32) (p0 p1 p2 p3 p4 p5 p6 p7 p8 p9 p10 p11 p12 : Sh) : exK Try.prog [eCFin] [] [] (G := anyW) [] 0 noRule [] 400 0 0 (loopN 0 Try.f45) (crFr 0 0) [[.cx .f32 b0a b0b, .cx .f32 b0c b0d], encSh [p0, p1, p2, p3, p4, p5, p6, p7, p8, p9, p10, p11, p12], []] (keepK crMk 3) =
    bif lt p0.y (c32 0) then (bif !(ge p1.y (c32 0)) then some (.norm, crFr 0 1, [[.cx .f32 b0a b0b, .cx .f32 b0c b0d], encSh [p0, p1, p2, p3, p4, p5, p6, p7, p8, p9, p10, p11, p12], []]) else bif !(crFin p0 p1) then some (.ret, crFr 0 0, [[.cx .f32 b0a b0b, .cx .f32 b0c b0d], encSh [p0, p1, p2, p3, p4, p5, p6, p7, p8, p9, p10, p11, p12], []]) else some (.norm, crFr 1 1, [[.cx .f32 b0a b0b, .cx .f32 b0c b0d], encSh [p0, p1, p2, p3, p4, p5, p6, p7, p8, p9, p10, p11, p12], [.cx .f32 (crX p0 p1) (crU p0 p1)]]))
      else some (.norm, crFr 0 1, [[.cx .f32 b0a b0b, .cx .f32 b0c b0d], encSh [p0, p1, p2, p3, p4, p5, p6, p7, p8, p9, p10, p11, p12], []]) := by kernel_rfl
theorem cr_round1_0 (b0a b0b b0c b0d : F32) (X U : F32) (p0 p1 p2 p3 p4 p5 p6 p7 p8 p9 p10 p11 p12 : Sh) : exK Try.prog [eCFin] [] [] (G := anyW) [] 0 noRule [] 400 0 0 (loopN 0 Try.f45) (crFr 1 0) [[.cx .f32 b0a b0b, .cx .f32 b0c b0d], encSh [p0, p1, p2, p3, p4, p5, p6, p7, p8, p9, p10, p11, p12], [.cx .f32 X U]] (keepK crMk 3) =
    bif lt p0.y (c32 0) then (bif !(ge p1.y (c32 0)) then some (.norm, crFr 1 1, [[.cx .f32 b0a b0b, .cx .f32 b0c b0d], encSh [p0, p1, p2, p3, p4, p5, p6, p7, p8, p9, p10, p11, p12], [.cx .f32 X U]]) else bif !(crFin p0 p1) then some (.ret, crFr 1 0, [[.cx .f32 b0a b0b, .cx .f32 b0c b0d], encSh [p0, p1, p2, p3, p4, p5, p6, p7, p8, p9, p10, p11, p12], [.cx .f32 X U]]) else some (.norm, crFr 2 1, [[.cx .f32 b0a b0b, .cx .f32 b0c b0d], encSh [p0, p1, p2, p3, p4, p5, p6, p7, p8, p9, p10, p11, p12], [.cx .f32 X U, .cx .f32 (crX p0 p1) (crU p0 p1)]]))
      else some (.norm, crFr 1 1, [[.cx .f32 b0a b0b, .cx .f32 b0c b0d], encSh [p0, p1, p2, p3, p4, p5, p6, p7, p8, p9, p10, p11, p12], [.cx .f32 X U]]) := by kernel_rfl
theorem cr_round0_1 (b0a b0b b0c b0d : F32) (p0 p1 p2 p3 p4 p5 p6 p7 p8 p9 p10 p11 p12 : Sh) : exK Try.prog [eCFin] [] [] (G := anyW) [] 0 noRule [] 400 0 0 (loopN 0 Try.f45) (crFr 0 1) [[.cx .f32 b0a b0b, .cx .f32 b0c b0d], encSh [p0, p1, p2, p3, p4, p5, p6, p7, p8, p9, p10, p11, p12], []] (keepK crMk 3) =
    bif lt p1.y (c32 0) then (bif !(ge p2.y (c32 0)) then some (.norm, crFr 0 2, [[.cx .f32 b0a b0b, .cx .f32 b0c b0d], encSh [p0, p1, p2, p3, p4, p5, p6, p7, p8, p9, p10, p11, p12], []]) else bif !(crFin p1 p2) then some (.ret, crFr 0 1, [[.cx .f32 b0a b0b, .cx .f32 b0c b0d], encSh [p0, p1, p2, p3, p4, p5, p6, p7, p8, p9, p10, p11, p12], []]) else some (.norm, crFr 1 2, [[.cx .f32 b0a b0b, .cx .f32 b0c b0d], encSh [p0, p1, p2, p3, p4, p5, p6, p7, p8, p9, p10, p11, p12], [.cx .f32 (crX p1 p2) (crU p1 p2)]]))
      else some (.norm, crFr 0 2, [[.cx .f32 b0a b0b, .cx .f32 b0c b0d], encSh [p0, p1, p2, p3, p4, p5, p6, p7, p8, p9, p10, p11, p12], []]) := by kernel_rfl
theorem cr_round1_1 (b0a b0b b0c b0d : F32) (X U : F32) (p0 p1 p2 p3 p4 p5 p6 p7 p8 p9 p10 p11 p12 : Sh) : exK Try.prog [eCFin] [] [] (G := anyW) [] 0 noRule [] 400 0 0 (loopN 0 Try.f45) (crFr 1 1) [[.cx .f32 b0a b0b, .cx .f32 b0c b0d], encSh [p0, p1, p2, p3, p4, p5, p6, p7, p8, p9, p10, p11, p12], [.cx .f32 X U]] (keepK crMk 3) =
    bif lt p1.y (c32 0) then (bif !(ge p2.y (c32 0)) then some (.norm, crFr 1 2, [[.cx .f32 b0a b0b, .cx .f32 b0c b0d], encSh [p0, p1, p2, p3, p4, p5, p6, p7, p8, p9, p10, p11, p12], [.cx .f32 X U]]) else bif !(crFin p1 p2) then some (.ret, crFr 1 1, [[.cx .f32 b0a b0b, .cx .f32 b0c b0d], encSh [p0, p1, p2, p3, p4, p5, p6, p7, p8, p9, p10, p11, p12], [.cx .f32 X U]]) else some (.norm, crFr 2 2, [[.cx .f32 b0a b0b, .cx .f32 b0c b0d], encSh [p0, p1, p2, p3, p4, p5, p6, p7, p8, p9, p10, p11, p12], [.cx .f32 X U, .cx .f32 (crX p1 p2) (crU p1 p2)]]))
      else some (.norm, crFr 1 2, [[.cx .f32 b0a b0b, .cx .f32 b0c b0d], encSh [p0, p1, p2, p3, p4, p5, p6, p7, p8, p9, p10, p11, p12], [.cx .f32 X U]]) := by kernel_rfl
theorem cr_round0_2 (b0a b0b b0c b0d : F32) (p0 p1 p2 p3 p4 p5 p6 p7 p8 p9 p10 p11 p12 : Sh) : exK Try.prog [eCFin] [] [] (G := anyW) [] 0 noRule [] 400 0 0 (loopN 0 Try.f45) (crFr 0 2) [[.cx .f32 b0a b0b, .cx .f32 b0c b0d], encSh [p0, p1, p2, p3, p4, p5, p6, p7, p8, p9, p10, p11, p12], []] (keepK crMk 3) =
    bif lt p2.y (c32 0) then (bif !(ge p3.y (c32 0)) then some (.norm, crFr 0 3, [[.cx .f32 b0a b0b, .cx .f32 b0c b0d], encSh [p0, p1, p2, p3, p4, p5, p6, p7, p8, p9, p10, p11, p12], []]) else bif !(crFin p2 p3) then some (.ret, crFr 0 2, [[.cx .f32 b0a b0b, .cx .f32 b0c b0d], encSh [p0, p1, p2, p3, p4, p5, p6, p7, p8, p9, p10, p11, p12], []]) else some (.norm, crFr 1 3, [[.cx .f32 b0a b0b, .cx .f32 b0c b0d], encSh [p0, p1, p2, p3, p4, p5, p6, p7, p8, p9, p10, p11, p12], [.cx .f32 (crX p2 p3) (crU p2 p3)]]))
      else some (.norm, crFr 0 3, [[.cx .f32 b0a b0b, .cx .f32 b0c b0d], encSh [p0, p1, p2, p3, p4, p5, p6, p7, p8, p9, p10, p11, p12], []]) := by kernel_rfl
theorem cr_round1_2 (b0a b0b b0c b0d : F32) (X U : F32) (p0 p1 p2 p3 p4 p5 p6 p7 p8 p9 p10 p11 p12 : Sh) : exK Try.prog [eCFin] [] [] (G := anyW) [] 0 noRule [] 400 0 0 (loopN 0 Try.f45) (crFr 1 2) [[.cx .f32 b0a b0b, .cx .f32 b0c b0d], encSh [p0, p1, p2, p3, p4, p5, p6, p7, p8, p9, p10, p11, p12], [.cx .f32 X U]] (keepK crMk 3) =
    bif lt p2.y (c32 0) then (bif !(ge p3.y (c32 0)) then some (.norm, crFr 1 3, [[.cx .f32 b0a b0b, .cx .f32 b0c b0d], encSh [p0, p1, p2, p3, p4, p5, p6, p7, p8, p9, p10, p11, p12], [.cx .f32 X U]]) else bif !(crFin p2 p3) then some (.ret, crFr 1 2, [[.cx .f32 b0a b0b, .cx .f32 b0c b0d], encSh [p0, p1, p2, p3, p4, p5, p6, p7, p8, p9, p10, p11, p12], [.cx .f32 X U]]) else some (.norm, crFr 2 3, [[.cx .f32 b0a b0b, .cx .f32 b0c b0d], encSh [p0, p1, p2, p3, p4, p5, p6, p7, p8, p9, p10, p11, p12], [.cx .f32 X U, .cx .f32 (crX p2 p3) (crU p2 p3)]]))
      else some (.norm, crFr 1 3, [[.cx .f32 b0a b0b, .cx .f32 b0c b0d], encSh [p0, p1, p2, p3, p4, p5, p6, p7, p8, p9, p10, p11, p12], [.cx .f32 X U]]) := by kernel_rfl
theorem cr_round0_3 (b0a b0b b0c b0d : F32) (p0 p1 p2 p3 p4 p5 p6 p7 p8 p9 p10 p11 p12 : Sh) : exK Try.prog [eCFin] [] [] (G := anyW) [] 0 noRule [] 400 0 0 (loopN 0 Try.f45) (crFr 0 3) [[.cx .f32 b0a b0b, .cx .f32 b0c b0d], encSh [p0, p1, p2, p3, p4, p5, p6, p7, p8, p9, p10, p11, p12], []] (keepK crMk 3) =
    bif lt p3.y (c32 0) then (bif !(ge p4.y (c32 0)) then some (.norm, crFr 0 4, [[.cx .f32 b0a b0b, .cx .f32 b0c b0d], encSh [p0, p1, p2, p3, p4, p5, p6, p7, p8, p9, p10, p11, p12], []]) else bif !(crFin p3 p4) then some (.ret, crFr 0 3, [[.cx .f32 b0a b0b, .cx .f32 b0c b0d], encSh [p0, p1, p2, p3, p4, p5, p6, p7, p8, p9, p10, p11, p12], []]) else some (.norm, crFr 1 4, [[.cx .f32 b0a b0b, .cx .f32 b0c b0d], encSh [p0, p1, p2, p3, p4, p5, p6, p7, p8, p9, p10, p11, p12], [.cx .f32 (crX p3 p4) (crU p3 p4)]]))
      else some (.norm, crFr 0 4, [[.cx .f32 b0a b0b, .cx .f32 b0c b0d], encSh [p0, p1, p2, p3, p4, p5, p6, p7, p8, p9, p10, p11, p12], []]) := by kernel_rfl
theorem cr_round1_3 (b0a b0b b0c b0d : F32) (X U : F32) (p0 p1 p2 p3 p4 p5 p6 p7 p8 p9 p10 p11 p12 : Sh) : exK Try.prog [eCFin] [] [] (G := anyW) [] 0 noRule [] 400 0 0 (loopN 0 Try.f45) (crFr 1 3) [[.cx .f32 b0a b0b, .cx .f32 b0c b0d], encSh [p0, p1, p2, p3, p4, p5, p6, p7, p8, p9, p10, p11, p12], [.cx .f32 X U]] (keepK crMk 3) =
    bif lt p3.y (c32 0) then (bif !(ge p4.y (c32 0)) then some (.norm, crFr 1 4, [[.cx .f32 b0a b0b, .cx .f32 b0c b0d], encSh [p0, p1, p2, p3, p4, p5, p6, p7, p8, p9, p10, p11, p12], [.cx .f32 X U]]) else bif !(crFin p3 p4) then some (.ret, crFr 1 3, [[.cx .f32 b0a b0b, .cx .f32 b0c b0d], encSh [p0, p1, p2, p3, p4, p5, p6, p7, p8, p9, p10, p11, p12], [.cx .f32 X U]]) else some (.norm, crFr 2 4, [[.cx .f32 b0a b0b, .cx .f32 b0c b0d], encSh [p0, p1, p2, p3, p4, p5, p6, p7, p8, p9, p10, p11, p12], [.cx .f32 X U, .cx .f32 (crX p3 p4) (crU p3 p4)]]))
      else some (.norm, crFr 1 4, [[.cx .f32 b0a b0b, .cx .f32 b0c b0d], encSh [p0, p1, p2, p3, p4, p5, p6, p7, p8, p9, p10, p11, p12], [.cx .f32 X U]]) := by kernel_rfl
theorem cr_round0_4 (b0a b0b b0c b0d : F32) (p0 p1 p2 p3 p4 p5 p6 p7 p8 p9 p10 p11 p12 : Sh) : exK Try.prog [eCFin] [] [] (G := anyW) [] 0 noRule [] 400 0 0 (loopN 0 Try.f45) (crFr 0 4) [[.cx .f32 b0a b0b, .cx .f32 b0c b0d], encSh [p0, p1, p2, p3, p4, p5, p6, p7, p8, p9, p10, p11, p12], []] (keepK crMk 3) =
    bif lt p4.y (c32 0) then (bif !(ge p5.y (c32 0)) then some (.norm, crFr 0 5, [[.cx .f32 b0a b0b, .cx .f32 b0c b0d], encSh [p0, p1, p2, p3, p4, p5, p6, p7, p8, p9, p10, p11, p12], []]) else bif !(crFin p4 p5) then some (.ret, crFr 0 4, [[.cx .f32 b0a b0b, .cx .f32 b0c b0d], encSh [p0, p1, p2, p3, p4, p5, p6, p7, p8, p9, p10, p11, p12], []]) else some (.norm, crFr 1 5, [[.cx .f32 b0a b0b, .cx .f32 b0c b0d], encSh [p0, p1, p2, p3, p4, p5, p6, p7, p8, p9, p10, p11, p12], [.cx .f32 (crX p4 p5) (crU p4 p5)]]))
      else some (.norm, crFr 0 5, [[.cx .f32 b0a b0b, .cx .f32 b0c b0d], encSh [p0, p1, p2, p3, p4, p5, p6, p7, p8, p9, p10, p11, p12], []]) := by kernel_rfl
theorem cr_round1_4 (b0a b0b b0c b0d : F32) (X U : F32) (p0 p1 p2 p3 p4 p5 p6 p7 p8 p9 p10 p11 p12 : Sh) : exK Try.prog [eCFin] [] [] (G := anyW) [] 0 noRule [] 400 0 0 (loopN 0 Try.f45) (crFr 1 4) [[.cx .f32 b0a b0b, .cx .f32 b0c b0d], encSh [p0, p1, p2, p3, p4, p5, p6, p7, p8, p9, p10, p11, p12], [.cx .f32 X U]] (keepK crMk 3) =
    bif lt p4.y (c32 0) then (bif !(ge p5.y (c32 0)) then some (.norm, crFr 1 5, [[.cx .f32 b0a b0b, .cx .f32 b0c b0d], encSh [p0, p1, p2, p3, p4, p5, p6, p7, p8, p9, p10, p11, p12], [.cx .f32 X U]]) else bif !(crFin p4 p5) then some (.ret, crFr 1 4, [[.cx .f32 b0a b0b, .cx .f32 b0c b0d], encSh [p0, p1, p2, p3, p4, p5, p6, p7, p8, p9, p10, p11, p12], [.cx .f32 X U]]) else some (.norm, crFr 2 5, [[.cx .f32 b0a b0b, .cx .f32 b0c b0d], encSh [p0, p1, p2, p3, p4, p5, p6, p7, p8, p9, p10, p11, p12], [.cx .f32 X U, .cx .f32 (crX p4 p5) (crU p4 p5)]]))
      else some (.norm, crFr 1 5, [[.cx .f32 b0a b0b, .cx .f32 b0c b0d], encSh [p0, p1, p2, p3, p4, p5, p6, p7, p8, p9, p10, p11, p12], [.cx .f32 X U]]) := by kernel_rfl
theorem cr_round0_5 (b0a b0b b0c b0d : F32) (p0 p1 p2 p3 p4 p5 p6 p7 p8 p9 p10 p11 p12 : Sh) : exK Try.prog [eCFin] [] [] (G := anyW) [] 0 noRule [] 400 0 0 (loopN 0 Try.f45) (crFr 0 5) [[.cx .f32 b0a b0b, .cx .f32 b0c b0d], encSh [p0, p1, p2, p3, p4, p5, p6, p7, p8, p9, p10, p11, p12], []] (keepK crMk 3) =
    bif lt p5.y (c32 0) then (bif !(ge p6.y (c32 0)) then some (.norm, crFr 0 6, [[.cx .f32 b0a b0b, .cx .f32 b0c b0d], encSh [p0, p1, p2, p3, p4, p5, p6, p7, p8, p9, p10, p11, p12], []]) else bif !(crFin p5 p6) then some (.ret, crFr 0 5, [[.cx .f32 b0a b0b, .cx .f32 b0c b0d], encSh [p0, p1, p2, p3, p4, p5, p6, p7, p8, p9, p10, p11, p12], []]) else some (.norm, crFr 1 6, [[.cx .f32 b0a b0b, .cx .f32 b0c b0d], encSh [p0, p1, p2, p3, p4, p5, p6, p7, p8, p9, p10, p11, p12], [.cx .f32 (crX p5 p6) (crU p5 p6)]]))
      else some (.norm, crFr 0 6, [[.cx .f32 b0a b0b, .cx .f32 b0c b0d], encSh [p0, p1, p2, p3, p4, p5, p6, p7, p8, p9, p10, p11, p12], []]) := by kernel_rfl
theorem cr_round1_5 (b0a b0b b0c b0d : F32) (X U : F32) (p0 p1 p2 p3 p4 p5 p6 p7 p8 p9 p10 p11 p12 : Sh) : exK Try.prog [eCFin] [] [] (G := anyW) [] 0 noRule [] 400 0 0 (loopN 0 Try.f45) (crFr 1 5) [[.cx .f32 b0a b0b, .cx .f32 b0c b0d], encSh [p0, p1, p2, p3, p4, p5, p6, p7, p8, p9, p10, p11, p12], [.cx .f32 X U]] (keepK crMk 3) =
    bif lt p5.y (c32 0) then (bif !(ge p6.y (c32 0)) then some (.norm, crFr 1 6, [[.cx .f32 b0a b0b, .cx .f32 b0c b0d], encSh [p0, p1, p2, p3, p4, p5, p6, p7, p8, p9, p10, p11, p12], [.cx .f32 X U]]) else bif !(crFin p5 p6) then some (.ret, crFr 1 5, [[.cx .f32 b0a b0b, .cx .f32 b0c b0d], encSh [p0, p1, p2, p3, p4, p5, p6, p7, p8, p9, p10, p11, p12], [.cx .f32 X U]]) else some (.norm, crFr 2 6, [[.cx .f32 b0a b0b, .cx .f32 b0c b0d], encSh [p0, p1, p2, p3, p4, p5, p6, p7, p8, p9, p10, p11, p12], [.cx .f32 X U, .cx .f32 (crX p5 p6) (crU p5 p6)]]))
      else some (.norm, crFr 1 6, [[.cx .f32 b0a b0b, .cx .f32 b0c b0d], encSh [p0, p1, p2, p3, p4, p5, p6, p7, p8, p9, p10, p11, p12], [.cx .f32 X U]]) := by kernel_rfl
theorem cr_round0_6 (b0a b0b b0c b0d : F32) (p0 p1 p2 p3 p4 p5 p6 p7 p8 p9 p10 p11 p12 : Sh) : exK Try.prog [eCFin] [] [] (G := anyW) [] 0 noRule [] 400 0 0 (loopN 0 Try.f45) (crFr 0 6) [[.cx .f32 b0a b0b, .cx .f32 b0c b0d], encSh [p0, p1, p2, p3, p4, p5, p6, p7, p8, p9, p10, p11, p12], []] (keepK crMk 3) =
    bif lt p6.y (c32 0) then (bif !(ge p7.y (c32 0)) then some (.norm, crFr 0 7, [[.cx .f32 b0a b0b, .cx .f32 b0c b0d], encSh [p0, p1, p2, p3, p4, p5, p6, p7, p8, p9, p10, p11, p12], []]) else bif !(crFin p6 p7) then some (.ret, crFr 0 6, [[.cx .f32 b0a b0b, .cx .f32 b0c b0d], encSh [p0, p1, p2, p3, p4, p5, p6, p7, p8, p9, p10, p11, p12], []]) else some (.norm, crFr 1 7, [[.cx .f32 b0a b0b, .cx .f32 b0c b0d], encSh [p0, p1, p2, p3, p4, p5, p6, p7, p8, p9, p10, p11, p12], [.cx .f32 (crX p6 p7) (crU p6 p7)]]))
      else some (.norm, crFr 0 7, [[.cx .f32 b0a b0b, .cx .f32 b0c b0d], encSh [p0, p1, p2, p3, p4, p5, p6, p7, p8, p9, p10, p11, p12], []]) := by kernel_rfl
theorem cr_round1_6 (b0a b0b b0c b0d : F32) (X U : F32) (p0 p1 p2 p3 p4 p5 p6 p7 p8 p9 p10 p11 p12 : Sh) : exK Try.prog [eCFin] [] [] (G := anyW) [] 0 noRule [] 400 0 0 (loopN 0 Try.f45) (crFr 1 6) [[.cx .f32 b0a b0b, .cx .f32 b0c b0d], encSh [p0, p1, p2, p3, p4, p5, p6, p7, p8, p9, p10, p11, p12], [.cx .f32 X U]] (keepK crMk 3) =
    bif lt p6.y (c32 0) then (bif !(ge p7.y (c32 0)) then some (.norm, crFr 1 7, [[.cx .f32 b0a b0b, .cx .f32 b0c b0d], encSh [p0, p1, p2, p3, p4, p5, p6, p7, p8, p9, p10, p11, p12], [.cx .f32 X U]]) else bif !(crFin p6 p7) then some (.ret, crFr 1 6, [[.cx .f32 b0a b0b, .cx .f32 b0c b0d], encSh [p0, p1, p2, p3, p4, p5, p6, p7, p8, p9, p10, p11, p12], [.cx .f32 X U]]) else some (.norm, crFr 2 7, [[.cx .f32 b0a b0b, .cx .f32 b0c b0d], encSh [p0, p1, p2, p3, p4, p5, p6, p7, p8, p9, p10, p11, p12], [.cx .f32 X U, .cx .f32 (crX p6 p7) (crU p6 p7)]]))
      else some (.norm, crFr 1 7, [[.cx .f32 b0a b0b, .cx .f32 b0c b0d], encSh [p0, p1, p2, p3, p4, p5, p6, p7, p8, p9, p10, p11, p12], [.cx .f32 X U]]) := by kernel_rfl
theorem cr_round0_7 (b0a b0b b0c b0d : F32) (p0 p1 p2 p3 p4 p5 p6 p7 p8 p9 p10 p11 p12 : Sh) : exK Try.prog [eCFin] [] [] (G := anyW) [] 0 noRule [] 400 0 0 (loopN 0 Try.f45) (crFr 0 7) [[.cx .f32 b0a b0b, .cx .f32 b0c b0d], encSh [p0, p1, p2, p3, p4, p5, p6, p7, p8, p9, p10, p11, p12], []] (keepK crMk 3) =
    bif lt p7.y (c32 0) then (bif !(ge p8.y (c32 0)) then some (.norm, crFr 0 8, [[.cx .f32 b0a b0b, .cx .f32 b0c b0d], encSh [p0, p1, p2, p3, p4, p5, p6, p7, p8, p9, p10, p11, p12], []]) else bif !(crFin p7 p8) then some (.ret, crFr 0 7, [[.cx .f32 b0a b0b, .cx .f32 b0c b0d], encSh [p0, p1, p2, p3, p4, p5, p6, p7, p8, p9, p10, p11, p12], []]) else some (.norm, crFr 1 8, [[.cx .f32 b0a b0b, .cx .f32 b0c b0d], encSh [p0, p1, p2, p3, p4, p5, p6, p7, p8, p9, p10, p11, p12], [.cx .f32 (crX p7 p8) (crU p7 p8)]]))
      else some (.norm, crFr 0 8, [[.cx .f32 b0a b0b, .cx .f32 b0c b0d], encSh [p0, p1, p2, p3, p4, p5, p6, p7, p8, p9, p10, p11, p12], []]) := by kernel_rfl
theorem cr_round1_7 (b0a b0b b0c b0d : F32) (X U : F32) (p0 p1 p2 p3 p4 p5 p6 p7 p8 p9 p10 p11 p12 : Sh) : exK Try.prog [eCFin] [] [] (G := anyW) [] 0 noRule [] 400 0 0 (loopN 0 Try.f45) (crFr 1 7) [[.cx .f32 b0a b0b, .cx .f32 b0c b0d], encSh [p0, p1, p2, p3, p4, p5, p6, p7, p8, p9, p10, p11, p12], [.cx .f32 X U]] (keepK crMk 3) =
    bif lt p7.y (c32 0) then (bif !(ge p8.y (c32 0)) then some (.norm, crFr 1 8, [[.cx .f32 b0a b0b, .cx .f32 b0c b0d], encSh [p0, p1, p2, p3, p4, p5, p6, p7, p8, p9, p10, p11, p12], [.cx .f32 X U]]) else bif !(crFin p7 p8) then some (.ret, crFr 1 7, [[.cx .f32 b0a b0b, .cx .f32 b0c b0d], encSh [p0, p1, p2, p3, p4, p5, p6, p7, p8, p9, p10, p11, p12], [.cx .f32 X U]]) else some (.norm, crFr 2 8, [[.cx .f32 b0a b0b, .cx .f32 b0c b0d], encSh [p0, p1, p2, p3, p4, p5, p6, p7, p8, p9, p10, p11, p12], [.cx .f32 X U, .cx .f32 (crX p7 p8) (crU p7 p8)]]))
      else some (.norm, crFr 1 8, [[.cx .f32 b0a b0b, .cx .f32 b0c b0d], encSh [p0, p1, p2, p3, p4, p5, p6, p7, p8, p9, p10, p11, p12], [.cx .f32 X U]]) := by kernel_rfl
theorem cr_round0_8 (b0a b0b b0c b0d : F32) (p0 p1 p2 p3 p4 p5 p6 p7 p8 p9 p10 p11 p12 : Sh) : exK Try.prog [eCFin] [] [] (G := anyW) [] 0 noRule [] 400 0 0 (loopN 0 Try.f45) (crFr 0 8) [[.cx .f32 b0a b0b, .cx .f32 b0c b0d], encSh [p0, p1, p2, p3, p4, p5, p6, p7, p8, p9, p10, p11, p12], []] (keepK crMk 3) =
    bif lt p8.y (c32 0) then (bif !(ge p9.y (c32 0)) then some (.norm, crFr 0 9, [[.cx .f32 b0a b0b, .cx .f32 b0c b0d], encSh [p0, p1, p2, p3, p4, p5, p6, p7, p8, p9, p10, p11, p12], []]) else bif !(crFin p8 p9) then some (.ret, crFr 0 8, [[.cx .f32 b0a b0b, .cx .f32 b0c b0d], encSh [p0, p1, p2, p3, p4, p5, p6, p7, p8, p9, p10, p11, p12], []]) else some (.norm, crFr 1 9, [[.cx .f32 b0a b0b, .cx .f32 b0c b0d], encSh [p0, p1, p2, p3, p4, p5, p6, p7, p8, p9, p10, p11, p12], [.cx .f32 (crX p8 p9) (crU p8 p9)]]))
      else some (.norm, crFr 0 9, [[.cx .f32 b0a b0b, .cx .f32 b0c b0d], encSh [p0, p1, p2, p3, p4, p5, p6, p7, p8, p9, p10, p11, p12], []]) := by kernel_rfl
theorem cr_round1_8 (b0a b0b b0c b0d : F32) (X U : F32) (p0 p1 p2 p3 p4 p5 p6 p7 p8 p9 p10 p11 p12 : Sh) : exK Try.prog [eCFin] [] [] (G := anyW) [] 0 noRule [] 400 0 0 (loopN 0 Try.f45) (crFr 1 8) [[.cx .f32 b0a b0b, .cx .f32 b0c b0d], encSh [p0, p1, p2, p3, p4, p5, p6, p7, p8, p9, p10, p11, p12], [.cx .f32 X U]] (keepK crMk 3) =
    bif lt p8.y (c32 0) then (bif !(ge p9.y (c32 0)) then some (.norm, crFr 1 9, [[.cx .f32 b0a b0b, .cx .f32 b0c b0d], encSh [p0, p1, p2, p3, p4, p5, p6, p7, p8, p9, p10, p11, p12], [.cx .f32 X U]]) else bif !(crFin p8 p9) then some (.ret, crFr 1 8, [[.cx .f32 b0a b0b, .cx .f32 b0c b0d], encSh [p0, p1, p2, p3, p4, p5, p6, p7, p8, p9, p10, p11, p12], [.cx .f32 X U]]) else some (.norm, crFr 2 9, [[.cx .f32 b0a b0b, .cx .f32 b0c b0d], encSh [p0, p1, p2, p3, p4, p5, p6, p7, p8, p9, p10, p11, p12], [.cx .f32 X U, .cx .f32 (crX p8 p9) (crU p8 p9)]]))
      else some (.norm, crFr 1 9, [[.cx .f32 b0a b0b, .cx .f32 b0c b0d], encSh [p0, p1, p2, p3, p4, p5, p6, p7, p8, p9, p10, p11, p12], [.cx .f32 X U]]) := by kernel_rfl
theorem cr_round0_9 (b0a b0b b0c b0d : F32) (p0 p1 p2 p3 p4 p5 p6 p7 p8 p9 p10 p11 p12 : Sh) : exK Try.prog [eCFin] [] [] (G := anyW) [] 0 noRule [] 400 0 0 (loopN 0 Try.f45) (crFr 0 9) [[.cx .f32 b0a b0b, .cx .f32 b0c b0d], encSh [p0, p1, p2, p3, p4, p5, p6, p7, p8, p9, p10, p11, p12], []] (keepK crMk 3) =
    bif lt p9.y (c32 0) then (bif !(ge p10.y (c32 0)) then some (.norm, crFr 0 10, [[.cx .f32 b0a b0b, .cx .f32 b0c b0d], encSh [p0, p1, p2, p3, p4, p5, p6, p7, p8, p9, p10, p11, p12], []]) else bif !(crFin p9 p10) then some (.ret, crFr 0 9, [[.cx .f32 b0a b0b, .cx .f32 b0c b0d], encSh [p0, p1, p2, p3, p4, p5, p6, p7, p8, p9, p10, p11, p12], []]) else some (.norm, crFr 1 10, [[.cx .f32 b0a b0b, .cx .f32 b0c b0d], encSh [p0, p1, p2, p3, p4, p5, p6, p7, p8, p9, p10, p11, p12], [.cx .f32 (crX p9 p10) (crU p9 p10)]]))
      else some (.norm, crFr 0 10, [[.cx .f32 b0a b0b, .cx .f32 b0c b0d], encSh [p0, p1, p2, p3, p4, p5, p6, p7, p8, p9, p10, p11, p12], []]) := by kernel_rfl
theorem cr_round1_9 (b0a b0b b0c b0d : F32) (X U : F32) (p0 p1 p2 p3 p4 p5 p6 p7 p8 p9 p10 p11 p12 : Sh) : exK Try.prog [eCFin] [] [] (G := anyW) [] 0 noRule [] 400 0 0 (loopN 0 Try.f45) (crFr 1 9) [[.cx .f32 b0a b0b, .cx .f32 b0c b0d], encSh [p0, p1, p2, p3, p4, p5, p6, p7, p8, p9, p10, p11, p12], [.cx .f32 X U]] (keepK crMk 3) =
    bif lt p9.y (c32 0) then (bif !(ge p10.y (c32 0)) then some (.norm, crFr 1 10, [[.cx .f32 b0a b0b, .cx .f32 b0c b0d], encSh [p0, p1, p2, p3, p4, p5, p6, p7, p8, p9, p10, p11, p12], [.cx .f32 X U]]) else bif !(crFin p9 p10) then some (.ret, crFr 1 9, [[.cx .f32 b0a b0b, .cx .f32 b0c b0d], encSh [p0, p1, p2, p3, p4, p5, p6, p7, p8, p9, p10, p11, p12], [.cx .f32 X U]]) else some (.norm, crFr 2 10, [[.cx .f32 b0a b0b, .cx .f32 b0c b0d], encSh [p0, p1, p2, p3, p4, p5, p6, p7, p8, p9, p10, p11, p12], [.cx .f32 X U, .cx .f32 (crX p9 p10) (crU p9 p10)]]))
      else some (.norm, crFr 1 10, [[.cx .f32 b0a b0b, .cx .f32 b0c b0d], encSh [p0, p1, p2, p3, p4, p5, p6, p7, p8, p9, p10, p11, p12], [.cx .f32 X U]]) := by kernel_rfl
theorem cr_round0_10 (b0a b0b b0c b0d : F32) (p0 p1 p2 p3 p4 p5 p6 p7 p8 p9 p10 p11 p12 : Sh) : exK Try.prog [eCFin] [] [] (G := anyW) [] 0 noRule [] 400 0 0 (loopN 0 Try.f45) (crFr 0 10) [[.cx .f32 b0a b0b, .cx .f32 b0c b0d], encSh [p0, p1, p2, p3, p4, p5, p6, p7, p8, p9, p10, p11, p12], []] (keepK crMk 3) =
    bif lt p10.y (c32 0) then (bif !(ge p11.y (c32 0)) then some (.norm, crFr 0 11, [[.cx .f32 b0a b0b, .cx .f32 b0c b0d], encSh [p0, p1, p2, p3, p4, p5, p6, p7, p8, p9, p10, p11, p12], []]) else bif !(crFin p10 p11) then some (.ret, crFr 0 10, [[.cx .f32 b0a b0b, .cx .f32 b0c b0d], encSh [p0, p1, p2, p3, p4, p5, p6, p7, p8, p9, p10, p11, p12], []]) else some (.norm, crFr 1 11, [[.cx .f32 b0a b0b, .cx .f32 b0c b0d], encSh [p0, p1, p2, p3, p4, p5, p6, p7, p8, p9, p10, p11, p12], [.cx .f32 (crX p10 p11) (crU p10 p11)]]))
      else some (.norm, crFr 0 11, [[.cx .f32 b0a b0b, .cx .f32 b0c b0d], encSh [p0, p1, p2, p3, p4, p5, p6, p7, p8, p9, p10, p11, p12], []]) := by kernel_rfl
theorem cr_round1_10 (b0a b0b b0c b0d : F32) (X U : F32) (p0 p1 p2 p3 p4 p5 p6 p7 p8 p9 p10 p11 p12 : Sh) : exK Try.prog [eCFin] [] [] (G := anyW) [] 0 noRule [] 400 0 0 (loopN 0 Try.f45) (crFr 1 10) [[.cx .f32 b0a b0b, .cx .f32 b0c b0d], encSh [p0, p1, p2, p3, p4, p5, p6, p7, p8, p9, p10, p11, p12], [.cx .f32 X U]] (keepK crMk 3) =
    bif lt p10.y (c32 0) then (bif !(ge p11.y (c32 0)) then some (.norm, crFr 1 11, [[.cx .f32 b0a b0b, .cx .f32 b0c b0d], encSh [p0, p1, p2, p3, p4, p5, p6, p7, p8, p9, p10, p11, p12], [.cx .f32 X U]]) else bif !(crFin p10 p11) then some (.ret, crFr 1 10, [[.cx .f32 b0a b0b, .cx .f32 b0c b0d], encSh [p0, p1, p2, p3, p4, p5, p6, p7, p8, p9, p10, p11, p12], [.cx .f32 X U]]) else some (.norm, crFr 2 11, [[.cx .f32 b0a b0b, .cx .f32 b0c b0d], encSh [p0, p1, p2, p3, p4, p5, p6, p7, p8, p9, p10, p11, p12], [.cx .f32 X U, .cx .f32 (crX p10 p11) (crU p10 p11)]]))
      else some (.norm, crFr 1 11, [[.cx .f32 b0a b0b, .cx .f32 b0c b0d], encSh [p0, p1, p2, p3, p4, p5, p6, p7, p8, p9, p10, p11, p12], [.cx .f32 X U]]) := by kernel_rfl
theorem cr_round0_11 (b0a b0b b0c b0d : F32) (p0 p1 p2 p3 p4 p5 p6 p7 p8 p9 p10 p11 p12 : Sh) : exK Try.prog [eCFin] [] [] (G := anyW) [] 0 noRule [] 400 0 0 (loopN 0 Try.f45) (crFr 0 11) [[.cx .f32 b0a b0b, .cx .f32 b0c b0d], encSh [p0, p1, p2, p3, p4, p5, p6, p7, p8, p9, p10, p11, p12], []] (keepK crMk 3) =
    bif lt p11.y (c32 0) then (bif !(ge p12.y (c32 0)) then some (.norm, crFr 0 12, [[.cx .f32 b0a b0b, .cx .f32 b0c b0d], encSh [p0, p1, p2, p3, p4, p5, p6, p7, p8, p9, p10, p11, p12], []]) else bif !(crFin p11 p12) then some (.ret, crFr 0 11, [[.cx .f32 b0a b0b, .cx .f32 b0c b0d], encSh [p0, p1, p2, p3, p4, p5, p6, p7, p8, p9, p10, p11, p12], []]) else some (.norm, crFr 1 12, [[.cx .f32 b0a b0b, .cx .f32 b0c b0d], encSh [p0, p1, p2, p3, p4, p5, p6, p7, p8, p9, p10, p11, p12], [.cx .f32 (crX p11 p12) (crU p11 p12)]]))
      else some (.norm, crFr 0 12, [[.cx .f32 b0a b0b, .cx .f32 b0c b0d], encSh [p0, p1, p2, p3, p4, p5, p6, p7, p8, p9, p10, p11, p12], []]) := by kernel_rfl
theorem cr_round1_11 (b0a b0b b0c b0d : F32) (X U : F32) (p0 p1 p2 p3 p4 p5 p6 p7 p8 p9 p10 p11 p12 : Sh) : exK Try.prog [eCFin] [] [] (G := anyW) [] 0 noRule [] 400 0 0 (loopN 0 Try.f45) (crFr 1 11) [[.cx .f32 b0a b0b, .cx .f32 b0c b0d], encSh [p0, p1, p2, p3, p4, p5, p6, p7, p8, p9, p10, p11, p12], [.cx .f32 X U]] (keepK crMk 3) =
    bif lt p11.y (c32 0) then (bif !(ge p12.y (c32 0)) then some (.norm, crFr 1 12, [[.cx .f32 b0a b0b, .cx .f32 b0c b0d], encSh [p0, p1, p2, p3, p4, p5, p6, p7, p8, p9, p10, p11, p12], [.cx .f32 X U]]) else bif !(crFin p11 p12) then some (.ret, crFr 1 11, [[.cx .f32 b0a b0b, .cx .f32 b0c b0d], encSh [p0, p1, p2, p3, p4, p5, p6, p7, p8, p9, p10, p11, p12], [.cx .f32 X U]]) else some (.norm, crFr 2 12, [[.cx .f32 b0a b0b, .cx .f32 b0c b0d], encSh [p0, p1, p2, p3, p4, p5, p6, p7, p8, p9, p10, p11, p12], [.cx .f32 X U, .cx .f32 (crX p11 p12) (crU p11 p12)]]))
      else some (.norm, crFr 1 12, [[.cx .f32 b0a b0b, .cx .f32 b0c b0d], encSh [p0, p1, p2, p3, p4, p5, p6, p7, p8, p9, p10, p11, p12], [.cx .f32 X U]]) := by kernel_rfl
theorem cr_last0 (b0a b0b b0c b0d : F32) (p0 p1 p2 p3 p4 p5 p6 p7 p8 p9 p10 p11 p12 : Sh) : exK Try.prog [eCFin] [] [] (G := anyW) [] 0 noRule [] 400 0 0 (loopN 0 Try.f45) (crFr 0 12) [[.cx .f32 b0a b0b, .cx .f32 b0c b0d], encSh [p0, p1, p2, p3, p4, p5, p6, p7, p8, p9, p10, p11, p12], []] (keepK crMk 3) = some (.exit 0, crFr 0 12, [[.cx .f32 b0a b0b, .cx .f32 b0c b0d], encSh [p0, p1, p2, p3, p4, p5, p6, p7, p8, p9, p10, p11, p12], []]) := by kernel_rfl
theorem cr_last1 (b0a b0b b0c b0d : F32) (X U : F32) (p0 p1 p2 p3 p4 p5 p6 p7 p8 p9 p10 p11 p12 : Sh) : exK Try.prog [eCFin] [] [] (G := anyW) [] 0 noRule [] 400 0 0 (loopN 0 Try.f45) (crFr 1 12) [[.cx .f32 b0a b0b, .cx .f32 b0c b0d], encSh [p0, p1, p2, p3, p4, p5, p6, p7, p8, p9, p10, p11, p12], [.cx .f32 X U]] (keepK crMk 3) = some (.exit 0, crFr 1 12, [[.cx .f32 b0a b0b, .cx .f32 b0c b0d], encSh [p0, p1, p2, p3, p4, p5, p6, p7, p8, p9, p10, p11, p12], [.cx .f32 X U]]) := by kernel_rfl
/-- No pair crosses. -/
def crNo : List Sh → Bool
  | a :: b :: L => !(crT a b) && crNo (b :: L)
  | _ => true
/-- The pair at j crosses, and no other one. -/
def crOnly : Nat → List Sh → Bool
  | 0, a :: b :: L => crT a b && (crFin a b && crNo (b :: L))
  | j + 1, a :: b :: L => !(crT a b) && crOnly j (b :: L)
  | _, _ => false
def crPair : Nat → List Sh → AC
  | 0, a :: b :: _ => .cx .f32 (crX a b) (crU a b)
  | j + 1, _ :: L => crPair j L
  | _, _ => .any
theorem cr_cases {a b : Sh} (h : crT a b = false) : lt a.y (c32 0) = false ∨ (lt a.y (c32 0) = true ∧ ge b.y (c32 0) = false) := by
  unfold crT at h
  cases h1 : lt a.y (c32 0) with
  | false => exact .inl rfl
  | true => rw [h1] at h; exact .inr ⟨rfl, h⟩
theorem cr_no0_12 (w0 : Base) (hw : w0.s0.length ≤ 0) (b0a b0b b0c b0d : F32) (p0 p1 p2 p3 p4 p5 p6 p7 p8 p9 p10 p11 p12 : Sh) (_ : crNo [p12] = true) : InGoes Try.prog 0 w0 (loopN 0 Try.f45) (crFr 0 12) [[.cx .f32 b0a b0b, .cx .f32 b0c b0d], encSh [p0, p1, p2, p3, p4, p5, p6, p7, p8, p9, p10, p11, p12], []] (.exit 0) (crFr 0 12) [[.cx .f32 b0a b0b, .cx .f32 b0c b0d], encSh [p0, p1, p2, p3, p4, p5, p6, p7, p8, p9, p10, p11, p12], []] :=
  goes_last (fun h => by cases h) (goes_of_exK w0 hw (cr_last0 b0a b0b b0c b0d p0 p1 p2 p3 p4 p5 p6 p7 p8 p9 p10 p11 p12))
theorem cr_no0_11 (w0 : Base) (hw : w0.s0.length ≤ 0) (b0a b0b b0c b0d : F32) (p0 p1 p2 p3 p4 p5 p6 p7 p8 p9 p10 p11 p12 : Sh) (h : crNo [p11, p12] = true) : InGoes Try.prog 0 w0 (loopN 0 Try.f45) (crFr 0 11) [[.cx .f32 b0a b0b, .cx .f32 b0c b0d], encSh [p0, p1, p2, p3, p4, p5, p6, p7, p8, p9, p10, p11, p12], []] (.exit 0) (crFr 0 12) [[.cx .f32 b0a b0b, .cx .f32 b0c b0d], encSh [p0, p1, p2, p3, p4, p5, p6, p7, p8, p9, p10, p11, p12], []] := by
  have hr := cr_round0_11 b0a b0b b0c b0d p0 p1 p2 p3 p4 p5 p6 p7 p8 p9 p10 p11 p12
  have h' : (!(crT p11 p12) && crNo [p12]) = true := h
  rw [Bool.and_eq_true, Bool.not_eq_true'] at h'
  have hn := cr_no0_12 w0 hw b0a b0b b0c b0d p0 p1 p2 p3 p4 p5 p6 p7 p8 p9 p10 p11 p12 h'.2
  rcases cr_cases h'.1 with h1 | ⟨h1, h2⟩
  · rw [h1] at hr
    exact goes_round (goes_of_exK w0 hw hr) hn
  · rw [h1, h2] at hr
    exact goes_round (goes_of_exK w0 hw hr) hn
theorem cr_no0_10 (w0 : Base) (hw : w0.s0.length ≤ 0) (b0a b0b b0c b0d : F32) (p0 p1 p2 p3 p4 p5 p6 p7 p8 p9 p10 p11 p12 : Sh) (h : crNo [p10, p11, p12] = true) : InGoes Try.prog 0 w0 (loopN 0 Try.f45) (crFr 0 10) [[.cx .f32 b0a b0b, .cx .f32 b0c b0d], encSh [p0, p1, p2, p3, p4, p5, p6, p7, p8, p9, p10, p11, p12], []] (.exit 0) (crFr 0 12) [[.cx .f32 b0a b0b, .cx .f32 b0c b0d], encSh [p0, p1, p2, p3, p4, p5, p6, p7, p8, p9, p10, p11, p12], []] := by
  have hr := cr_round0_10 b0a b0b b0c b0d p0 p1 p2 p3 p4 p5 p6 p7 p8 p9 p10 p11 p12
  have h' : (!(crT p10 p11) && crNo [p11, p12]) = true := h
  rw [Bool.and_eq_true, Bool.not_eq_true'] at h'
  have hn := cr_no0_11 w0 hw b0a b0b b0c b0d p0 p1 p2 p3 p4 p5 p6 p7 p8 p9 p10 p11 p12 h'.2
  rcases cr_cases h'.1 with h1 | ⟨h1, h2⟩
  · rw [h1] at hr
    exact goes_round (goes_of_exK w0 hw hr) hn
  · rw [h1, h2] at hr
    exact goes_round (goes_of_exK w0 hw hr) hn
theorem cr_no0_9 (w0 : Base) (hw : w0.s0.length ≤ 0) (b0a b0b b0c b0d : F32) (p0 p1 p2 p3 p4 p5 p6 p7 p8 p9 p10 p11 p12 : Sh) (h : crNo [p9, p10, p11, p12] = true) : InGoes Try.prog 0 w0 (loopN 0 Try.f45) (crFr 0 9) [[.cx .f32 b0a b0b, .cx .f32 b0c b0d], encSh [p0, p1, p2, p3, p4, p5, p6, p7, p8, p9, p10, p11, p12], []] (.exit 0) (crFr 0 12) [[.cx .f32 b0a b0b, .cx .f32 b0c b0d], encSh [p0, p1, p2, p3, p4, p5, p6, p7, p8, p9, p10, p11, p12], []] := by
  have hr := cr_round0_9 b0a b0b b0c b0d p0 p1 p2 p3 p4 p5 p6 p7 p8 p9 p10 p11 p12
  have h' : (!(crT p9 p10) && crNo [p10, p11, p12]) = true := h
  rw [Bool.and_eq_true, Bool.not_eq_true'] at h'
  have hn := cr_no0_10 w0 hw b0a b0b b0c b0d p0 p1 p2 p3 p4 p5 p6 p7 p8 p9 p10 p11 p12 h'.2
  rcases cr_cases h'.1 with h1 | ⟨h1, h2⟩
  · rw [h1] at hr
    exact goes_round (goes_of_exK w0 hw hr) hn
  · rw [h1, h2] at hr
    exact goes_round (goes_of_exK w0 hw hr) hn
theorem cr_no0_8 (w0 : Base) (hw : w0.s0.length ≤ 0) (b0a b0b b0c b0d : F32) (p0 p1 p2 p3 p4 p5 p6 p7 p8 p9 p10 p11 p12 : Sh) (h : crNo [p8, p9, p10, p11, p12] = true) : InGoes Try.prog 0 w0 (loopN 0 Try.f45) (crFr 0 8) [[.cx .f32 b0a b0b, .cx .f32 b0c b0d], encSh [p0, p1, p2, p3, p4, p5, p6, p7, p8, p9, p10, p11, p12], []] (.exit 0) (crFr 0 12) [[.cx .f32 b0a b0b, .cx .f32 b0c b0d], encSh [p0, p1, p2, p3, p4, p5, p6, p7, p8, p9, p10, p11, p12], []] := by
  have hr := cr_round0_8 b0a b0b b0c b0d p0 p1 p2 p3 p4 p5 p6 p7 p8 p9 p10 p11 p12
  have h' : (!(crT p8 p9) && crNo [p9, p10, p11, p12]) = true := h
  rw [Bool.and_eq_true, Bool.not_eq_true'] at h'
  have hn := cr_no0_9 w0 hw b0a b0b b0c b0d p0 p1 p2 p3 p4 p5 p6 p7 p8 p9 p10 p11 p12 h'.2
  rcases cr_cases h'.1 with h1 | ⟨h1, h2⟩
  · rw [h1] at hr
    exact goes_round (goes_of_exK w0 hw hr) hn
  · rw [h1, h2] at hr
    exact goes_round (goes_of_exK w0 hw hr) hn
theorem cr_no0_7 (w0 : Base) (hw : w0.s0.length ≤ 0) (b0a b0b b0c b0d : F32) (p0 p1 p2 p3 p4 p5 p6 p7 p8 p9 p10 p11 p12 : Sh) (h : crNo [p7, p8, p9, p10, p11, p12] = true) : InGoes Try.prog 0 w0 (loopN 0 Try.f45) (crFr 0 7) [[.cx .f32 b0a b0b, .cx .f32 b0c b0d], encSh [p0, p1, p2, p3, p4, p5, p6, p7, p8, p9, p10, p11, p12], []] (.exit 0) (crFr 0 12) [[.cx .f32 b0a b0b, .cx .f32 b0c b0d], encSh [p0, p1, p2, p3, p4, p5, p6, p7, p8, p9, p10, p11, p12], []] := by
  have hr := cr_round0_7 b0a b0b b0c b0d p0 p1 p2 p3 p4 p5 p6 p7 p8 p9 p10 p11 p12
  have h' : (!(crT p7 p8) && crNo [p8, p9, p10, p11, p12]) = true := h
  rw [Bool.and_eq_true, Bool.not_eq_true'] at h'
  have hn := cr_no0_8 w0 hw b0a b0b b0c b0d p0 p1 p2 p3 p4 p5 p6 p7 p8 p9 p10 p11 p12 h'.2
  rcases cr_cases h'.1 with h1 | ⟨h1, h2⟩
  · rw [h1] at hr
    exact goes_round (goes_of_exK w0 hw hr) hn
  · rw [h1, h2] at hr
    exact goes_round (goes_of_exK w0 hw hr) hn
theorem cr_no0_6 (w0 : Base) (hw : w0.s0.length ≤ 0) (b0a b0b b0c b0d : F32) (p0 p1 p2 p3 p4 p5 p6 p7 p8 p9 p10 p11 p12 : Sh) (h : crNo [p6, p7, p8, p9, p10, p11, p12] = true) : InGoes Try.prog 0 w0 (loopN 0 Try.f45) (crFr 0 6) [[.cx .f32 b0a b0b, .cx .f32 b0c b0d], encSh [p0, p1, p2, p3, p4, p5, p6, p7, p8, p9, p10, p11, p12], []] (.exit 0) (crFr 0 12) [[.cx .f32 b0a b0b, .cx .f32 b0c b0d], encSh [p0, p1, p2, p3, p4, p5, p6, p7, p8, p9, p10, p11, p12], []] := by
  have hr := cr_round0_6 b0a b0b b0c b0d p0 p1 p2 p3 p4 p5 p6 p7 p8 p9 p10 p11 p12
  have h' : (!(crT p6 p7) && crNo [p7, p8, p9, p10, p11, p12]) = true := h
  rw [Bool.and_eq_true, Bool.not_eq_true'] at h'
  have hn := cr_no0_7 w0 hw b0a b0b b0c b0d p0 p1 p2 p3 p4 p5 p6 p7 p8 p9 p10 p11 p12 h'.2
  rcases cr_cases h'.1 with h1 | ⟨h1, h2⟩
  · rw [h1] at hr
    exact goes_round (goes_of_exK w0 hw hr) hn
  · rw [h1, h2] at hr
    exact goes_round (goes_of_exK w0 hw hr) hn
theorem cr_no0_5 (w0 : Base) (hw : w0.s0.length ≤ 0) (b0a b0b b0c b0d : F32) (p0 p1 p2 p3 p4 p5 p6 p7 p8 p9 p10 p11 p12 : Sh) (h : crNo [p5, p6, p7, p8, p9, p10, p11, p12] = true) : InGoes Try.prog 0 w0 (loopN 0 Try.f45) (crFr 0 5) [[.cx .f32 b0a b0b, .cx .f32 b0c b0d], encSh [p0, p1, p2, p3, p4, p5, p6, p7, p8, p9, p10, p11, p12], []] (.exit 0) (crFr 0 12) [[.cx .f32 b0a b0b, .cx .f32 b0c b0d], encSh [p0, p1, p2, p3, p4, p5, p6, p7, p8, p9, p10, p11, p12], []] := by
  have hr := cr_round0_5 b0a b0b b0c b0d p0 p1 p2 p3 p4 p5 p6 p7 p8 p9 p10 p11 p12
  have h' : (!(crT p5 p6) && crNo [p6, p7, p8, p9, p10, p11, p12]) = true := h
  rw [Bool.and_eq_true, Bool.not_eq_true'] at h'
  have hn := cr_no0_6 w0 hw b0a b0b b0c b0d p0 p1 p2 p3 p4 p5 p6 p7 p8 p9 p10 p11 p12 h'.2
  rcases cr_cases h'.1 with h1 | ⟨h1, h2⟩
  · rw [h1] at hr
    exact goes_round (goes_of_exK w0 hw hr) hn
  · rw [h1, h2] at hr
    exact goes_round (goes_of_exK w0 hw hr) hn
theorem cr_no0_4 (w0 : Base) (hw : w0.s0.length ≤ 0) (b0a b0b b0c b0d : F32) (p0 p1 p2 p3 p4 p5 p6 p7 p8 p9 p10 p11 p12 : Sh) (h : crNo [p4, p5, p6, p7, p8, p9, p10, p11, p12] = true) : InGoes Try.prog 0 w0 (loopN 0 Try.f45) (crFr 0 4) [[.cx .f32 b0a b0b, .cx .f32 b0c b0d], encSh [p0, p1, p2, p3, p4, p5, p6, p7, p8, p9, p10, p11, p12], []] (.exit 0) (crFr 0 12) [[.cx .f32 b0a b0b, .cx .f32 b0c b0d], encSh [p0, p1, p2, p3, p4, p5, p6, p7, p8, p9, p10, p11, p12], []] := by
  have hr := cr_round0_4 b0a b0b b0c b0d p0 p1 p2 p3 p4 p5 p6 p7 p8 p9 p10 p11 p12
  have h' : (!(crT p4 p5) && crNo [p5, p6, p7, p8, p9, p10, p11, p12]) = true := h
  rw [Bool.and_eq_true, Bool.not_eq_true'] at h'
  have hn := cr_no0_5 w0 hw b0a b0b b0c b0d p0 p1 p2 p3 p4 p5 p6 p7 p8 p9 p10 p11 p12 h'.2
  rcases cr_cases h'.1 with h1 | ⟨h1, h2⟩
  · rw [h1] at hr
    exact goes_round (goes_of_exK w0 hw hr) hn
  · rw [h1, h2] at hr
    exact goes_round (goes_of_exK w0 hw hr) hn
theorem cr_no0_3 (w0 : Base) (hw : w0.s0.length ≤ 0) (b0a b0b b0c b0d : F32) (p0 p1 p2 p3 p4 p5 p6 p7 p8 p9 p10 p11 p12 : Sh) (h : crNo [p3, p4, p5, p6, p7, p8, p9, p10, p11, p12] = true) : InGoes Try.prog 0 w0 (loopN 0 Try.f45) (crFr 0 3) [[.cx .f32 b0a b0b, .cx .f32 b0c b0d], encSh [p0, p1, p2, p3, p4, p5, p6, p7, p8, p9, p10, p11, p12], []] (.exit 0) (crFr 0 12) [[.cx .f32 b0a b0b, .cx .f32 b0c b0d], encSh [p0, p1, p2, p3, p4, p5, p6, p7, p8, p9, p10, p11, p12], []] := by
  have hr := cr_round0_3 b0a b0b b0c b0d p0 p1 p2 p3 p4 p5 p6 p7 p8 p9 p10 p11 p12
  have h' : (!(crT p3 p4) && crNo [p4, p5, p6, p7, p8, p9, p10, p11, p12]) = true := h
  rw [Bool.and_eq_true, Bool.not_eq_true'] at h'
  have hn := cr_no0_4 w0 hw b0a b0b b0c b0d p0 p1 p2 p3 p4 p5 p6 p7 p8 p9 p10 p11 p12 h'.2
  rcases cr_cases h'.1 with h1 | ⟨h1, h2⟩
  · rw [h1] at hr
    exact goes_round (goes_of_exK w0 hw hr) hn
  · rw [h1, h2] at hr
    exact goes_round (goes_of_exK w0 hw hr) hn
theorem cr_no0_2 (w0 : Base) (hw : w0.s0.length ≤ 0) (b0a b0b b0c b0d : F32) (p0 p1 p2 p3 p4 p5 p6 p7 p8 p9 p10 p11 p12 : Sh) (h : crNo [p2, p3, p4, p5, p6, p7, p8, p9, p10, p11, p12] = true) : InGoes Try.prog 0 w0 (loopN 0 Try.f45) (crFr 0 2) [[.cx .f32 b0a b0b, .cx .f32 b0c b0d], encSh [p0, p1, p2, p3, p4, p5, p6, p7, p8, p9, p10, p11, p12], []] (.exit 0) (crFr 0 12) [[.cx .f32 b0a b0b, .cx .f32 b0c b0d], encSh [p0, p1, p2, p3, p4, p5, p6, p7, p8, p9, p10, p11, p12], []] := by
  have hr := cr_round0_2 b0a b0b b0c b0d p0 p1 p2 p3 p4 p5 p6 p7 p8 p9 p10 p11 p12
  have h' : (!(crT p2 p3) && crNo [p3, p4, p5, p6, p7, p8, p9, p10, p11, p12]) = true := h
  rw [Bool.and_eq_true, Bool.not_eq_true'] at h'
  have hn := cr_no0_3 w0 hw b0a b0b b0c b0d p0 p1 p2 p3 p4 p5 p6 p7 p8 p9 p10 p11 p12 h'.2
  rcases cr_cases h'.1 with h1 | ⟨h1, h2⟩
  · rw [h1] at hr
    exact goes_round (goes_of_exK w0 hw hr) hn
  · rw [h1, h2] at hr
    exact goes_round (goes_of_exK w0 hw hr) hn
theorem cr_no0_1 (w0 : Base) (hw : w0.s0.length ≤ 0) (b0a b0b b0c b0d : F32) (p0 p1 p2 p3 p4 p5 p6 p7 p8 p9 p10 p11 p12 : Sh) (h : crNo [p1, p2, p3, p4, p5, p6, p7, p8, p9, p10, p11, p12] = true) : InGoes Try.prog 0 w0 (loopN 0 Try.f45) (crFr 0 1) [[.cx .f32 b0a b0b, .cx .f32 b0c b0d], encSh [p0, p1, p2, p3, p4, p5, p6, p7, p8, p9, p10, p11, p12], []] (.exit 0) (crFr 0 12) [[.cx .f32 b0a b0b, .cx .f32 b0c b0d], encSh [p0, p1, p2, p3, p4, p5, p6, p7, p8, p9, p10, p11, p12], []] := by
  have hr := cr_round0_1 b0a b0b b0c b0d p0 p1 p2 p3 p4 p5 p6 p7 p8 p9 p10 p11 p12
  have h' : (!(crT p1 p2) && crNo [p2, p3, p4, p5, p6, p7, p8, p9, p10, p11, p12]) = true := h
  rw [Bool.and_eq_true, Bool.not_eq_true'] at h'
  have hn := cr_no0_2 w0 hw b0a b0b b0c b0d p0 p1 p2 p3 p4 p5 p6 p7 p8 p9 p10 p11 p12 h'.2
  rcases cr_cases h'.1 with h1 | ⟨h1, h2⟩
  · rw [h1] at hr
    exact goes_round (goes_of_exK w0 hw hr) hn
  · rw [h1, h2] at hr
    exact goes_round (goes_of_exK w0 hw hr) hn
theorem cr_no0_0 (w0 : Base) (hw : w0.s0.length ≤ 0) (b0a b0b b0c b0d : F32) (p0 p1 p2 p3 p4 p5 p6 p7 p8 p9 p10 p11 p12 : Sh) (h : crNo [p0, p1, p2, p3, p4, p5, p6, p7, p8, p9, p10, p11, p12] = true) : InGoes Try.prog 0 w0 (loopN 0 Try.f45) (crFr 0 0) [[.cx .f32 b0a b0b, .cx .f32 b0c b0d], encSh [p0, p1, p2, p3, p4, p5, p6, p7, p8, p9, p10, p11, p12], []] (.exit 0) (crFr 0 12) [[.cx .f32 b0a b0b, .cx .f32 b0c b0d], encSh [p0, p1, p2, p3, p4, p5, p6, p7, p8, p9, p10, p11, p12], []] := by
  have hr := cr_round0_0 b0a b0b b0c b0d p0 p1 p2 p3 p4 p5 p6 p7 p8 p9 p10 p11 p12
  have h' : (!(crT p0 p1) && crNo [p1, p2, p3, p4, p5, p6, p7, p8, p9, p10, p11, p12]) = true := h
  rw [Bool.and_eq_true, Bool.not_eq_true'] at h'
  have hn := cr_no0_1 w0 hw b0a b0b b0c b0d p0 p1 p2 p3 p4 p5 p6 p7 p8 p9 p10 p11 p12 h'.2
  rcases cr_cases h'.1 with h1 | ⟨h1, h2⟩
  · rw [h1] at hr
    exact goes_round (goes_of_exK w0 hw hr) hn
  · rw [h1, h2] at hr
    exact goes_round (goes_of_exK w0 hw hr) hn
theorem cr_no1_12 (w0 : Base) (hw : w0.s0.length ≤ 0) (b0a b0b b0c b0d : F32) (X U : F32) (p0 p1 p2 p3 p4 p5 p6 p7 p8 p9 p10 p11 p12 : Sh) (_ : crNo [p12] = true) : InGoes Try.prog 0 w0 (loopN 0 Try.f45) (crFr 1 12) [[.cx .f32 b0a b0b, .cx .f32 b0c b0d], encSh [p0, p1, p2, p3, p4, p5, p6, p7, p8, p9, p10, p11, p12], [.cx .f32 X U]] (.exit 0) (crFr 1 12) [[.cx .f32 b0a b0b, .cx .f32 b0c b0d], encSh [p0, p1, p2, p3, p4, p5, p6, p7, p8, p9, p10, p11, p12], [.cx .f32 X U]] :=
  goes_last (fun h => by cases h) (goes_of_exK w0 hw (cr_last1 b0a b0b b0c b0d X U p0 p1 p2 p3 p4 p5 p6 p7 p8 p9 p10 p11 p12))
theorem cr_no1_11 (w0 : Base) (hw : w0.s0.length ≤ 0) (b0a b0b b0c b0d : F32) (X U : F32) (p0 p1 p2 p3 p4 p5 p6 p7 p8 p9 p10 p11 p12 : Sh) (h : crNo [p11, p12] = true) : InGoes Try.prog 0 w0 (loopN 0 Try.f45) (crFr 1 11) [[.cx .f32 b0a b0b, .cx .f32 b0c b0d], encSh [p0, p1, p2, p3, p4, p5, p6, p7, p8, p9, p10, p11, p12], [.cx .f32 X U]] (.exit 0) (crFr 1 12) [[.cx .f32 b0a b0b, .cx .f32 b0c b0d], encSh [p0, p1, p2, p3, p4, p5, p6, p7, p8, p9, p10, p11, p12], [.cx .f32 X U]] := by
  have hr := cr_round1_11 b0a b0b b0c b0d X U p0 p1 p2 p3 p4 p5 p6 p7 p8 p9 p10 p11 p12
  have h' : (!(crT p11 p12) && crNo [p12]) = true := h
  rw [Bool.and_eq_true, Bool.not_eq_true'] at h'
  have hn := cr_no1_12 w0 hw b0a b0b b0c b0d X U p0 p1 p2 p3 p4 p5 p6 p7 p8 p9 p10 p11 p12 h'.2
  rcases cr_cases h'.1 with h1 | ⟨h1, h2⟩
  · rw [h1] at hr
    exact goes_round (goes_of_exK w0 hw hr) hn
  · rw [h1, h2] at hr
    exact goes_round (goes_of_exK w0 hw hr) hn
theorem cr_no1_10 (w0 : Base) (hw : w0.s0.length ≤ 0) (b0a b0b b0c b0d : F32) (X U : F32) (p0 p1 p2 p3 p4 p5 p6 p7 p8 p9 p10 p11 p12 : Sh) (h : crNo [p10, p11, p12] = true) : InGoes Try.prog 0 w0 (loopN 0 Try.f45) (crFr 1 10) [[.cx .f32 b0a b0b, .cx .f32 b0c b0d], encSh [p0, p1, p2, p3, p4, p5, p6, p7, p8, p9, p10, p11, p12], [.cx .f32 X U]] (.exit 0) (crFr 1 12) [[.cx .f32 b0a b0b, .cx .f32 b0c b0d], encSh [p0, p1, p2, p3, p4, p5, p6, p7, p8, p9, p10, p11, p12], [.cx .f32 X U]] := by
  have hr := cr_round1_10 b0a b0b b0c b0d X U p0 p1 p2 p3 p4 p5 p6 p7 p8 p9 p10 p11 p12
  have h' : (!(crT p10 p11) && crNo [p11, p12]) = true := h
  rw [Bool.and_eq_true, Bool.not_eq_true'] at h'
  have hn := cr_no1_11 w0 hw b0a b0b b0c b0d X U p0 p1 p2 p3 p4 p5 p6 p7 p8 p9 p10 p11 p12 h'.2
  rcases cr_cases h'.1 with h1 | ⟨h1, h2⟩
  · rw [h1] at hr
    exact goes_round (goes_of_exK w0 hw hr) hn
  · rw [h1, h2] at hr
    exact goes_round (goes_of_exK w0 hw hr) hn
theorem cr_no1_9 (w0 : Base) (hw : w0.s0.length ≤ 0) (b0a b0b b0c b0d : F32) (X U : F32) (p0 p1 p2 p3 p4 p5 p6 p7 p8 p9 p10 p11 p12 : Sh) (h : crNo [p9, p10, p11, p12] = true) : InGoes Try.prog 0 w0 (loopN 0 Try.f45) (crFr 1 9) [[.cx .f32 b0a b0b, .cx .f32 b0c b0d], encSh [p0, p1, p2, p3, p4, p5, p6, p7, p8, p9, p10, p11, p12], [.cx .f32 X U]] (.exit 0) (crFr 1 12) [[.cx .f32 b0a b0b, .cx .f32 b0c b0d], encSh [p0, p1, p2, p3, p4, p5, p6, p7, p8, p9, p10, p11, p12], [.cx .f32 X U]] := by
  have hr := cr_round1_9 b0a b0b b0c b0d X U p0 p1 p2 p3 p4 p5 p6 p7 p8 p9 p10 p11 p12
  have h' : (!(crT p9 p10) && crNo [p10, p11, p12]) = true := h
  rw [Bool.and_eq_true, Bool.not_eq_true'] at h'
  have hn := cr_no1_10 w0 hw b0a b0b b0c b0d X U p0 p1 p2 p3 p4 p5 p6 p7 p8 p9 p10 p11 p12 h'.2
  rcases cr_cases h'.1 with h1 | ⟨h1, h2⟩
  · rw [h1] at hr
    exact goes_round (goes_of_exK w0 hw hr) hn
  · rw [h1, h2] at hr
    exact goes_round (goes_of_exK w0 hw hr) hn
theorem cr_no1_8 (w0 : Base) (hw : w0.s0.length ≤ 0) (b0a b0b b0c b0d : F32) (X U : F32) (p0 p1 p2 p3 p4 p5 p6 p7 p8 p9 p10 p11 p12 : Sh) (h : crNo [p8, p9, p10, p11, p12] = true) : InGoes Try.prog 0 w0 (loopN 0 Try.f45) (crFr 1 8) [[.cx .f32 b0a b0b, .cx .f32 b0c b0d], encSh [p0, p1, p2, p3, p4, p5, p6, p7, p8, p9, p10, p11, p12], [.cx .f32 X U]] (.exit 0) (crFr 1 12) [[.cx .f32 b0a b0b, .cx .f32 b0c b0d], encSh [p0, p1, p2, p3, p4, p5, p6, p7, p8, p9, p10, p11, p12], [.cx .f32 X U]] := by
  have hr := cr_round1_8 b0a b0b b0c b0d X U p0 p1 p2 p3 p4 p5 p6 p7 p8 p9 p10 p11 p12
  have h' : (!(crT p8 p9) && crNo [p9, p10, p11, p12]) = true := h
  rw [Bool.and_eq_true, Bool.not_eq_true'] at h'
  have hn := cr_no1_9 w0 hw b0a b0b b0c b0d X U p0 p1 p2 p3 p4 p5 p6 p7 p8 p9 p10 p11 p12 h'.2
  rcases cr_cases h'.1 with h1 | ⟨h1, h2⟩
  · rw [h1] at hr
    exact goes_round (goes_of_exK w0 hw hr) hn
  · rw [h1, h2] at hr
    exact goes_round (goes_of_exK w0 hw hr) hn
theorem cr_no1_7 (w0 : Base) (hw : w0.s0.length ≤ 0) (b0a b0b b0c b0d : F32) (X U : F32) (p0 p1 p2 p3 p4 p5 p6 p7 p8 p9 p10 p11 p12 : Sh) (h : crNo [p7, p8, p9, p10, p11, p12] = true) : InGoes Try.prog 0 w0 (loopN 0 Try.f45) (crFr 1 7) [[.cx .f32 b0a b0b, .cx .f32 b0c b0d], encSh [p0, p1, p2, p3, p4, p5, p6, p7, p8, p9, p10, p11, p12], [.cx .f32 X U]] (.exit 0) (crFr 1 12) [[.cx .f32 b0a b0b, .cx .f32 b0c b0d], encSh [p0, p1, p2, p3, p4, p5, p6, p7, p8, p9, p10, p11, p12], [.cx .f32 X U]] := by
  have hr := cr_round1_7 b0a b0b b0c b0d X U p0 p1 p2 p3 p4 p5 p6 p7 p8 p9 p10 p11 p12
  have h' : (!(crT p7 p8) && crNo [p8, p9, p10, p11, p12]) = true := h
  rw [Bool.and_eq_true, Bool.not_eq_true'] at h'
  have hn := cr_no1_8 w0 hw b0a b0b b0c b0d X U p0 p1 p2 p3 p4 p5 p6 p7 p8 p9 p10 p11 p12 h'.2
  rcases cr_cases h'.1 with h1 | ⟨h1, h2⟩
  · rw [h1] at hr
    exact goes_round (goes_of_exK w0 hw hr) hn
  · rw [h1, h2] at hr
    exact goes_round (goes_of_exK w0 hw hr) hn
theorem cr_no1_6 (w0 : Base) (hw : w0.s0.length ≤ 0) (b0a b0b b0c b0d : F32) (X U : F32) (p0 p1 p2 p3 p4 p5 p6 p7 p8 p9 p10 p11 p12 : Sh) (h : crNo [p6, p7, p8, p9, p10, p11, p12] = true) : InGoes Try.prog 0 w0 (loopN 0 Try.f45) (crFr 1 6) [[.cx .f32 b0a b0b, .cx .f32 b0c b0d], encSh [p0, p1, p2, p3, p4, p5, p6, p7, p8, p9, p10, p11, p12], [.cx .f32 X U]] (.exit 0) (crFr 1 12) [[.cx .f32 b0a b0b, .cx .f32 b0c b0d], encSh [p0, p1, p2, p3, p4, p5, p6, p7, p8, p9, p10, p11, p12], [.cx .f32 X U]] := by
  have hr := cr_round1_6 b0a b0b b0c b0d X U p0 p1 p2 p3 p4 p5 p6 p7 p8 p9 p10 p11 p12
  have h' : (!(crT p6 p7) && crNo [p7, p8, p9, p10, p11, p12]) = true := h
  rw [Bool.and_eq_true, Bool.not_eq_true'] at h'
  have hn := cr_no1_7 w0 hw b0a b0b b0c b0d X U p0 p1 p2 p3 p4 p5 p6 p7 p8 p9 p10 p11 p12 h'.2
  rcases cr_cases h'.1 with h1 | ⟨h1, h2⟩
  · rw [h1] at hr
    exact goes_round (goes_of_exK w0 hw hr) hn
  · rw [h1, h2] at hr
    exact goes_round (goes_of_exK w0 hw hr) hn
theorem cr_no1_5 (w0 : Base) (hw : w0.s0.length ≤ 0) (b0a b0b b0c b0d : F32) (X U : F32) (p0 p1 p2 p3 p4 p5 p6 p7 p8 p9 p10 p11 p12 : Sh) (h : crNo [p5, p6, p7, p8, p9, p10, p11, p12] = true) : InGoes Try.prog 0 w0 (loopN 0 Try.f45) (crFr 1 5) [[.cx .f32 b0a b0b, .cx .f32 b0c b0d], encSh [p0, p1, p2, p3, p4, p5, p6, p7, p8, p9, p10, p11, p12], [.cx .f32 X U]] (.exit 0) (crFr 1 12) [[.cx .f32 b0a b0b, .cx .f32 b0c b0d], encSh [p0, p1, p2, p3, p4, p5, p6, p7, p8, p9, p10, p11, p12], [.cx .f32 X U]] := by
  have hr := cr_round1_5 b0a b0b b0c b0d X U p0 p1 p2 p3 p4 p5 p6 p7 p8 p9 p10 p11 p12
  have h' : (!(crT p5 p6) && crNo [p6, p7, p8, p9, p10, p11, p12]) = true := h
  rw [Bool.and_eq_true, Bool.not_eq_true'] at h'
  have hn := cr_no1_6 w0 hw b0a b0b b0c b0d X U p0 p1 p2 p3 p4 p5 p6 p7 p8 p9 p10 p11 p12 h'.2
  rcases cr_cases h'.1 with h1 | ⟨h1, h2⟩
  · rw [h1] at hr
    exact goes_round (goes_of_exK w0 hw hr) hn
  · rw [h1, h2] at hr
    exact goes_round (goes_of_exK w0 hw hr) hn
theorem cr_no1_4 (w0 : Base) (hw : w0.s0.length ≤ 0) (b0a b0b b0c b0d : F32) (X U : F32) (p0 p1 p2 p3 p4 p5 p6 p7 p8 p9 p10 p11 p12 : Sh) (h : crNo [p4, p5, p6, p7, p8, p9, p10, p11, p12] = true) : InGoes Try.prog 0 w0 (loopN 0 Try.f45) (crFr 1 4) [[.cx .f32 b0a b0b, .cx .f32 b0c b0d], encSh [p0, p1, p2, p3, p4, p5, p6, p7, p8, p9, p10, p11, p12], [.cx .f32 X U]] (.exit 0) (crFr 1 12) [[.cx .f32 b0a b0b, .cx .f32 b0c b0d], encSh [p0, p1, p2, p3, p4, p5, p6, p7, p8, p9, p10, p11, p12], [.cx .f32 X U]] := by
  have hr := cr_round1_4 b0a b0b b0c b0d X U p0 p1 p2 p3 p4 p5 p6 p7 p8 p9 p10 p11 p12
  have h' : (!(crT p4 p5) && crNo [p5, p6, p7, p8, p9, p10, p11, p12]) = true := h
  rw [Bool.and_eq_true, Bool.not_eq_true'] at h'
  have hn := cr_no1_5 w0 hw b0a b0b b0c b0d X U p0 p1 p2 p3 p4 p5 p6 p7 p8 p9 p10 p11 p12 h'.2
  rcases cr_cases h'.1 with h1 | ⟨h1, h2⟩
  · rw [h1] at hr
    exact goes_round (goes_of_exK w0 hw hr) hn
  · rw [h1, h2] at hr
    exact goes_round (goes_of_exK w0 hw hr) hn
theorem cr_no1_3 (w0 : Base) (hw : w0.s0.length ≤ 0) (b0a b0b b0c b0d : F32) (X U : F32) (p0 p1 p2 p3 p4 p5 p6 p7 p8 p9 p10 p11 p12 : Sh) (h : crNo [p3, p4, p5, p6, p7, p8, p9, p10, p11, p12] = true) : InGoes Try.prog 0 w0 (loopN 0 Try.f45) (crFr 1 3) [[.cx .f32 b0a b0b, .cx .f32 b0c b0d], encSh [p0, p1, p2, p3, p4, p5, p6, p7, p8, p9, p10, p11, p12], [.cx .f32 X U]] (.exit 0) (crFr 1 12) [[.cx .f32 b0a b0b, .cx .f32 b0c b0d], encSh [p0, p1, p2, p3, p4, p5, p6, p7, p8, p9, p10, p11, p12], [.cx .f32 X U]] := by
  have hr := cr_round1_3 b0a b0b b0c b0d X U p0 p1 p2 p3 p4 p5 p6 p7 p8 p9 p10 p11 p12
  have h' : (!(crT p3 p4) && crNo [p4, p5, p6, p7, p8, p9, p10, p11, p12]) = true := h
  rw [Bool.and_eq_true, Bool.not_eq_true'] at h'
  have hn := cr_no1_4 w0 hw b0a b0b b0c b0d X U p0 p1 p2 p3 p4 p5 p6 p7 p8 p9 p10 p11 p12 h'.2
  rcases cr_cases h'.1 with h1 | ⟨h1, h2⟩
  · rw [h1] at hr
    exact goes_round (goes_of_exK w0 hw hr) hn
  · rw [h1, h2] at hr
    exact goes_round (goes_of_exK w0 hw hr) hn
theorem cr_no1_2 (w0 : Base) (hw : w0.s0.length ≤ 0) (b0a b0b b0c b0d : F32) (X U : F32) (p0 p1 p2 p3 p4 p5 p6 p7 p8 p9 p10 p11 p12 : Sh) (h : crNo [p2, p3, p4, p5, p6, p7, p8, p9, p10, p11, p12] = true) : InGoes Try.prog 0 w0 (loopN 0 Try.f45) (crFr 1 2) [[.cx .f32 b0a b0b, .cx .f32 b0c b0d], encSh [p0, p1, p2, p3, p4, p5, p6, p7, p8, p9, p10, p11, p12], [.cx .f32 X U]] (.exit 0) (crFr 1 12) [[.cx .f32 b0a b0b, .cx .f32 b0c b0d], encSh [p0, p1, p2, p3, p4, p5, p6, p7, p8, p9, p10, p11, p12], [.cx .f32 X U]] := by
  have hr := cr_round1_2 b0a b0b b0c b0d X U p0 p1 p2 p3 p4 p5 p6 p7 p8 p9 p10 p11 p12
  have h' : (!(crT p2 p3) && crNo [p3, p4, p5, p6, p7, p8, p9, p10, p11, p12]) = true := h
  rw [Bool.and_eq_true, Bool.not_eq_true'] at h'
  have hn := cr_no1_3 w0 hw b0a b0b b0c b0d X U p0 p1 p2 p3 p4 p5 p6 p7 p8 p9 p10 p11 p12 h'.2
  rcases cr_cases h'.1 with h1 | ⟨h1, h2⟩
  · rw [h1] at hr
    exact goes_round (goes_of_exK w0 hw hr) hn
  · rw [h1, h2] at hr
    exact goes_round (goes_of_exK w0 hw hr) hn
theorem cr_no1_1 (w0 : Base) (hw : w0.s0.length ≤ 0) (b0a b0b b0c b0d : F32) (X U : F32) (p0 p1 p2 p3 p4 p5 p6 p7 p8 p9 p10 p11 p12 : Sh) (h : crNo [p1, p2, p3, p4, p5, p6, p7, p8, p9, p10, p11, p12] = true) : InGoes Try.prog 0 w0 (loopN 0 Try.f45) (crFr 1 1) [[.cx .f32 b0a b0b, .cx .f32 b0c b0d], encSh [p0, p1, p2, p3, p4, p5, p6, p7, p8, p9, p10, p11, p12], [.cx .f32 X U]] (.exit 0) (crFr 1 12) [[.cx .f32 b0a b0b, .cx .f32 b0c b0d], encSh [p0, p1, p2, p3, p4, p5, p6, p7, p8, p9, p10, p11, p12], [.cx .f32 X U]] := by
  have hr := cr_round1_1 b0a b0b b0c b0d X U p0 p1 p2 p3 p4 p5 p6 p7 p8 p9 p10 p11 p12
  have h' : (!(crT p1 p2) && crNo [p2, p3, p4, p5, p6, p7, p8, p9, p10, p11, p12]) = true := h
  rw [Bool.and_eq_true, Bool.not_eq_true'] at h'
  have hn := cr_no1_2 w0 hw b0a b0b b0c b0d X U p0 p1 p2 p3 p4 p5 p6 p7 p8 p9 p10 p11 p12 h'.2
  rcases cr_cases h'.1 with h1 | ⟨h1, h2⟩
  · rw [h1] at hr
    exact goes_round (goes_of_exK w0 hw hr) hn
  · rw [h1, h2] at hr
    exact goes_round (goes_of_exK w0 hw hr) hn
theorem cr_no1_0 (w0 : Base) (hw : w0.s0.length ≤ 0) (b0a b0b b0c b0d : F32) (X U : F32) (p0 p1 p2 p3 p4 p5 p6 p7 p8 p9 p10 p11 p12 : Sh) (h : crNo [p0, p1, p2, p3, p4, p5, p6, p7, p8, p9, p10, p11, p12] = true) : InGoes Try.prog 0 w0 (loopN 0 Try.f45) (crFr 1 0) [[.cx .f32 b0a b0b, .cx .f32 b0c b0d], encSh [p0, p1, p2, p3, p4, p5, p6, p7, p8, p9, p10, p11, p12], [.cx .f32 X U]] (.exit 0) (crFr 1 12) [[.cx .f32 b0a b0b, .cx .f32 b0c b0d], encSh [p0, p1, p2, p3, p4, p5, p6, p7, p8, p9, p10, p11, p12], [.cx .f32 X U]] := by
  have hr := cr_round1_0 b0a b0b b0c b0d X U p0 p1 p2 p3 p4 p5 p6 p7 p8 p9 p10 p11 p12
  have h' : (!(crT p0 p1) && crNo [p1, p2, p3, p4, p5, p6, p7, p8, p9, p10, p11, p12]) = true := h
  rw [Bool.and_eq_true, Bool.not_eq_true'] at h'
  have hn := cr_no1_1 w0 hw b0a b0b b0c b0d X U p0 p1 p2 p3 p4 p5 p6 p7 p8 p9 p10 p11 p12 h'.2
  rcases cr_cases h'.1 with h1 | ⟨h1, h2⟩
  · rw [h1] at hr
    exact goes_round (goes_of_exK w0 hw hr) hn
  · rw [h1, h2] at hr
    exact goes_round (goes_of_exK w0 hw hr) hn
theorem cr_only_12 (w0 : Base) (_ : w0.s0.length ≤ 0) (b0a b0b b0c b0d : F32) (p0 p1 p2 p3 p4 p5 p6 p7 p8 p9 p10 p11 p12 : Sh) (j : Nat) (h : crOnly j [p12] = true) : InGoes Try.prog 0 w0 (loopN 0 Try.f45) (crFr 0 12) [[.cx .f32 b0a b0b, .cx .f32 b0c b0d], encSh [p0, p1, p2, p3, p4, p5, p6, p7, p8, p9, p10, p11, p12], []] (.exit 0) (crFr 1 12) [[.cx .f32 b0a b0b, .cx .f32 b0c b0d], encSh [p0, p1, p2, p3, p4, p5, p6, p7, p8, p9, p10, p11, p12], [crPair j [p12]]] := by
  cases j <;> cases h
theorem cr_only_11 (w0 : Base) (hw : w0.s0.length ≤ 0) (b0a b0b b0c b0d : F32) (p0 p1 p2 p3 p4 p5 p6 p7 p8 p9 p10 p11 p12 : Sh) (j : Nat) (h : crOnly j [p11, p12] = true) : InGoes Try.prog 0 w0 (loopN 0 Try.f45) (crFr 0 11) [[.cx .f32 b0a b0b, .cx .f32 b0c b0d], encSh [p0, p1, p2, p3, p4, p5, p6, p7, p8, p9, p10, p11, p12], []] (.exit 0) (crFr 1 12) [[.cx .f32 b0a b0b, .cx .f32 b0c b0d], encSh [p0, p1, p2, p3, p4, p5, p6, p7, p8, p9, p10, p11, p12], [crPair j [p11, p12]]] := by
  have hr := cr_round0_11 b0a b0b b0c b0d p0 p1 p2 p3 p4 p5 p6 p7 p8 p9 p10 p11 p12
  cases j with
  | zero =>
    simp only [crOnly, Bool.and_eq_true] at h
    obtain ⟨h1, h2, h3⟩ := h
    unfold crT at h1
    rw [Bool.and_eq_true] at h1
    rw [h1.1, h1.2, h2] at hr
    exact goes_round (goes_of_exK w0 hw hr) (cr_no1_12 w0 hw b0a b0b b0c b0d _ _ p0 p1 p2 p3 p4 p5 p6 p7 p8 p9 p10 p11 p12 h3)
  | succ j =>
    have h' : (!(crT p11 p12) && crOnly j [p12]) = true := h
    rw [Bool.and_eq_true, Bool.not_eq_true'] at h'
    have hn := cr_only_12 w0 hw b0a b0b b0c b0d p0 p1 p2 p3 p4 p5 p6 p7 p8 p9 p10 p11 p12 j h'.2
    rcases cr_cases h'.1 with h1 | ⟨h1, h2⟩
    · rw [h1] at hr
      exact goes_round (goes_of_exK w0 hw hr) hn
    · rw [h1, h2] at hr
      exact goes_round (goes_of_exK w0 hw hr) hn
theorem cr_only_10 (w0 : Base) (hw : w0.s0.length ≤ 0) (b0a b0b b0c b0d : F32) (p0 p1 p2 p3 p4 p5 p6 p7 p8 p9 p10 p11 p12 : Sh) (j : Nat) (h : crOnly j [p10, p11, p12] = true) : InGoes Try.prog 0 w0 (loopN 0 Try.f45) (crFr 0 10) [[.cx .f32 b0a b0b, .cx .f32 b0c b0d], encSh [p0, p1, p2, p3, p4, p5, p6, p7, p8, p9, p10, p11, p12], []] (.exit 0) (crFr 1 12) [[.cx .f32 b0a b0b, .cx .f32 b0c b0d], encSh [p0, p1, p2, p3, p4, p5, p6, p7, p8, p9, p10, p11, p12], [crPair j [p10, p11, p12]]] := by
  have hr := cr_round0_10 b0a b0b b0c b0d p0 p1 p2 p3 p4 p5 p6 p7 p8 p9 p10 p11 p12
  cases j with
  | zero =>
    simp only [crOnly, Bool.and_eq_true] at h
    obtain ⟨h1, h2, h3⟩ := h
    unfold crT at h1
    rw [Bool.and_eq_true] at h1
    rw [h1.1, h1.2, h2] at hr
    exact goes_round (goes_of_exK w0 hw hr) (cr_no1_11 w0 hw b0a b0b b0c b0d _ _ p0 p1 p2 p3 p4 p5 p6 p7 p8 p9 p10 p11 p12 h3)
  | succ j =>
    have h' : (!(crT p10 p11) && crOnly j [p11, p12]) = true := h
    rw [Bool.and_eq_true, Bool.not_eq_true'] at h'
    have hn := cr_only_11 w0 hw b0a b0b b0c b0d p0 p1 p2 p3 p4 p5 p6 p7 p8 p9 p10 p11 p12 j h'.2
    rcases cr_cases h'.1 with h1 | ⟨h1, h2⟩
    · rw [h1] at hr
      exact goes_round (goes_of_exK w0 hw hr) hn
    · rw [h1, h2] at hr
      exact goes_round (goes_of_exK w0 hw hr) hn
theorem cr_only_9 (w0 : Base) (hw : w0.s0.length ≤ 0) (b0a b0b b0c b0d : F32) (p0 p1 p2 p3 p4 p5 p6 p7 p8 p9 p10 p11 p12 : Sh) (j : Nat) (h : crOnly j [p9, p10, p11, p12] = true) : InGoes Try.prog 0 w0 (loopN 0 Try.f45) (crFr 0 9) [[.cx .f32 b0a b0b, .cx .f32 b0c b0d], encSh [p0, p1, p2, p3, p4, p5, p6, p7, p8, p9, p10, p11, p12], []] (.exit 0) (crFr 1 12) [[.cx .f32 b0a b0b, .cx .f32 b0c b0d], encSh [p0, p1, p2, p3, p4, p5, p6, p7, p8, p9, p10, p11, p12], [crPair j [p9, p10, p11, p12]]] := by
  have hr := cr_round0_9 b0a b0b b0c b0d p0 p1 p2 p3 p4 p5 p6 p7 p8 p9 p10 p11 p12
  cases j with
  | zero =>
    simp only [crOnly, Bool.and_eq_true] at h
    obtain ⟨h1, h2, h3⟩ := h
    unfold crT at h1
    rw [Bool.and_eq_true] at h1
    rw [h1.1, h1.2, h2] at hr
    exact goes_round (goes_of_exK w0 hw hr) (cr_no1_10 w0 hw b0a b0b b0c b0d _ _ p0 p1 p2 p3 p4 p5 p6 p7 p8 p9 p10 p11 p12 h3)
  | succ j =>
    have h' : (!(crT p9 p10) && crOnly j [p10, p11, p12]) = true := h
    rw [Bool.and_eq_true, Bool.not_eq_true'] at h'
    have hn := cr_only_10 w0 hw b0a b0b b0c b0d p0 p1 p2 p3 p4 p5 p6 p7 p8 p9 p10 p11 p12 j h'.2
    rcases cr_cases h'.1 with h1 | ⟨h1, h2⟩
    · rw [h1] at hr
      exact goes_round (goes_of_exK w0 hw hr) hn
    · rw [h1, h2] at hr
      exact goes_round (goes_of_exK w0 hw hr) hn
theorem cr_only_8 (w0 : Base) (hw : w0.s0.length ≤ 0) (b0a b0b b0c b0d : F32) (p0 p1 p2 p3 p4 p5 p6 p7 p8 p9 p10 p11 p12 : Sh) (j : Nat) (h : crOnly j [p8, p9, p10, p11, p12] = true) : InGoes Try.prog 0 w0 (loopN 0 Try.f45) (crFr 0 8) [[.cx .f32 b0a b0b, .cx .f32 b0c b0d], encSh [p0, p1, p2, p3, p4, p5, p6, p7, p8, p9, p10, p11, p12], []] (.exit 0) (crFr 1 12) [[.cx .f32 b0a b0b, .cx .f32 b0c b0d], encSh [p0, p1, p2, p3, p4, p5, p6, p7, p8, p9, p10, p11, p12], [crPair j [p8, p9, p10, p11, p12]]] := by
  have hr := cr_round0_8 b0a b0b b0c b0d p0 p1 p2 p3 p4 p5 p6 p7 p8 p9 p10 p11 p12
  cases j with
  | zero =>
    simp only [crOnly, Bool.and_eq_true] at h
    obtain ⟨h1, h2, h3⟩ := h
    unfold crT at h1
    rw [Bool.and_eq_true] at h1
    rw [h1.1, h1.2, h2] at hr
    exact goes_round (goes_of_exK w0 hw hr) (cr_no1_9 w0 hw b0a b0b b0c b0d _ _ p0 p1 p2 p3 p4 p5 p6 p7 p8 p9 p10 p11 p12 h3)
  | succ j =>
    have h' : (!(crT p8 p9) && crOnly j [p9, p10, p11, p12]) = true := h
    rw [Bool.and_eq_true, Bool.not_eq_true'] at h'
    have hn := cr_only_9 w0 hw b0a b0b b0c b0d p0 p1 p2 p3 p4 p5 p6 p7 p8 p9 p10 p11 p12 j h'.2
    rcases cr_cases h'.1 with h1 | ⟨h1, h2⟩
    · rw [h1] at hr
      exact goes_round (goes_of_exK w0 hw hr) hn
    · rw [h1, h2] at hr
      exact goes_round (goes_of_exK w0 hw hr) hn
theorem cr_only_7 (w0 : Base) (hw : w0.s0.length ≤ 0) (b0a b0b b0c b0d : F32) (p0 p1 p2 p3 p4 p5 p6 p7 p8 p9 p10 p11 p12 : Sh) (j : Nat) (h : crOnly j [p7, p8, p9, p10, p11, p12] = true) : InGoes Try.prog 0 w0 (loopN 0 Try.f45) (crFr 0 7) [[.cx .f32 b0a b0b, .cx .f32 b0c b0d], encSh [p0, p1, p2, p3, p4, p5, p6, p7, p8, p9, p10, p11, p12], []] (.exit 0) (crFr 1 12) [[.cx .f32 b0a b0b, .cx .f32 b0c b0d], encSh [p0, p1, p2, p3, p4, p5, p6, p7, p8, p9, p10, p11, p12], [crPair j [p7, p8, p9, p10, p11, p12]]] := by
  have hr := cr_round0_7 b0a b0b b0c b0d p0 p1 p2 p3 p4 p5 p6 p7 p8 p9 p10 p11 p12
  cases j with
  | zero =>
    simp only [crOnly, Bool.and_eq_true] at h
    obtain ⟨h1, h2, h3⟩ := h
    unfold crT at h1
    rw [Bool.and_eq_true] at h1
    rw [h1.1, h1.2, h2] at hr
    exact goes_round (goes_of_exK w0 hw hr) (cr_no1_8 w0 hw b0a b0b b0c b0d _ _ p0 p1 p2 p3 p4 p5 p6 p7 p8 p9 p10 p11 p12 h3)
  | succ j =>
    have h' : (!(crT p7 p8) && crOnly j [p8, p9, p10, p11, p12]) = true := h
    rw [Bool.and_eq_true, Bool.not_eq_true'] at h'
    have hn := cr_only_8 w0 hw b0a b0b b0c b0d p0 p1 p2 p3 p4 p5 p6 p7 p8 p9 p10 p11 p12 j h'.2
    rcases cr_cases h'.1 with h1 | ⟨h1, h2⟩
    · rw [h1] at hr
      exact goes_round (goes_of_exK w0 hw hr) hn
    · rw [h1, h2] at hr
      exact goes_round (goes_of_exK w0 hw hr) hn
theorem cr_only_6 (w0 : Base) (hw : w0.s0.length ≤ 0) (b0a b0b b0c b0d : F32) (p0 p1 p2 p3 p4 p5 p6 p7 p8 p9 p10 p11 p12 : Sh) (j : Nat) (h : crOnly j [p6, p7, p8, p9, p10, p11, p12] = true) : InGoes Try.prog 0 w0 (loopN 0 Try.f45) (crFr 0 6) [[.cx .f32 b0a b0b, .cx .f32 b0c b0d], encSh [p0, p1, p2, p3, p4, p5, p6, p7, p8, p9, p10, p11, p12], []] (.exit 0) (crFr 1 12) [[.cx .f32 b0a b0b, .cx .f32 b0c b0d], encSh [p0, p1, p2, p3, p4, p5, p6, p7, p8, p9, p10, p11, p12], [crPair j [p6, p7, p8, p9, p10, p11, p12]]] := by
  have hr := cr_round0_6 b0a b0b b0c b0d p0 p1 p2 p3 p4 p5 p6 p7 p8 p9 p10 p11 p12
  cases j with
  | zero =>
    simp only [crOnly, Bool.and_eq_true] at h
    obtain ⟨h1, h2, h3⟩ := h
    unfold crT at h1
    rw [Bool.and_eq_true] at h1
    rw [h1.1, h1.2, h2] at hr
    exact goes_round (goes_of_exK w0 hw hr) (cr_no1_7 w0 hw b0a b0b b0c b0d _ _ p0 p1 p2 p3 p4 p5 p6 p7 p8 p9 p10 p11 p12 h3)
  | succ j =>
    have h' : (!(crT p6 p7) && crOnly j [p7, p8, p9, p10, p11, p12]) = true := h
    rw [Bool.and_eq_true, Bool.not_eq_true'] at h'
    have hn := cr_only_7 w0 hw b0a b0b b0c b0d p0 p1 p2 p3 p4 p5 p6 p7 p8 p9 p10 p11 p12 j h'.2
    rcases cr_cases h'.1 with h1 | ⟨h1, h2⟩
    · rw [h1] at hr
      exact goes_round (goes_of_exK w0 hw hr) hn
    · rw [h1, h2] at hr
      exact goes_round (goes_of_exK w0 hw hr) hn
theorem cr_only_5 (w0 : Base) (hw : w0.s0.length ≤ 0) (b0a b0b b0c b0d : F32) (p0 p1 p2 p3 p4 p5 p6 p7 p8 p9 p10 p11 p12 : Sh) (j : Nat) (h : crOnly j [p5, p6, p7, p8, p9, p10, p11, p12] = true) : InGoes Try.prog 0 w0 (loopN 0 Try.f45) (crFr 0 5) [[.cx .f32 b0a b0b, .cx .f32 b0c b0d], encSh [p0, p1, p2, p3, p4, p5, p6, p7, p8, p9, p10, p11, p12], []] (.exit 0) (crFr 1 12) [[.cx .f32 b0a b0b, .cx .f32 b0c b0d], encSh [p0, p1, p2, p3, p4, p5, p6, p7, p8, p9, p10, p11, p12], [crPair j [p5, p6, p7, p8, p9, p10, p11, p12]]] := by
  have hr := cr_round0_5 b0a b0b b0c b0d p0 p1 p2 p3 p4 p5 p6 p7 p8 p9 p10 p11 p12
  cases j with
  | zero =>
    simp only [crOnly, Bool.and_eq_true] at h
    obtain ⟨h1, h2, h3⟩ := h
    unfold crT at h1
    rw [Bool.and_eq_true] at h1
    rw [h1.1, h1.2, h2] at hr
    exact goes_round (goes_of_exK w0 hw hr) (cr_no1_6 w0 hw b0a b0b b0c b0d _ _ p0 p1 p2 p3 p4 p5 p6 p7 p8 p9 p10 p11 p12 h3)
  | succ j =>
    have h' : (!(crT p5 p6) && crOnly j [p6, p7, p8, p9, p10, p11, p12]) = true := h
    rw [Bool.and_eq_true, Bool.not_eq_true'] at h'
    have hn := cr_only_6 w0 hw b0a b0b b0c b0d p0 p1 p2 p3 p4 p5 p6 p7 p8 p9 p10 p11 p12 j h'.2
    rcases cr_cases h'.1 with h1 | ⟨h1, h2⟩
    · rw [h1] at hr
      exact goes_round (goes_of_exK w0 hw hr) hn
    · rw [h1, h2] at hr
      exact goes_round (goes_of_exK w0 hw hr) hn
theorem cr_only_4 (w0 : Base) (hw : w0.s0.length ≤ 0) (b0a b0b b0c b0d : F32) (p0 p1 p2 p3 p4 p5 p6 p7 p8 p9 p10 p11 p12 : Sh) (j : Nat) (h : crOnly j [p4, p5, p6, p7, p8, p9, p10, p11, p12] = true) : InGoes Try.prog 0 w0 (loopN 0 Try.f45) (crFr 0 4) [[.cx .f32 b0a b0b, .cx .f32 b0c b0d], encSh [p0, p1, p2, p3, p4, p5, p6, p7, p8, p9, p10, p11, p12], []] (.exit 0) (crFr 1 12) [[.cx .f32 b0a b0b, .cx .f32 b0c b0d], encSh [p0, p1, p2, p3, p4, p5, p6, p7, p8, p9, p10, p11, p12], [crPair j [p4, p5, p6, p7, p8, p9, p10, p11, p12]]] := by
  have hr := cr_round0_4 b0a b0b b0c b0d p0 p1 p2 p3 p4 p5 p6 p7 p8 p9 p10 p11 p12
  cases j with
  | zero =>
    simp only [crOnly, Bool.and_eq_true] at h
    obtain ⟨h1, h2, h3⟩ := h
    unfold crT at h1
    rw [Bool.and_eq_true] at h1
    rw [h1.1, h1.2, h2] at hr
    exact goes_round (goes_of_exK w0 hw hr) (cr_no1_5 w0 hw b0a b0b b0c b0d _ _ p0 p1 p2 p3 p4 p5 p6 p7 p8 p9 p10 p11 p12 h3)
  | succ j =>
    have h' : (!(crT p4 p5) && crOnly j [p5, p6, p7, p8, p9, p10, p11, p12]) = true := h
    rw [Bool.and_eq_true, Bool.not_eq_true'] at h'
    have hn := cr_only_5 w0 hw b0a b0b b0c b0d p0 p1 p2 p3 p4 p5 p6 p7 p8 p9 p10 p11 p12 j h'.2
    rcases cr_cases h'.1 with h1 | ⟨h1, h2⟩
    · rw [h1] at hr
      exact goes_round (goes_of_exK w0 hw hr) hn
    · rw [h1, h2] at hr
      exact goes_round (goes_of_exK w0 hw hr) hn
theorem cr_only_3 (w0 : Base) (hw : w0.s0.length ≤ 0) (b0a b0b b0c b0d : F32) (p0 p1 p2 p3 p4 p5 p6 p7 p8 p9 p10 p11 p12 : Sh) (j : Nat) (h : crOnly j [p3, p4, p5, p6, p7, p8, p9, p10, p11, p12] = true) : InGoes Try.prog 0 w0 (loopN 0 Try.f45) (crFr 0 3) [[.cx .f32 b0a b0b, .cx .f32 b0c b0d], encSh [p0, p1, p2, p3, p4, p5, p6, p7, p8, p9, p10, p11, p12], []] (.exit 0) (crFr 1 12) [[.cx .f32 b0a b0b, .cx .f32 b0c b0d], encSh [p0, p1, p2, p3, p4, p5, p6, p7, p8, p9, p10, p11, p12], [crPair j [p3, p4, p5, p6, p7, p8, p9, p10, p11, p12]]] := by
  have hr := cr_round0_3 b0a b0b b0c b0d p0 p1 p2 p3 p4 p5 p6 p7 p8 p9 p10 p11 p12
  cases j with
  | zero =>
    simp only [crOnly, Bool.and_eq_true] at h
    obtain ⟨h1, h2, h3⟩ := h
    unfold crT at h1
    rw [Bool.and_eq_true] at h1
    rw [h1.1, h1.2, h2] at hr
    exact goes_round (goes_of_exK w0 hw hr) (cr_no1_4 w0 hw b0a b0b b0c b0d _ _ p0 p1 p2 p3 p4 p5 p6 p7 p8 p9 p10 p11 p12 h3)
  | succ j =>
    have h' : (!(crT p3 p4) && crOnly j [p4, p5, p6, p7, p8, p9, p10, p11, p12]) = true := h
    rw [Bool.and_eq_true, Bool.not_eq_true'] at h'
    have hn := cr_only_4 w0 hw b0a b0b b0c b0d p0 p1 p2 p3 p4 p5 p6 p7 p8 p9 p10 p11 p12 j h'.2
    rcases cr_cases h'.1 with h1 | ⟨h1, h2⟩
    · rw [h1] at hr
      exact goes_round (goes_of_exK w0 hw hr) hn
    · rw [h1, h2] at hr
      exact goes_round (goes_of_exK w0 hw hr) hn
theorem cr_only_2 (w0 : Base) (hw : w0.s0.length ≤ 0) (b0a b0b b0c b0d : F32) (p0 p1 p2 p3 p4 p5 p6 p7 p8 p9 p10 p11 p12 : Sh) (j : Nat) (h : crOnly j [p2, p3, p4, p5, p6, p7, p8, p9, p10, p11, p12] = true) : InGoes Try.prog 0 w0 (loopN 0 Try.f45) (crFr 0 2) [[.cx .f32 b0a b0b, .cx .f32 b0c b0d], encSh [p0, p1, p2, p3, p4, p5, p6, p7, p8, p9, p10, p11, p12], []] (.exit 0) (crFr 1 12) [[.cx .f32 b0a b0b, .cx .f32 b0c b0d], encSh [p0, p1, p2, p3, p4, p5, p6, p7, p8, p9, p10, p11, p12], [crPair j [p2, p3, p4, p5, p6, p7, p8, p9, p10, p11, p12]]] := by
  have hr := cr_round0_2 b0a b0b b0c b0d p0 p1 p2 p3 p4 p5 p6 p7 p8 p9 p10 p11 p12
  cases j with
  | zero =>
    simp only [crOnly, Bool.and_eq_true] at h
    obtain ⟨h1, h2, h3⟩ := h
    unfold crT at h1
    rw [Bool.and_eq_true] at h1
    rw [h1.1, h1.2, h2] at hr
    exact goes_round (goes_of_exK w0 hw hr) (cr_no1_3 w0 hw b0a b0b b0c b0d _ _ p0 p1 p2 p3 p4 p5 p6 p7 p8 p9 p10 p11 p12 h3)
  | succ j =>
    have h' : (!(crT p2 p3) && crOnly j [p3, p4, p5, p6, p7, p8, p9, p10, p11, p12]) = true := h
    rw [Bool.and_eq_true, Bool.not_eq_true'] at h'
    have hn := cr_only_3 w0 hw b0a b0b b0c b0d p0 p1 p2 p3 p4 p5 p6 p7 p8 p9 p10 p11 p12 j h'.2
    rcases cr_cases h'.1 with h1 | ⟨h1, h2⟩
    · rw [h1] at hr
      exact goes_round (goes_of_exK w0 hw hr) hn
    · rw [h1, h2] at hr
      exact goes_round (goes_of_exK w0 hw hr) hn
theorem cr_only_1 (w0 : Base) (hw : w0.s0.length ≤ 0) (b0a b0b b0c b0d : F32) (p0 p1 p2 p3 p4 p5 p6 p7 p8 p9 p10 p11 p12 : Sh) (j : Nat) (h : crOnly j [p1, p2, p3, p4, p5, p6, p7, p8, p9, p10, p11, p12] = true) : InGoes Try.prog 0 w0 (loopN 0 Try.f45) (crFr 0 1) [[.cx .f32 b0a b0b, .cx .f32 b0c b0d], encSh [p0, p1, p2, p3, p4, p5, p6, p7, p8, p9, p10, p11, p12], []] (.exit 0) (crFr 1 12) [[.cx .f32 b0a b0b, .cx .f32 b0c b0d], encSh [p0, p1, p2, p3, p4, p5, p6, p7, p8, p9, p10, p11, p12], [crPair j [p1, p2, p3, p4, p5, p6, p7, p8, p9, p10, p11, p12]]] := by
  have hr := cr_round0_1 b0a b0b b0c b0d p0 p1 p2 p3 p4 p5 p6 p7 p8 p9 p10 p11 p12
  cases j with
  | zero =>
    simp only [crOnly, Bool.and_eq_true] at h
    obtain ⟨h1, h2, h3⟩ := h
    unfold crT at h1
    rw [Bool.and_eq_true] at h1
    rw [h1.1, h1.2, h2] at hr
    exact goes_round (goes_of_exK w0 hw hr) (cr_no1_2 w0 hw b0a b0b b0c b0d _ _ p0 p1 p2 p3 p4 p5 p6 p7 p8 p9 p10 p11 p12 h3)
  | succ j =>
    have h' : (!(crT p1 p2) && crOnly j [p2, p3, p4, p5, p6, p7, p8, p9, p10, p11, p12]) = true := h
    rw [Bool.and_eq_true, Bool.not_eq_true'] at h'
    have hn := cr_only_2 w0 hw b0a b0b b0c b0d p0 p1 p2 p3 p4 p5 p6 p7 p8 p9 p10 p11 p12 j h'.2
    rcases cr_cases h'.1 with h1 | ⟨h1, h2⟩
    · rw [h1] at hr
      exact goes_round (goes_of_exK w0 hw hr) hn
    · rw [h1, h2] at hr
      exact goes_round (goes_of_exK w0 hw hr) hn
theorem cr_only_0 (w0 : Base) (hw : w0.s0.length ≤ 0) (b0a b0b b0c b0d : F32) (p0 p1 p2 p3 p4 p5 p6 p7 p8 p9 p10 p11 p12 : Sh) (j : Nat) (h : crOnly j [p0, p1, p2, p3, p4, p5, p6, p7, p8, p9, p10, p11, p12] = true) : InGoes Try.prog 0 w0 (loopN 0 Try.f45) (crFr 0 0) [[.cx .f32 b0a b0b, .cx .f32 b0c b0d], encSh [p0, p1, p2, p3, p4, p5, p6, p7, p8, p9, p10, p11, p12], []] (.exit 0) (crFr 1 12) [[.cx .f32 b0a b0b, .cx .f32 b0c b0d], encSh [p0, p1, p2, p3, p4, p5, p6, p7, p8, p9, p10, p11, p12], [crPair j [p0, p1, p2, p3, p4, p5, p6, p7, p8, p9, p10, p11, p12]]] := by
  have hr := cr_round0_0 b0a b0b b0c b0d p0 p1 p2 p3 p4 p5 p6 p7 p8 p9 p10 p11 p12
  cases j with
  | zero =>
    simp only [crOnly, Bool.and_eq_true] at h
    obtain ⟨h1, h2, h3⟩ := h
    unfold crT at h1
    rw [Bool.and_eq_true] at h1
    rw [h1.1, h1.2, h2] at hr
    exact goes_round (goes_of_exK w0 hw hr) (cr_no1_1 w0 hw b0a b0b b0c b0d _ _ p0 p1 p2 p3 p4 p5 p6 p7 p8 p9 p10 p11 p12 h3)
  | succ j =>
    have h' : (!(crT p0 p1) && crOnly j [p1, p2, p3, p4, p5, p6, p7, p8, p9, p10, p11, p12]) = true := h
    rw [Bool.and_eq_true, Bool.not_eq_true'] at h'
    have hn := cr_only_1 w0 hw b0a b0b b0c b0d p0 p1 p2 p3 p4 p5 p6 p7 p8 p9 p10 p11 p12 j h'.2
    rcases cr_cases h'.1 with h1 | ⟨h1, h2⟩
    · rw [h1] at hr
      exact goes_round (goes_of_exK w0 hw hr) hn
    · rw [h1, h2] at hr
      exact goes_round (goes_of_exK w0 hw hr) hn
def crQ (o : Option Nat) (L : List Sh) : Bool := match o with
  | none => crNo L
  | some j => crOnly j L
def crOut (o : Option Nat) (L : List Sh) : List AC := match o with
  | none => []
  | some j => [crPair j L]
def crN (o : Option Nat) : Nat := match o with
  | none => 0
  | some _ => 1
def crLp (o : Option Nat) : LoopRule
  | 0, _ :: _ :: _ :: _ :: _ :: _ :: _ :: _ :: _ :: _ :: .c (.slc 1 m) :: _ :: .c (.slc 2 n) :: _ :: _ :: _ :: _ :: _ :: _ :: _ :: _ :: _ :: _ :: _ :: _ :: _ :: _ :: _ :: _ :: .c (.val (.int .i64 k)) :: .c (.val (.int .i64 i)) :: F, [[.cx .f32 b0a b0b, .cx .f32 b0c b0d], c, []] => match decSh c with
    | some L => some (decide (F.length = 69) && (decide (L.length = 13) && (decide (m = 13 ∧ n = 0 ∧ k = 12 ∧ i = 0) && crQ o L)), .exit 0, crFr (crN o) 12, [[.cx .f32 b0a b0b, .cx .f32 b0c b0d], encSh L, crOut o L])
    | none => none
  | _, _, _ => none
theorem cr_weaken (n : Nat) (i : Int) (a0 a1 a2 a3 a4 a5 a6 a7 a8 a9 e0 b0 b1 b2 b3 b4 b5 b6 b7 b8 b9 b10 b11 b12 b13 b14 b15 : AV) (F : List AV) (h : F.length = 69) :
    weaken crMk (a0 :: a1 :: a2 :: a3 :: a4 :: a5 :: a6 :: a7 :: a8 :: a9 :: .c (.slc 1 13) :: e0 :: .c (.slc 2 n) :: b0 :: b1 :: b2 :: b3 :: b4 :: b5 :: b6 :: b7 :: b8 :: b9 :: b10 :: b11 :: b12 :: b13 :: b14 :: b15 :: .c (.val (.int .i64 12)) :: .c (.val (.int .i64 i)) :: F) = crFr n i := by
  have e : weaken crMk (a0 :: a1 :: a2 :: a3 :: a4 :: a5 :: a6 :: a7 :: a8 :: a9 :: .c (.slc 1 13) :: e0 :: .c (.slc 2 n) :: b0 :: b1 :: b2 :: b3 :: b4 :: b5 :: b6 :: b7 :: b8 :: b9 :: b10 :: b11 :: b12 :: b13 :: b14 :: b15 :: .c (.val (.int .i64 12)) :: .c (.val (.int .i64 i)) :: F) =
    (List.replicate 10 (.c .any) ++ [.c (.slc 1 13), .c .any, .c (.slc 2 n)] ++ List.replicate 16 (.c .any) ++ [.c (.val (.int .i64 12)), .c (.val (.int .i64 i))] : List AV) ++ weaken (List.replicate 69 false) F := by kernel_rfl
  rw [e, weaken_any 69 F h]; rfl
theorem cr_loops (o : Option Nat) : LoopsOk Try.prog 0 anyW (crLp o) 0 (Try.f45.body.getD .skip) := by
  intro j x hx F M o' F' M' hl w0 _ hw
  have hX : loopsAll (Try.f45.body.getD .skip) = [loopN 0 Try.f45] := by kernel_rfl
  rw [hX] at hx
  rw [Nat.zero_add] at hl
  unfold crLp at hl
  split at hl
  · rename_i a0 a1 a2 a3 a4 a5 a6 a7 a8 a9 m e0 n b0 b1 b2 b3 b4 b5 b6 b7 b8 b9 b10 b11 b12 b13 b14 b15 k i F b0a b0b b0c b0d c
    split at hl
    · rename_i L hL
      simp only [Option.some.injEq, Prod.mk.injEq, Bool.and_eq_true, decide_eq_true_eq] at hl
      obtain ⟨⟨hF, h13, ⟨rfl, rfl, rfl, rfl⟩, hq⟩, rfl, rfl, rfl⟩ := hl
      have hc := decSh_enc _ _ hL
      subst hc
      obtain ⟨p0, p1, p2, p3, p4, p5, p6, p7, p8, p9, p10, p11, p12, rfl⟩ := len13 h13
      cases hx
      refine InGoes.weaken crMk ?_
      rw [cr_weaken _ _ _ _ _ _ _ _ _ _ _ _ _ _ _ _ _ _ _ _ _ _ _ _ _ _ _ _ _ F hF]
      cases o with
      | none => exact cr_no0_0 w0 hw b0a b0b b0c b0d p0 p1 p2 p3 p4 p5 p6 p7 p8 p9 p10 p11 p12 hq
      | some j => exact cr_only_0 w0 hw b0a b0b b0c b0d p0 p1 p2 p3 p4 p5 p6 p7 p8 p9 p10 p11 p12 j hq
    · cases hl
  · cases hl
theorem cr_far (o : Option Nat) : ∀ j, farOff ≤ j → ∀ F M, crLp o j F M = none := by
  intro j hj F M
  unfold crLp
  split
  · exact absurd hj (by decide)
  · rfl
theorem cross_raw0 (s h : F32) (p : Sh) : runW Try.prog [eCFin] [] [eFlight] (crLp none) Try.f45 (flArgs s h p 12) =
    bif (flQ s h p 12) && true then bif crQ none (cpL s h p) then some (0, []) else none else none := by kernel_rfl
theorem cross_raw1 (s h : F32) (p : Sh) (j : Nat) : runW Try.prog [eCFin] [] [eFlight] (crLp (some j)) Try.f45 (flArgs s h p 12) =
    bif (flQ s h p 12) && true then bif crQ (some j) (cpL s h p) then slW [[], [], [crPair j (cpL s h p)]] (.tup [.slc 2 1, .sb true]) else none else none := by kernel_rfl
theorem crPair_cx : ∀ (j : Nat) (L : List Sh), crOnly j L = true → ∃ x u, crPair j L = .cx .f32 x u
  | 0, a :: b :: L, _ => ⟨_, _, rfl⟩
  | j + 1, a :: b :: L, h => by
    simp only [crOnly, Bool.and_eq_true] at h
    exact crPair_cx j (b :: L) h.2
  | 0, [a], h => by cases h
  | 0, [], h => by cases h
  | j + 1, [a], h => by cases h
  | j + 1, [], h => by cases h
theorem cross_run (s h : F32) (p : Sh) (o : Option Nat) (hq : flQ s h p 12 = true) (hc : crQ o (cpL s h p) = true) : runW Try.prog [eCFin] [] [eFlight] (crLp o) Try.f45 (flArgs s h p 12) = some (crN o, crOut o (cpL s h p)) := by
  cases o with
  | none => rw [cross_raw0, hq, hc]; rfl
  | some j =>
    rw [cross_raw1, hq, hc]
    obtain ⟨x, u, e⟩ := crPair_cx j _ hc
    unfold crOut
    simp only [e]
    rfl
def crFn (o : Option Nat) : List AV → Option (Bool × Bool × List AC)
  | [.c (.fl .f32 s), .agg [.cx .f32 x y, .cx .f32 u v], .c (.fl .f32 h), .c (.val (.int .i64 (.ofNat k)))] => some (decide (k = 12) && (flQ s h ⟨x, y, u, v⟩ 12 && crQ o (cpL s h ⟨x, y, u, v⟩)), true, crOut o (cpL s h ⟨x, y, u, v⟩))
  | _ => none
theorem cross_ok (o : Option Nat) : ∀ args b cells, crFn o args = some (true, b, cells) → ∀ vs w, RepF [] args vs → args.all plainA = true → Calls Try.prog 45 vs.toArray w fun e w' => Ext w w' ∧
    (match b with
    | true => ∃ (blk cap : Nat) (us : Array Value) (t : TypeId), e = .returned (.tuple #[.slice (some ⟨blk, 0, none⟩) cells.length cap, .bool true]) ∧ w.heap.size ≤ blk ∧ w'.heap[blk]? = some (.cells us t (0, 0)) ∧ RepP [] cells us.toList ∧ cap ≤ us.size ∧ cells.length ≤ cap
    | false => e = .returned (.tuple #[.slice none 0 0, .bool false])) := by
  intro args b cells h vs w ha hpl
  clear hpl
  unfold crFn at h
  split at h
  · rename_i s x y u v t k
    simp only [Option.some.injEq, Prod.mk.injEq, Bool.and_eq_true, decide_eq_true_eq] at h
    obtain ⟨⟨rfl, h1, h2⟩, rfl, rfl⟩ := h
    have e : (crOut o (cpL s t ⟨x, y, u, v⟩)).length = crN o := by cases o <;> rfl
    rw [e]
    exact runW_sound Try.func45 (cr_far o) (cr_loops o) (cross_run s t ⟨x, y, u, v⟩ o h1 h2) ha
  · cases h
def eCross (o : Option Nat) : EntryN Try.prog := { f := 45, fn := crFn o, enter := fun _ _ => enter_of Try.func45 (by kernel_rfl) (c := Try.f45.body.getD .skip) (by kernel_rfl), ok := cross_ok o }
end Go.Proofs.Ytlpahmefebgdlaa.Fx
/- Contracts: ValidStage, two ways; its law. No condition. -/
namespace Go.Proofs.Ytlpahmefebgdlaa.Fx
open Go Go.RowKit

-- structs of three numbers
def shA3 (g : F32 → F32 → F32 → Bool × AV) : List AV → List (List AC) → Option (Bool × AV)
  | [.agg [.fl .f32 x0, .fl .f32 x1, .fl .f32 x2]], _ => some (g x0 x1 x2)
  | _, _ => none
theorem okA3 {P : Program} {E : List (Entry P)} {f : FuncId} {fn : Func} {g : F32 → F32 → F32 → Bool × AV} (hf : P.funcs[f]? = some fn) (hn : (fn.name == "runtime.NumGoroutine") = false)
    (h : ∀ (x0 : F32) (x1 : F32) (x2 : F32), (g x0 x1 x2).1 = true → run P E fn [.agg [.fl .f32 x0, .fl .f32 x1, .fl .f32 x2]] [] = some (g x0 x1 x2).2) :
    EOk P f (shA3 g) := by
  intro args M r hr σ vs w _ ha
  unfold shA3 at hr
  split at hr
  · rename_i x0 x1 x2
    have hr' := Option.some.inj hr
    have h1 := h x0 x1 x2 (by rw [hr'])
    rw [hr'] at h1
    exact gives0 hf hn rfl h1 ha
  · cases hr
def shP3 (g : F32 → F32 → F32 → Bool × AV) : List AV → List (List AC) → Option (Bool × AV)
  | [.c (.ptr id 0)], M => match M[id]? with
    | some [.fl .f32 x0, .fl .f32 x1, .fl .f32 x2] => some (g x0 x1 x2)
    | _ => none
  | _, _ => none
theorem okP3 {P : Program} {E : List (Entry P)} {f : FuncId} {fn : Func} {g : F32 → F32 → F32 → Bool × AV} (hf : P.funcs[f]? = some fn) (hn : (fn.name == "runtime.NumGoroutine") = false)
    (h : ∀ (x0 : F32) (x1 : F32) (x2 : F32), (g x0 x1 x2).1 = true → runO P E fn [.c (.ptr 0 0)] [[.fl .f32 x0, .fl .f32 x1, .fl .f32 x2]] = some (g x0 x1 x2).2) :
    EOk P f (shP3 g) := by
  intro args M r hr σ vs w hM ha
  unfold shP3 at hr
  split at hr
  · split at hr
    · rename_i id M x0 x1 x2 hid
      have hr' := Option.some.inj hr
      have h1 := h x0 x1 x2 (by rw [hr'])
      rw [hr'] at h1
      exact gives_ptr hf hn h1 rfl rfl hM hid ha
    · cases hr
  · cases hr

def stageOk (a b c : F32) : Bool := leastS a && (finS b && (gt b a && aboveS c))
theorem eValidStage_run (a b c : F32) : run Try.prog [eAMass, eIsFinite, eALength] Try.f33 [.agg [.fl .f32 a, .fl .f32 b, .fl .f32 c]] [] = some (.c (.sb (stageOk a b c))) := by
  unfold stageOk
  rw [← mass_eq, ← fin_eq, ← long_eq, push_and, push_and, push_and]
  kernel_rfl
def eValidStage : Entry Try.prog := { f := 33, fn := shA3 fun a b c => rB (stageOk a b c), ok := okA3 (E := [eAMass, eIsFinite, eALength]) Try.func33 (by kernel_rfl) fun a b c _ => eValidStage_run a b c }
end Go.Proofs.Ytlpahmefebgdlaa.Fx
/- Contracts: logarithms, burns. No condition. -/
namespace Go.Proofs.Ytlpahmefebgdlaa.Fx
open Go Go.RowKit

-- natural logarithms
def k15 : F64 := c64 4609434218613702656
def k075 : F64 := c64 4604930618986332160
def ln2 : F64 := c64 4604418534313441775
def halve : Nat → F64 × F64 → Bool × (F64 × F64)
  | 0, s => (false, s)
  | n + 1, s => bif ge s.1 k15 then halve n (s.1 / two, s.2 + one) else (true, s)
def dbl : Nat → F64 × F64 → Bool × (F64 × F64)
  | 0, s => (false, s)
  | n + 1, s => bif lt s.1 k075 then dbl n (s.1 * two, s.2 - one) else (true, s)
def nlFr (x e : F64) : List AV := [.c (.fl .f64 x), .c .any, .c .any, .c (.fl .f64 e), .c .any, .c .any, .c .any, .c .any, .c .any, .c .any, .c .any, .c .any, .c .any, .c .any, .c .any, .c .any, .c .any, .c .any, .c .any, .c .any, .c .any, .c .any, .c .any, .c .any, .c .any, .c .any, .c .any, .c .any, .c .any, .c .any, .c .any, .c .any, .c .any, .c .any, .c .any, .c .any, .c .any, .c .any, .c .any, .c .any, .c .any, .c .any, .c .any, .c .any, .c .any, .c .any]
def nlM : List Bool := [true, false, false, true, false, false, false, false, false, false, false, false, false, false, false, false, false, false, false, false, false, false, false, false, false, false, false, false, false, false, false, false, false, false, false, false, false, false, false, false, false, false, false, false, false, false]
def nlLp : LoopRule
  | 0, .c (.fl .f64 x) :: _ :: _ :: .c (.fl .f64 e) :: _ :: _ :: _ :: _ :: _ :: _ :: _ :: _ :: _ :: _ :: _ :: _ :: _ :: _ :: _ :: _ :: _ :: _ :: _ :: _ :: _ :: _ :: _ :: _ :: _ :: _ :: _ :: _ :: _ :: _ :: _ :: _ :: _ :: _ :: _ :: _ :: _ :: _ :: _ :: _ :: _ :: _ :: [], [] => some ((halve 8 (x, e)).1, .exit 0, nlFr (halve 8 (x, e)).2.1 (halve 8 (x, e)).2.2, [])
  | 1, .c (.fl .f64 x) :: _ :: _ :: .c (.fl .f64 e) :: _ :: _ :: _ :: _ :: _ :: _ :: _ :: _ :: _ :: _ :: _ :: _ :: _ :: _ :: _ :: _ :: _ :: _ :: _ :: _ :: _ :: _ :: _ :: _ :: _ :: _ :: _ :: _ :: _ :: _ :: _ :: _ :: _ :: _ :: _ :: _ :: _ :: _ :: _ :: _ :: _ :: _ :: [], [] => some ((dbl 8 (x, e)).1, .exit 2, nlFr (dbl 8 (x, e)).2.1 (dbl 8 (x, e)).2.2, [])
  | _, _, _ => none
theorem nl_round0 (x e : F64) : exC Try.prog [] 0 400 (loopN 0 Try.f123) (nlFr x e) [] (fun o F M => some (o, weaken nlM F, M)) = bif ge x k15 then some (.norm, nlFr (x / two) (e + one), []) else some (.exit 0, nlFr x e, []) := by kernel_rfl
theorem nl_round1 (x e : F64) : exC Try.prog [] 0 400 (loopN 1 Try.f123) (nlFr x e) [] (fun o F M => some (o, weaken nlM F, M)) = bif lt x k075 then some (.norm, nlFr (x * two) (e - one), []) else some (.exit 2, nlFr x e, []) := by kernel_rfl
theorem nl_goes0 (w0 : Base) : ∀ (n : Nat) (s : F64 × F64), (halve n s).1 = true → InGoes Try.prog 0 w0 (loopN 0 Try.f123) (nlFr s.1 s.2) [] (.exit 0) (nlFr (halve n s).2.1 (halve n s).2.2) []
  | 0, s, h => by cases h
  | n + 1, s, h => by
    have hr := nl_round0 s.1 s.2
    simp only [halve] at h ⊢
    cases hg : ge s.1 k15 with
    | true =>
      rw [hg] at h hr
      exact goes_round (goes_of_exC w0 hr) (nl_goes0 w0 n (s.1 / two, s.2 + one) h)
    | false =>
      rw [hg] at hr
      exact goes_last (fun h => by cases h) (goes_of_exC w0 hr)
theorem nl_goes1 (w0 : Base) : ∀ (n : Nat) (s : F64 × F64), (dbl n s).1 = true → InGoes Try.prog 0 w0 (loopN 1 Try.f123) (nlFr s.1 s.2) [] (.exit 2) (nlFr (dbl n s).2.1 (dbl n s).2.2) []
  | 0, s, h => by cases h
  | n + 1, s, h => by
    have hr := nl_round1 s.1 s.2
    simp only [dbl] at h ⊢
    cases hg : lt s.1 k075 with
    | true =>
      rw [hg] at h hr
      exact goes_round (goes_of_exC w0 hr) (nl_goes1 w0 n (s.1 * two, s.2 - one) h)
    | false =>
      rw [hg] at hr
      exact goes_last (fun h => by cases h) (goes_of_exC w0 hr)
theorem nl_loops : LoopsOk Try.prog 0 anyW nlLp 0 (Try.f123.body.getD .skip) := by
  intro j x hx F M o F' M' hl w0 _ _
  have hX : loopsAll (Try.f123.body.getD .skip) = [loopN 0 Try.f123, loopN 1 Try.f123, loopN 2 Try.f123] := by kernel_rfl
  rw [hX] at hx
  rw [Nat.zero_add] at hl
  unfold nlLp at hl
  split at hl
  · rename_i x y1 y2 e y4 y5 y6 y7 y8 y9 y10 y11 y12 y13 y14 y15 y16 y17 y18 y19 y20 y21 y22 y23 y24 y25 y26 y27 y28 y29 y30 y31 y32 y33 y34 y35 y36 y37 y38 y39 y40 y41 y42 y43 y44 y45
    simp only [Option.some.injEq, Prod.mk.injEq] at hl
    obtain ⟨hq, rfl, rfl, rfl⟩ := hl
    cases hx
    exact InGoes.weaken nlM (nl_goes0 w0 8 (x, e) hq)
  · rename_i x y1 y2 e y4 y5 y6 y7 y8 y9 y10 y11 y12 y13 y14 y15 y16 y17 y18 y19 y20 y21 y22 y23 y24 y25 y26 y27 y28 y29 y30 y31 y32 y33 y34 y35 y36 y37 y38 y39 y40 y41 y42 y43 y44 y45
    simp only [Option.some.injEq, Prod.mk.injEq] at hl
    obtain ⟨hq, rfl, rfl, rfl⟩ := hl
    cases hx
    exact InGoes.weaken nlM (nl_goes1 w0 8 (x, e) hq)
  · cases hl
theorem nl_far : ∀ j, farOff ≤ j → ∀ F M, nlLp j F M = none := by
  intro j hj F M
  unfold nlLp
  split
  · exact absurd hj (by decide)
  · exact absurd hj (by decide)
  · rfl

def logStep (u q : F64) (k : Int) : F64 := one / ki k + u * q
def logPoly (u : F64) : F64 := [25, 23, 21, 19, 17, 15, 13, 11, 9, 7, 5, 3, 1].foldl (logStep u) zero
def logS (x : F64) : F64 := (x - one) / (x + one)
def logEnd (x e : F64) : F64 := two * (logS x * logPoly (logS x * logS x)) + e * ln2
def nlA (x : F64) : Bool × (F64 × F64) := halve 8 (x, zero)
def nlB (x : F64) : Bool × (F64 × F64) := dbl 8 ((nlA x).2.1, (nlA x).2.2)
def natLog (x : F64) : F64 := logEnd (nlB x).2.1 (nlB x).2.2
def natOk (x : F64) : Bool := (nlA x).1 && (nlB x).1
theorem eNatLog_run (x : F64) (hx : natOk x = true) : runKM Try.prog [] [] [] (G := anyW) [] nlLp Try.f123 [.c (.fl .f64 x)] [] = some (.c (.fl .f64 (natLog x))) := by
  have h : runKM Try.prog [] [] [] (G := anyW) [] nlLp Try.f123 [.c (.fl .f64 x)] [] = bif (nlA x).1 then (bif (nlB x).1 then some (.c (.fl .f64 (natLog x))) else none) else none := by kernel_rfl
  unfold natOk at hx
  simp only [Bool.and_eq_true] at hx
  rw [h, hx.1, hx.2]; rfl
def eNatLog : Entry Try.prog := { f := 123, fn := shD fun x => (natOk x, .c (.fl .f64 (natLog x))), ok := okMD Try.func123 (by kernel_rfl) nl_far nl_loops fun x h => eNatLog_run x h }

def shI1m (v : AV) : List AV → List (List AC) → Option (Bool × AV)
  | [.c (.val (.int .i64 (-1)))], _ => some (true, v)
  | _, _ => none
def minf64 : F64 := c64 18442240474082181120
theorem eInfM_ok : EOk Try.prog 119 (shI1m (.c (.fl .f64 minf64))) := by
  intro args M r hr σ vs w _ ha
  unfold shI1m at hr
  split at hr
  · cases hr
    exact gives0 (E := [eFrombits]) Try.func119 (by kernel_rfl) rfl (show run Try.prog [eFrombits] Try.f119 [.c (.val (.int .i64 (-1)))] [] = some (.c (.fl .f64 minf64)) by kernel_rfl) ha
  · cases hr
def eInfM : Entry Try.prog := { f := 119, fn := shI1m (.c (.fl .f64 minf64)), ok := eInfM_ok }
def isInf1 (x : F64) : Bool := gt x (c64 9218868437227405311)
def shDI1 (g : F64 → Bool × AV) : List AV → List (List AC) → Option (Bool × AV)
  | [.c (.fl .f64 x0), .c (.val (.int .i64 1))], _ => some (g x0)
  | _, _ => none
theorem eIsInf1_ok : EOk Try.prog 122 (shDI1 fun x => rB (isInf1 x)) := by
  intro args M r hr σ vs w _ ha
  unfold shDI1 at hr
  split at hr
  · cases hr
    rename_i x
    exact gives0 (E := [eAbs]) Try.func122 (by kernel_rfl) rfl (show run Try.prog [eAbs] Try.f122 [.c (.fl .f64 x), .c (.val (.int .i64 1))] [] = some (.c (.sb (isInf1 x))) by kernel_rfl) ha
  · cases hr
def eIsInf1 : Entry Try.prog := { f := 122, fn := shDI1 fun x => rB (isInf1 x), ok := eIsInf1_ok }
def logOk (x : F64) : Bool := !(ne x x) && (!(lt x zero) && (!(eq x zero) && (!(isInf1 x) && natOk x)))
theorem eLog_run (x : F64) (hx : logOk x = true) : run Try.prog [eIsNaN, eNaN, eInfM, eIsInf1, eNatLog] Try.f79 [.c (.fl .f64 x)] [] = some (.c (.fl .f64 (natLog x))) := by
  have h : run Try.prog [eIsNaN, eNaN, eInfM, eIsInf1, eNatLog] Try.f79 [.c (.fl .f64 x)] [] = bif ne x x then some (.c (.fl .f64 none)) else bif lt x zero then some (.c (.fl .f64 none)) else bif eq x zero then some (.c (.fl .f64 minf64)) else
    bif isInf1 x then some (.c (.fl .f64 x)) else bif natOk x then some (.c (.fl .f64 (natLog x))) else none := by kernel_rfl
  unfold logOk at hx
  simp only [Bool.and_eq_true, Bool.not_eq_true'] at hx
  rw [h, hx.1, hx.2.1, hx.2.2.1, hx.2.2.2.1, hx.2.2.2.2]; rfl
def eLog : Entry Try.prog := { f := 79, fn := shD fun x => (logOk x, .c (.fl .f64 (natLog x))), ok := okD (E := [eIsNaN, eNaN, eInfM, eIsInf1, eNatLog]) Try.func79 (by kernel_rfl) fun x h => eLog_run x h }
def gapB (a b : F64) : F64 := bif lt a b then b - a else a - b
def eGapB : Entry Try.prog := { f := 30, fn := shDD fun a b => rD (gapB a b), ok := okDD (E := []) Try.func30 (by kernel_rfl) fun a b _ => by show _ = some (AV.c (.fl .f64 (gapB a b))); unfold gapB; rw [push_fl]; kernel_rfl }

-- burns
def tellR (x : F64) : AV := .tup [.fl .f32 (toldV (narrow x)), .sb (toldB (narrow x))]
theorem told_if (c : Bool) (x : F64) : (bif c then some (tellR x) else Zr) = some (.tup [.fl .f32 (bif c then toldV (narrow x) else c32 0), .sb (bif c then toldB (narrow x) else false)]) := by cases c <;> rfl
def ent3 (c : F32 → F32 → F32 → Bool) (q : F32 → F32 → F32 → Bool) (y : F32 → F32 → F32 → F64) (a b d : F32) : Bool × AV := (!(c a b d) || q a b d, .tup [.fl .f32 (bif c a b d then toldV (narrow (y a b d)) else c32 0), .sb (bif c a b d then toldB (narrow (y a b d)) else false)])
theorem ent3_run {c q : F32 → F32 → F32 → Bool} {y : F32 → F32 → F32 → F64} {X : Option AV} (a b d : F32) (hX : X = bif c a b d then (bif q a b d then some (tellR (y a b d)) else none) else Zr) (h : (ent3 c q y a b d).1 = true) : X = some (ent3 c q y a b d).2 := by
  unfold ent3 at h ⊢
  rw [hX, ← told_if]
  cases hc : c a b d with
  | false => rfl
  | true =>
    rw [hc] at h
    have h' : q a b d = true := h
    rw [h']; rfl
def boC (j b a : F32) : Bool := (aLength j && aLength b && aLength a) && !(lt b a)
def boD (b a : F32) : F64 := widen b / widen a
def boY (j b a : F32) : F64 := widen j * natLog (boD b a)
def boQ (j b a : F32) : Bool := logOk (boD b a) && fits (boY j b a)
theorem eBurnOf_run (j b a : F32) (h : (ent3 boC boQ boY j b a).1 = true) : run Try.prog [eAreLengths3, eLog, eNarrowed] Try.f28 [.c (.fl .f32 j), .c (.fl .f32 b), .c (.fl .f32 a)] [] = some (ent3 boC boQ boY j b a).2 := by
  have hr : run Try.prog [eAreLengths3, eLog, eNarrowed] Try.f28 [.c (.fl .f32 j), .c (.fl .f32 b), .c (.fl .f32 a)] [] = bif !(aLength j && aLength b && aLength a) then Zr else bif lt b a then Zr else bif logOk (boD b a) then (bif fits (boY j b a) then some (tellR (boY j b a)) else none) else none := by kernel_rfl
  refine ent3_run j b a (hr.trans ?_) h
  unfold boC boQ
  cases aLength j && aLength b && aLength a <;> cases lt b a <;> cases logOk (boD b a) <;> cases fits (boY j b a) <;> rfl
def eBurnOf : Entry Try.prog := { f := 28, fn := shSSS (ent3 boC boQ boY), ok := okSSS (E := [eAreLengths3, eLog, eNarrowed]) Try.func28 (by kernel_rfl) eBurnOf_run }
def fuC (j a c : F32) : Bool := (aLength j && aLength a) && aMass c
def fuY (j a c : F32) : F64 := widen a * (exponential (widen c / widen j) - one)
def fuQ (j a c : F32) : Bool := fits (fuY j a c)
theorem eFuel_run (j a c : F32) (h : (ent3 fuC fuQ fuY j a c).1 = true) : run Try.prog [eAreLengths2, eAMass, eExp, eNarrowed] Try.f27 [.c (.fl .f32 j), .c (.fl .f32 a), .c (.fl .f32 c)] [] = some (ent3 fuC fuQ fuY j a c).2 := by
  have hr : run Try.prog [eAreLengths2, eAMass, eExp, eNarrowed] Try.f27 [.c (.fl .f32 j), .c (.fl .f32 a), .c (.fl .f32 c)] [] = bif !(aLength j && aLength a) then Zr else bif !(aMass c) then Zr else bif fits (fuY j a c) then some (tellR (fuY j a c)) else none := by kernel_rfl
  refine ent3_run j a c (hr.trans ?_) h
  unfold fuC fuQ
  cases aLength j && aLength a <;> cases aMass c <;> rfl
def eFuel : Entry Try.prog := { f := 27, fn := shSSS (ent3 fuC fuQ fuY), ok := okSSS (E := [eAreLengths2, eAMass, eExp, eNarrowed]) Try.func27 (by kernel_rfl) eFuel_run }
def btC (j f b c : F32) : Bool := (aLength j && aLength f && aLength b) && aMass c
def btY (j f b c : F32) : F64 := (widen b * (one - exponential (-(widen c / widen j)))) / widen f
theorem eBurnTime_run (j f b c : F32) (h : (!(btC j f b c) || fits (btY j f b c)) = true) : run Try.prog [eAreLengths3, eAMass, eExp, eNarrowed] Try.f29 [.c (.fl .f32 j), .c (.fl .f32 f), .c (.fl .f32 b), .c (.fl .f32 c)] [] =
    some (.tup [.fl .f32 (bif btC j f b c then toldV (narrow (btY j f b c)) else c32 0), .sb (bif btC j f b c then toldB (narrow (btY j f b c)) else false)]) := by
  have hr : run Try.prog [eAreLengths3, eAMass, eExp, eNarrowed] Try.f29 [.c (.fl .f32 j), .c (.fl .f32 f), .c (.fl .f32 b), .c (.fl .f32 c)] [] = bif !(aLength j && aLength f && aLength b) then Zr else bif !(aMass c) then Zr else bif fits (btY j f b c) then some (tellR (btY j f b c)) else none := by kernel_rfl
  rw [hr, ← told_if]
  unfold btC at h ⊢
  cases h1 : aLength j && aLength f && aLength b
  · rfl
  · cases h2 : aMass c
    · rfl
    · rw [h1, h2] at h
      have h' : fits (btY j f b c) = true := h
      rw [h']; rfl
def eBurnTime : Entry Try.prog := { f := 29, fn := shSSSS fun j f b c => (!(btC j f b c) || fits (btY j f b c), .tup [.fl .f32 (bif btC j f b c then toldV (narrow (btY j f b c)) else c32 0), .sb (bif btC j f b c then toldB (narrow (btY j f b c)) else false)]), ok := okSSSS (E := [eAreLengths3, eAMass, eExp, eNarrowed]) Try.func29 (by kernel_rfl) eBurnTime_run }
def abL (f b t : F32) : F64 := widen b - widen f * widen t
def abD (f b t : F32) : F64 := widen b / abL f b t
def abG (j f b t : F32) : F64 := widen j * natLog (abD f b t)
def ZrA : AV := .tup [.fl .f32 (c32 0), .fl .f32 (c32 0), .sb false]
def abR (j f b t : F32) : AV := .tup [.fl .f32 (toldV (narrow (abG j f b t))), .fl .f32 (toldV (narrow (abL f b t))), .sb true]
theorem eAfter_raw (j f b t : F32) : runKM Try.prog [eAreLengths4, eLog, eNarrowed] [80] [] (G := anyW) [] noRule Try.f31 [.c (.fl .f32 j), .c (.fl .f32 f), .c (.fl .f32 b), .c (.fl .f32 t)] [] =
    bif !(aLength j && aLength f && aLength b && aLength t) then some ZrA else bif fits (abL f b t) then (bif !(gt (narrow (abL f b t)) (c32 0)) then some ZrA else bif logOk (abD f b t) then (bif fits (abG j f b t) then (bif !(toldB (narrow (abG j f b t))) then some ZrA else
      bif fits (abL f b t) then (bif !(toldB (narrow (abL f b t))) then some ZrA else some (abR j f b t)) else none) else none) else none) else none := by kernel_rfl

def abC (j f b t : F32) : Bool := aLength j && aLength f && aLength b && aLength t
def abP (f b t : F32) : Bool := gt (narrow (abL f b t)) (c32 0)
def abOk (j f b t : F32) : Bool := abC j f b t && (abP f b t && (toldB (narrow (abG j f b t)) && toldB (narrow (abL f b t))))
def abQ (j f b t : F32) : Bool := !(abC j f b t) || (fits (abL f b t) && (!(abP f b t) || (logOk (abD f b t) && fits (abG j f b t))))
def abV (j f b t : F32) : AV := .tup [.fl .f32 (bif abOk j f b t then toldV (narrow (abG j f b t)) else c32 0), .fl .f32 (bif abOk j f b t then toldV (narrow (abL f b t)) else c32 0), .sb (abOk j f b t)]
theorem eAfter_run (j f b t : F32) (h : abQ j f b t = true) : runKM Try.prog [eAreLengths4, eLog, eNarrowed] [80] [] (G := anyW) [] noRule Try.f31 [.c (.fl .f32 j), .c (.fl .f32 f), .c (.fl .f32 b), .c (.fl .f32 t)] [] = some (abV j f b t) := by
  rw [eAfter_raw]
  unfold abV
  have e1 : (aLength j && aLength f && aLength b && aLength t) = abC j f b t := rfl
  have e2 : gt (narrow (abL f b t)) (c32 0) = abP f b t := rfl
  rw [e1, e2]
  unfold abQ at h
  unfold abOk
  cases h1 : abC j f b t
  · rfl
  · rw [h1] at h
    simp only [Bool.not_true, Bool.false_or, Bool.and_eq_true] at h
    rw [h.1]
    cases h2 : abP f b t
    · rfl
    · have h3 := h.2
      rw [h2] at h3
      simp only [Bool.not_true, Bool.false_or, Bool.and_eq_true] at h3
      rw [h3.1, h3.2]
      cases toldB (narrow (abG j f b t))
      · rfl
      · cases toldB (narrow (abL f b t)) <;> rfl
def eAfter : Entry Try.prog := { f := 31, fn := shSSSS fun j f b t => (abQ j f b t, abV j f b t), ok := okMSSSS Try.func31 (by kernel_rfl) noRule_far (loopsOk_none 0 _) eAfter_run }

-- stages
def scR (full empty : F32) (above : F64) : F64 := (widen full + above) / (widen empty + above)
def scG (empty : F32) (above : F64) : Bool := gt (widen empty + above) zero
def scY (jet full empty : F32) (above : F64) : F64 := widen jet * natLog (scR full empty above)
def scOk (empty full jet : F32) (above : F64) : Bool := stageOk empty full jet && scG empty above
def scB1 (l full : F32) : F64 := widen l + widen full
def scS1 (a0 a1 a2 l : F32) : F64 := zero + scY a2 a1 a0 (widen l)
def scS2 (a0 a1 a2 b0 b1 b2 l : F32) : F64 := (zero + scY a2 a1 a0 (scB1 l b1)) + scY b2 b1 b0 (widen l)
theorem eStages2_raw (a0 a1 a2 b0 b1 b2 l : F32) : runKM Try.prog [eAMass, eValidStage, eLog, eNarrowed] [81] [] (G := anyW) [] noRule Try.f32 [.c (.slc 0 2), .c (.fl .f32 l)] [[.fl .f32 a0, .fl .f32 a1, .fl .f32 a2, .fl .f32 b0, .fl .f32 b1, .fl .f32 b2]] =
    bif !(aMass l) then Zr else bif !(stageOk a0 a1 a2) then Zr else bif !(scG a0 (scB1 l b1)) then Zr else bif logOk (scR a1 a0 (scB1 l b1)) then (bif !(stageOk b0 b1 b2) then Zr else bif !(scG b0 (widen l)) then Zr else bif logOk (scR b1 b0 (widen l)) then
      (bif fits (scS2 a0 a1 a2 b0 b1 b2 l) then some (tellR (scS2 a0 a1 a2 b0 b1 b2 l)) else none) else none) else none := by kernel_rfl
theorem eStages1_raw (a0 a1 a2 l : F32) : runKM Try.prog [eAMass, eValidStage, eLog, eNarrowed] [81] [] (G := anyW) [] noRule Try.f32 [.c (.slc 0 1), .c (.fl .f32 l)] [[.fl .f32 a0, .fl .f32 a1, .fl .f32 a2]] =
    bif !(aMass l) then Zr else bif !(stageOk a0 a1 a2) then Zr else bif !(scG a0 (widen l)) then Zr else bif logOk (scR a1 a0 (widen l)) then (bif fits (scS1 a0 a1 a2 l) then some (tellR (scS1 a0 a1 a2 l)) else none) else none := by kernel_rfl

def sc2C (a0 a1 a2 b0 b1 b2 l : F32) : Bool := aMass l && (scOk a0 a1 a2 (scB1 l b1) && scOk b0 b1 b2 (widen l))
def sc2Q (a0 a1 a2 b0 b1 b2 l : F32) : Bool := logOk (scR a1 a0 (scB1 l b1)) && (logOk (scR b1 b0 (widen l)) && fits (scS2 a0 a1 a2 b0 b1 b2 l))
def sc2V (a0 a1 a2 b0 b1 b2 l : F32) : AV := .tup [.fl .f32 (bif sc2C a0 a1 a2 b0 b1 b2 l then toldV (narrow (scS2 a0 a1 a2 b0 b1 b2 l)) else c32 0), .sb (bif sc2C a0 a1 a2 b0 b1 b2 l then toldB (narrow (scS2 a0 a1 a2 b0 b1 b2 l)) else false)]
theorem eStages2_run (a0 a1 a2 b0 b1 b2 l : F32) (h : sc2Q a0 a1 a2 b0 b1 b2 l = true) : runKM Try.prog [eAMass, eValidStage, eLog, eNarrowed] [81] [] (G := anyW) [] noRule Try.f32 [.c (.slc 0 2), .c (.fl .f32 l)] [[.fl .f32 a0, .fl .f32 a1, .fl .f32 a2, .fl .f32 b0, .fl .f32 b1, .fl .f32 b2]] = some (sc2V a0 a1 a2 b0 b1 b2 l) := by
  rw [eStages2_raw]
  unfold sc2V
  rw [← told_if]
  unfold sc2Q at h
  simp only [Bool.and_eq_true] at h
  rw [h.1, h.2.1, h.2.2]
  unfold sc2C scOk
  cases aMass l <;> cases stageOk a0 a1 a2 <;> cases scG a0 (scB1 l b1) <;> cases stageOk b0 b1 b2 <;> cases scG b0 (widen l) <;> rfl
def sc1C (a0 a1 a2 l : F32) : Bool := aMass l && scOk a0 a1 a2 (widen l)
def sc1Q (a0 a1 a2 l : F32) : Bool := logOk (scR a1 a0 (widen l)) && fits (scS1 a0 a1 a2 l)
def sc1V (a0 a1 a2 l : F32) : AV := .tup [.fl .f32 (bif sc1C a0 a1 a2 l then toldV (narrow (scS1 a0 a1 a2 l)) else c32 0), .sb (bif sc1C a0 a1 a2 l then toldB (narrow (scS1 a0 a1 a2 l)) else false)]
theorem eStages1_run (a0 a1 a2 l : F32) (h : sc1Q a0 a1 a2 l = true) : runKM Try.prog [eAMass, eValidStage, eLog, eNarrowed] [81] [] (G := anyW) [] noRule Try.f32 [.c (.slc 0 1), .c (.fl .f32 l)] [[.fl .f32 a0, .fl .f32 a1, .fl .f32 a2]] = some (sc1V a0 a1 a2 l) := by
  rw [eStages1_raw]
  unfold sc1V
  rw [← told_if]
  unfold sc1Q at h
  simp only [Bool.and_eq_true] at h
  rw [h.1, h.2]
  unfold sc1C scOk
  cases aMass l <;> cases stageOk a0 a1 a2 <;> cases scG a0 (widen l) <;> rfl
def shStages : List AV → List (List AC) → Option (Bool × AV)
  | [.c (.slc id 2), .c (.fl .f32 l)], M => match M[id]? with
    | some [.fl .f32 a0, .fl .f32 a1, .fl .f32 a2, .fl .f32 b0, .fl .f32 b1, .fl .f32 b2] => some (sc2Q a0 a1 a2 b0 b1 b2 l, sc2V a0 a1 a2 b0 b1 b2 l)
    | _ => none
  | [.c (.slc id 1), .c (.fl .f32 l)], M => match M[id]? with
    | some [.fl .f32 a0, .fl .f32 a1, .fl .f32 a2] => some (sc1Q a0 a1 a2 l, sc1V a0 a1 a2 l)
    | _ => none
  | _, _ => none
theorem eStages_ok : EOk Try.prog 32 shStages := by
  intro args M r hr σ vs w hM ha
  unfold shStages at hr
  split at hr
  · split at hr
    · rename_i id l M a0 a1 a2 b0 b1 b2 hid
      simp only [Option.some.injEq, Prod.mk.injEq] at hr
      obtain ⟨hq, rfl⟩ := hr
      exact givesM_slc Try.func32 (by kernel_rfl) noRule_far (loopsOk_none 0 _) (eStages2_run a0 a1 a2 b0 b1 b2 l hq) rfl rfl hM hid ha
    · cases hr
  · split at hr
    · rename_i id l M a0 a1 a2 hid
      simp only [Option.some.injEq, Prod.mk.injEq] at hr
      obtain ⟨hq, rfl⟩ := hr
      exact givesM_slc Try.func32 (by kernel_rfl) noRule_far (loopsOk_none 0 _) (eStages1_run a0 a1 a2 l hq) rfl rfl hM hid ha
    · cases hr
  · cases hr
def eStages : Entry Try.prog := { f := 32, fn := shStages, ok := eStages_ok }
end Go.Proofs.Ytlpahmefebgdlaa.Fx
/- Contract: PartingOf over 12 steps. No condition. -/
namespace Go.Proofs.Ytlpahmefebgdlaa.Fx
open Go Go.RowKit

theorem logarithm_run (x : F32) (hx : natOk (widen x) = true) : run Try.prog [eNatLog] Try.f135 [.c (.fl .f32 x)] [] = some (.c (.fl .f64 (natLog (widen x)))) := by
  have h : run Try.prog [eNatLog] Try.f135 [.c (.fl .f32 x)] [] = bif natOk (widen x) then some (.c (.fl .f64 (natLog (widen x)))) else none := by kernel_rfl
  rw [h, hx]; rfl
def eLogarithm : Entry Try.prog := { f := 135, fn := shS fun x => (natOk (widen x), .c (.fl .f64 (natLog (widen x)))), ok := okS (E := [eNatLog]) Try.func135 (by kernel_rfl) fun x hx => logarithm_run x hx }
def lnQ (x : F32) : Bool := !(ne x x) && (!(lt x (c32 0)) && (!(eq x (c32 0)) && (finS x && (natOk (widen x) && fits (natLog (widen x))))))
def lnV (x : F32) : F32 := narrow (natLog (widen x))
theorem logNum_run (x : F32) (hx : lnQ x = true) : runKM Try.prog [eNaN, eInfM, eIsFinite, eLogarithm] [] [] (G := anyW) [] noRule Try.f102 [.c (.fl .f32 x)] [] = some (.c (.fl .f32 (lnV x))) := by
  have h : runKM Try.prog [eNaN, eInfM, eIsFinite, eLogarithm] [] [] (G := anyW) [] noRule Try.f102 [.c (.fl .f32 x)] [] =
    bif ne x x then some (.c (.fl .f32 (narrow nn))) else bif lt x (c32 0) then some (.c (.fl .f32 (narrow nn))) else bif eq x (c32 0) then some (.c (.fl .f32 (narrow minf64))) else bif !(isFinite x) then some (.c (.fl .f32 x)) else bif natOk (widen x) then bif fits (natLog (widen x)) then some (.c (.fl .f32 (lnV x))) else none else none := by kernel_rfl
  unfold lnQ at hx
  simp only [Bool.and_eq_true, Bool.not_eq_true'] at hx
  obtain ⟨h1, h2, h3, h4, h5, h6⟩ := hx
  rw [h, h1, h2, h3, fin_isFinite, h4, h5, h6]; rfl
def eLogNum : Entry Try.prog := { f := 102, fn := shS fun x => (lnQ x, .c (.fl .f32 (lnV x))), ok := okMS Try.func102 (by kernel_rfl) noRule_far (loopsOk_none 0 _) fun x h => logNum_run x h }
-- PartingOf
def paA : F32 := c32 1006632960
def paB' (p : Sh) : Sh := ⟨p.x + paA, p.y + c32 0, p.u, p.v⟩
def paE (s h : F32) (p : Sh) : Sh := flS s h 12 p
def paL (s h : F32) (p : Sh) : F32 := long ((paE s h (paB' p)).x - (paE s h p).x) ((paE s h (paB' p)).y - (paE s h p).y)
def paLf (s h : F32) (p : Sh) : F64 := longF ((paE s h (paB' p)).x - (paE s h p).x) ((paE s h (paB' p)).y - (paE s h p).y)
def paR (s h : F32) (p : Sh) : F32 := paL s h p / long paA (c32 0)
def twelve32 : F32 := lit .f32 (floatOfInt .f32 12)
def paW (s h : F32) (p : Sh) : F32 := lnV (paR s h p) / (twelve32 * h)
def ptQ (s h : F32) (p : Sh) : Bool := aLength h && (flQ s h p 12 && (flQ s h (paB' p) 12 && (fits (paLf s h p) && (lnQ (paR s h p) && finS (paW s h p)))))
theorem parting_raw (s h : F32) (p : Sh) : runKM Try.prog [eCFin, eALength, eRunShip, ePlus, eLess, eLong, eLogNum, eTold] [81] [] (G := anyW) [] noRule Try.f48 [.c (.fl .f32 s), p.agg, .c (.cx .f32 paA (c32 0)), .c (.fl .f32 h), .c (.val (.int .i64 12))] [] =
    bif !(aLength h) then some (.tup [.fl .f32 (c32 0), .sb false]) else bif flQ s h p 12 then bif flQ s h (paB' p) 12 then bif fits (paLf s h p) then bif lnQ (paR s h p) then some (.tup [.fl .f32 (toldV (paW s h p)), .sb (toldB (paW s h p))]) else none else none else none else none := by kernel_rfl
def shPart (g : F32 → F32 → Sh → Bool × AV) : List AV → List (List AC) → Option (Bool × AV)
  | [.c (.fl .f32 s), .agg [.cx .f32 x y, .cx .f32 u v], .c (.cx .f32 (some 1006632960) (some 0)), .c (.fl .f32 h), .c (.val (.int .i64 (.ofNat 12)))], _ => some (g s h ⟨x, y, u, v⟩)
  | _, _ => none
theorem parting_run (s h : F32) (p : Sh) (hq : ptQ s h p = true) : runKM Try.prog [eCFin, eALength, eRunShip, ePlus, eLess, eLong, eLogNum, eTold] [81] [] (G := anyW) [] noRule Try.f48 [.c (.fl .f32 s), p.agg, .c (.cx .f32 paA (c32 0)), .c (.fl .f32 h), .c (.val (.int .i64 12))] [] =
    some (.tup [.fl .f32 (paW s h p), .sb true]) := by
  unfold ptQ at hq
  simp only [Bool.and_eq_true] at hq
  obtain ⟨h1, h2, h3, h4, h5, h6⟩ := hq
  rw [parting_raw, h1, h2, h3, h4, h5, (told_fin h6).1, (told_fin h6).2]; rfl
def ePart : Entry Try.prog := { f := 48, fn := shPart fun s h p => (ptQ s h p, .tup [.fl .f32 (paW s h p), .sb true]), ok := okMG (E := [eCFin, eALength, eRunShip, ePlus, eLess, eLong, eLogNum, eTold]) (I := [81]) Try.func48 (by kernel_rfl) noRule_far (loopsOk_none 0 _) (by
  intro args M q h
  unfold shPart at h
  split at h
  · rename_i s x y u v t
    simp only [Option.some.injEq, Prod.mk.injEq] at h
    obtain ⟨h1, rfl⟩ := h
    exact ⟨rfl, parting_run s t ⟨x, y, u, v⟩ h1⟩
  · cases h) }
end Go.Proofs.Ytlpahmefebgdlaa.Fx
