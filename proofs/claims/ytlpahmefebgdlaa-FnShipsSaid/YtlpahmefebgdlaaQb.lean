/- Texts put together: Ez, Ca, El, Eo, Ep. No condition. -/
import Derived.Test.YtlpahmefebgdlaaQa
import Derived.Test.YtlpahmefebgdlaaProg
import Derived.KernelRfl
import Derived.Still
/- The executor, third part: statements, regions, code and calls. No condition. -/
namespace Go.Proofs.Ytlpahmefebgdlaa.Fx
open Go Go.RowKit

/-- Where a run began: its world, and the blocks known then. -/
structure Base extends World where
  s0 : List (Nat × Nat)

/-- Where a run stands. -/
structure St (σ : List (Nat × Nat)) (n0 : Nat) (w0 : Base) (F : List AV) (M : List (List AC)) (a : Act) (w : World) : Prop where
  defers : a.defers = []
  frame : RepF σ F a.tmps.toList
  mem : MemOk σ M w
  ext : Ext w0.toWorld w
  own : ∀ (id : Nat) (b : Nat × Nat), n0 ≤ id → σ[id]? = some b → w0.heap.size ≤ b.1
  pre : w0.s0 <+: σ

def undefA : AV := .c (.val undef)

def putA (F : List AV) (dst : Option Tmp) (v : AV) : List AV :=
  match dst with
  | some d => F.set d v
  | none => F

theorem rep_put {σ : List (Nat × Nat)} {F : List AV} {a : Act} (h : RepF σ F a.tmps.toList) (dst : Option Tmp) {x : AV} {v : Value} (hx : Rep σ x v) : RepF σ (putA F dst x) (a.put dst v).tmps.toList := by
  cases dst with
  | none => exact h
  | some d =>
    simp only [putA, Act.put, Array.toList_setIfInBounds]
    exact h.set d hx

theorem St.put {σ : List (Nat × Nat)} {n0 : Nat} {w0 : Base} {F : List AV} {M : List (List AC)} {a : Act} {w w' : World} (h : St σ n0 w0 F M a w) (dst : Option Tmp) {x : AV} {v : Value} (hx : Rep σ x v) (hw : Ext w w') :
    St σ n0 w0 (putA F dst x) M (a.put dst v) w' :=
  ⟨by cases dst <;> exact h.defers, rep_put h.frame dst hx, h.mem.ext hw, h.ext.trans hw, h.own, h.pre⟩

/-- A slot that holds a bool, by the bool's value. -/
theorem St.know {σ : List (Nat × Nat)} {n0 : Nat} {w0 : Base} {F : List AV} {M : List (List AC)} {a : Act} {w : World} (h : St σ n0 w0 F M a w) {d : Nat} {b : Bool} (hd : F[d]? = some (.c (.sb b))) :
    St σ n0 w0 (F.set d (.c (.sb b))) M a w := by
  have : F.set d (.c (.sb b)) = F := by
    apply List.ext_getElem?
    intro i
    by_cases hi : d = i
    · subst hi
      rw [List.getElem?_set_self (List.getElem?_eq_some_iff.1 hd).1, hd]
    · rw [List.getElem?_set_ne hi]
  rw [this]; exact h

theorem MemOk.push {σ : List (Nat × Nat)} {M : List (List AC)} {w : World} (h : MemOk σ M w) {l : List AC} {vs : Array Value} {e : TypeId} {c : Nat} (hl : RepP σ l vs.toList) (hc : c ≤ vs.size) :
    MemOk (σ ++ [(w.heap.size, c)]) (M ++ [l]) (w.alloc (.cells vs e)) := by
  refine ⟨by simp [h.len], ?_, ?_⟩
  · rw [List.map_append, List.nodup_append]
    refine ⟨h.nodup, by simp, fun a ha b hb => ?_⟩
    simp only [List.map_cons, List.map_nil, List.mem_singleton] at hb
    subst hb
    obtain ⟨p, hp, rfl⟩ := List.mem_map.1 ha
    obtain ⟨i, hi⟩ := List.getElem?_of_mem hp
    have := h.lt hi
    omega
  · intro id b cs hb hcs
    by_cases hi : id < σ.length
    · rw [List.getElem?_append_left hi] at hb
      rw [List.getElem?_append_left (by rw [← h.len]; exact hi)] at hcs
      obtain ⟨vs', e', hw, hr, hs⟩ := h.at_ id b cs hb hcs
      refine ⟨vs', e', ?_, hr.mono _, hs⟩
      rw [Below.heap_alloc _ _ _ (h.lt hb)]; exact hw
    · have hid : id = σ.length := by
        have := (List.getElem?_eq_some_iff.1 hb).1
        simp at this; omega
      subst hid
      simp only [List.getElem?_append_right (Nat.le_refl _), Nat.sub_self, List.getElem?_cons_zero, Option.some.injEq] at hb
      rw [h.len] at hcs
      simp only [List.getElem?_append_right (Nat.le_refl _), Nat.sub_self, List.getElem?_cons_zero, Option.some.injEq] at hcs
      subst hb hcs
      exact ⟨vs, e, by show (w.heap.push _)[w.heap.size]? = _; rw [Array.getElem?_push_size], hl.mono _, hc⟩

theorem Ext.alloc (w : World) (o : Obj) : Ext w (w.alloc o) := (Below.refl _ _).alloc (Nat.le_refl _) _

theorem St.push {σ : List (Nat × Nat)} {n0 : Nat} {w0 : Base} {F : List AV} {M : List (List AC)} {a : Act} {w : World} (h : St σ n0 w0 F M a w) {l : List AC} {vs : Array Value} {e : TypeId} {c : Nat} (hl : RepL σ l vs.toList) (hc : c ≤ vs.size)
    (dst : Option Tmp) {x : AV} {v : Value} (hx : Rep (σ ++ [(w.heap.size, c)]) x v) : St (σ ++ [(w.heap.size, c)]) n0 w0 (putA F dst x) (M ++ [l]) (a.put dst v) (w.alloc (.cells vs e)) := by
  refine ⟨by cases dst <;> exact h.defers, rep_put (h.frame.mono _) dst hx, h.mem.push (.of hl) hc, h.ext.trans (Ext.alloc _ _), fun id b hid hb => ?_, h.pre.trans (List.prefix_append _ _)⟩
  by_cases hi : id < σ.length
  · rw [List.getElem?_append_left hi] at hb; exact h.own id b hid hb
  · have hid' : id = σ.length := by
      have := (List.getElem?_eq_some_iff.1 hb).1
      simp at this; omega
    subst hid'
    simp only [List.getElem?_append_right (Nat.le_refl _), Nat.sub_self, List.getElem?_cons_zero, Option.some.injEq] at hb
    subst hb
    exact h.ext.size

/-- Cells put over others, as a store does. -/
def overA (cs : List AC) (off : Nat) (l : List AC) : List AC := cs.take off ++ l ++ cs.drop (off + l.length)

theorem Ext.setRow {w0 w : World} (h : Ext w0 w) {b : Nat} (hb : w0.heap.size ≤ b) (cs : Array Value) : Ext w0 (w.setRow b cs) :=
  Below.trans h ⟨rfl, rfl, rfl, by simp, fun k hk => by
    simp only [World.setRow, Array.getElem?_modify]
    rw [if_neg (by omega)]⟩

theorem MemOk.setRow {σ : List (Nat × Nat)} {M : List (List AC)} {w : World} (h : MemOk σ M w) {id : Nat} {b : Nat × Nat} (hb : σ[id]? = some b) {l : List AC} {vs : Array Value} (hl : RepP σ l vs.toList) (hc : b.2 ≤ vs.size) :
    MemOk σ (M.set id l) (w.setRow b.1 vs) := by
  refine ⟨by simp [h.len], h.nodup, fun id' b' cs hb' hc' => ?_⟩
  by_cases hi : id = id'
  · subst hi
    rw [hb] at hb'
    cases hb'
    have hlt : id < M.length := by rw [← h.len]; exact (List.getElem?_eq_some_iff.1 hb).1
    rw [List.getElem?_set_self hlt] at hc'
    cases hc'
    obtain ⟨vs', e', hw, _⟩ := h.at_ id b M[id] hb (List.getElem?_eq_getElem hlt)
    exact ⟨vs, e', setRow_heap w b.1 vs' vs e' (0, 0) hw, hl, hc⟩
  · rw [List.getElem?_set_ne hi] at hc'
    obtain ⟨vs', e', hw, hr⟩ := h.at_ id' b' cs hb' hc'
    have hne : b.1 ≠ b'.1 := fun e => by
      have h1 : (σ.map (·.1))[id]? = some b.1 := by rw [List.getElem?_map, hb]; rfl
      have h2 : (σ.map (·.1))[id']? = some b'.1 := by rw [List.getElem?_map, hb']; rfl
      have := (List.getElem?_inj (List.getElem?_eq_some_iff.1 h1).1 h.nodup).1 (h1.trans (by rw [e, h2]))
      exact hi this
    refine ⟨vs', e', ?_, hr⟩
    simp only [World.setRow, Array.getElem?_modify]
    rw [if_neg hne]; exact hw

/-- The parts of a slice literal, all given in order, of one cell each. -/
def denseA (F : List AV) : Nat → List (Nat × Operand) → Option (List AC)
  | _, [] => some []
  | k, (i, x) :: rest =>
    match evA F x, denseA F (k + 1) rest with
    | .c y, some r => if i = k ∧ oneA y = true then some (y :: r) else none
    | _, _ => none

theorem denseA_sound {σ : List (Nat × Nat)} {F : List AV} {a : Act} (hF : RepF σ F a.tmps.toList) : ∀ (ps : List (Nat × Operand)) (k : Nat) (l : List AC), denseA F k ps = some l →
    ∃ vs : List Value, (ps.map fun x => (x.1, a.eval x.2)) = (vs.zipIdx k).map (fun x => (x.2, x.1)) ∧ RepL σ l vs ∧ vs.length = ps.length ∧ ∀ v ∈ vs, v.cells = #[v]
  | [], k, l, h => by cases h; exact ⟨[], rfl, .nil, rfl, fun v hv => by cases hv⟩
  | (i, x) :: rest, k, l, h => by
    simp only [denseA] at h
    split at h
    · rename_i y r hy hr
      split at h
      · rename_i hc
        cases h
        obtain ⟨vs, h1, h2, h3, h4⟩ := denseA_sound hF rest (k + 1) r hr
        have hx := rep_ev hF x
        rw [hy] at hx
        refine ⟨a.eval x :: vs, ?_, .cons hx h2, by simp [h3], fun v hv => ?_⟩
        · simp only [List.map_cons, List.zipIdx_cons, h1, hc.1]
        · rcases List.mem_cons.1 hv with rfl | hv
          · exact (oneA_cells hx hc.2).1
          · exact h4 v hv
      · cases h
    · cases h

variable {R : Type}

/-- A statement. -/
def stA (P : Program) (E : List (Entry P)) (n0 : Nat) (op : Op) (dst : Option Tmp) (F : List AV) (M : List (List AC)) (K : List AV → List (List AC) → Option R) : Option R :=
  match op with
  | .pick c x y => match evA F c with
    | .c (.sb b) => cond b (K (putA F dst (evA F x)) M) (K (putA F dst (evA F y)) M)
    | _ => none
  | .box _ x => match cellsOk (evA F x) with
    | some l => K (putA F dst (.c (.ptr M.length 0))) (M ++ [l])
    | none => none
  | .alloc t => match (P.info? t).bind (·.zero) with
    | some z => K (putA F dst (.c (.ptr M.length 0))) (M ++ [z.cells.toList.map toC])
    | none => none
  | .store t x y => match evA F x, cellsOk (evA F y), P.info? t with
    | .c (.ptr id off), some l, some i => match M[id]? with
      | some cs => if n0 ≤ id ∧ l.length = i.size ∧ off + l.length ≤ cs.length then K (putA F dst undefA) (M.set id (overA cs off l)) else none
      | none => none
    | _, _, _ => none
  | .buildSlice t len parts => match P.underlying t with
    | some (.slice e) => match P.info? e, denseA F 0 parts.toList with
      | some ie, some l => if ie.size = 1 ∧ ie.zero.isSome = true ∧ l.length = len ∧ 0 < len ∧ len ≤ 1000 then K (putA F dst (.c (.slc M.length len))) (M ++ [l]) else none
      | _, _ => none
    | _ => none
  | op => match opA P E F M op with
    | some (ok, v) => cond ok (K (putA F dst v) M) none
    | none => none

/-- From every state that fits, the operation leads to states that fit. -/
def OpGoes (P : Program) (n0 : Nat) (w0 : Base) (op : Op) (dst : Option Tmp) (F : List AV) (M : List (List AC)) (F' : List AV) (M' : List (List AC)) : Prop :=
  ∀ (σ : List (Nat × Nat)) (a : Act) (w : World), St σ n0 w0 F M a w → ∀ (ty : TypeId) (pos : String) (after : Array Edge) (gd : Option (Nat × Bool)) (next : Act → World → Prop) (Q : Exit → Act → World → Prop),
    (∀ σ' a' w', St σ' n0 w0 F' M' a' w' → next a' w') → Oper.wp P ⟨dst, op, ty, pos, after, gd⟩ a w next Q

theorem goes_val {P : Program} {n0 : Nat} {op : Op} {dst : Option Tmp} {F' : List AV} {M' : List (List AC)} {w0 : Base} {a : Act} {w w' : World} {v : Value} {σ' : List (Nat × Nat)}
    (he : ∀ ty pos after gd, (execOp a.eval ⟨dst, op, ty, pos, after, gd⟩).run P w = .ok (.value v) w') (hs : St σ' n0 w0 F' M' (a.put dst v) w') :
    ∀ (ty : TypeId) (pos : String) (after : Array Edge) (gd : Option (Nat × Bool)) (next : Act → World → Prop) (Q : Exit → Act → World → Prop),
      (∀ σ' a' w', St σ' n0 w0 F' M' a' w' → next a' w') → Oper.wp P ⟨dst, op, ty, pos, after, gd⟩ a w next Q := by
  intro ty pos after gd next Q hn
  unfold Oper.wp
  rw [he]
  exact hn _ _ _ hs

theorem new_id {σ : List (Nat × Nat)} {M : List (List AC)} {w : World} {c : Nat} (h : MemOk σ M w) : (σ ++ [(w.heap.size, c)])[M.length]? = some (w.heap.size, c) := by
  rw [← h.len, List.getElem?_append_right (Nat.le_refl _), Nat.sub_self]; rfl

theorem stA_sound {P : Program} {E : List (Entry P)} {n0 : Nat} {op : Op} {dst : Option Tmp} {F : List AV} {M : List (List AC)} {K : List AV → List (List AC) → Option R} {r : R} (w0 : Base)
    (h : stA P E n0 op dst F M K = some r) : ∃ F' M', K F' M' = some r ∧ OpGoes P n0 w0 op dst F M F' M' := by
  have viaOp : (match opA P E F M op with
    | some (ok, v) => cond ok (K (putA F dst v) M) none
    | none => none) = some r → ∃ F' M', K F' M' = some r ∧ OpGoes P n0 w0 op dst F M F' M' := by
    intro h
    split at h
    · rename_i ok v ho
      cases ok with
      | false => cases h
      | true => exact ⟨_, _, h, fun σ a w hS ty pos after gd next Q hn => opA_sound ho hS.frame hS.mem fun u w' hu hw => hn _ _ _ (hS.put dst hu hw)⟩
    · cases h
  unfold stA at h
  split at h
  · rename_i c x y
    split at h
    · rename_i b eb
      cases b with
      | true =>
        refine ⟨_, _, h, fun σ a w hS => ?_⟩
        have hc := rep_ev hS.frame c
        rw [eb] at hc
        have hc' : a.eval c = .bool true := hc
        exact goes_val (v := a.eval x) (fun ty pos after gd => by simp [execOp, hc', asBool]) (hS.put dst (rep_ev hS.frame x) (Ext.refl _))
      | false =>
        refine ⟨_, _, h, fun σ a w hS => ?_⟩
        have hc := rep_ev hS.frame c
        rw [eb] at hc
        have hc' : a.eval c = .bool false := hc
        exact goes_val (v := a.eval y) (fun ty pos after gd => by simp [execOp, hc', asBool]) (hS.put dst (rep_ev hS.frame y) (Ext.refl _))
    · cases h
  · rename_i t x
    split at h
    · rename_i l hl
      exact ⟨_, _, h, fun σ a w hS => goes_val (v := .pointer (some ⟨w.heap.size, 0, none⟩)) (w' := w.alloc (.cells (a.eval x).cells t)) (fun ty pos after gd => rfl)
        (hS.push (c := 0) (cellsOk_sound hl (rep_ev hS.frame x)).1 (Nat.zero_le _) dst ⟨(w.heap.size, 0), new_id hS.mem, rfl⟩)⟩
    · cases h
  · rename_i t
    split at h
    · rename_i z hz
      refine ⟨_, _, h, fun σ a w hS => goes_val (v := .pointer (some ⟨w.heap.size, 0, none⟩)) (w' := w.alloc (.cells z.cells t)) (fun ty pos after gd => ?_)
        (hS.push (c := 0) (rep_map_toC σ _) (Nat.zero_le _) dst ⟨(w.heap.size, 0), new_id hS.mem, rfl⟩)⟩
      cases hi : P.info? t with
      | none => simp [hi] at hz
      | some i =>
        simp only [hi, Option.bind_some] at hz
        simp [execOp, Instr.alloc, zeroValue, typeInfo, hi, hz, newVar, newRow]
    · cases h
  · rename_i t x y
    split at h
    · rename_i id off l i ex hl hi
      split at h
      · rename_i cs hcs
        split at h
        · rename_i hc
          obtain ⟨hid, hlen, hle⟩ := hc
          refine ⟨_, _, h, fun σ a w hS ty pos after gd next Q hn => ?_⟩
          have hx := rep_ev hS.frame x
          rw [ex] at hx
          obtain ⟨b, hb, hv⟩ := hx
          obtain ⟨vs, e, hw, hP, hcap⟩ := hS.mem.at_ id b cs hb hcs
          have hPl := hP.le
          obtain ⟨kk, hvs⟩ := hP
          obtain ⟨hl1, hl2⟩ := cellsOk_sound hl (rep_ev hS.frame y)
          have e1 : l.length = (a.eval y).cells.toList.length := hl1.length
          have e3 : (a.eval y).cells.toList.length = (a.eval y).cells.size := by simp
          have hst := run_storeCells_at (P := P) b.1 off e (a.eval y).cells.toList 0 vs w hw (by simp only [Array.length_toList] at hPl ⊢; omega) hl2
          simp only [Nat.add_zero] at hst
          have hrun : (storeVar t ⟨b.1, off, none⟩ (a.eval y)).run P w = .ok () (w.setRow b.1 (vs.toList.take off ++ (a.eval y).cells.toList ++ vs.toList.drop (off + (a.eval y).cells.toList.length)).toArray) := by
            have : ¬ (a.eval y).cells.size ≠ i.size := by omega
            simp only [storeVar, sizeOf, typeInfo, Sem.run_bind, run_program, hi, Sem.run_pure, Result.andThen_ok]
            rw [if_neg this]
            simpa using hst
          have hover : RepP σ (overA cs off l) (vs.toList.take off ++ (a.eval y).cells.toList ++ vs.toList.drop (off + (a.eval y).cells.toList.length)) := by
            refine ⟨kk, ?_⟩
            have h9 := ((hvs.take off).append hl1).append (hvs.drop (off + (a.eval y).cells.toList.length))
            rw [List.take_append_of_le_length (by omega), List.drop_append_of_le_length (by omega), ← List.append_assoc] at h9
            unfold overA
            rw [e1]
            exact h9
          have hsz : (vs.toList.take off ++ (a.eval y).cells.toList ++ vs.toList.drop (off + (a.eval y).cells.toList.length)).toArray.size = vs.size := by
            simp only [Array.length_toList] at hPl
            simp
            simp at e1
            omega
          unfold Oper.wp
          have : (execOp a.eval ⟨dst, .store t x y, ty, pos, after, gd⟩).run P w = .ok .skip (w.setRow b.1 (vs.toList.take off ++ (a.eval y).cells.toList ++ vs.toList.drop (off + (a.eval y).cells.toList.length)).toArray) := by
            simp only [execOp, hv, Instr.storeAt, Instr.sureAddr, Sem.run_bind, Sem.run_pure, Result.andThen_ok, hrun]
          rw [this]
          exact hn σ _ _ ⟨by cases dst <;> exact hS.defers, rep_put hS.frame dst rfl, hS.mem.setRow hb (by simpa using hover) (by rw [hsz]; exact hcap), hS.ext.setRow (hS.own id b hid hb) _, hS.own, hS.pre⟩
        · cases h
      · cases h
    · cases h
  · rename_i t len parts
    split at h
    · rename_i e hu
      split at h
      · rename_i ie l hie hl
        split at h
        · rename_i hc
          obtain ⟨h1, h2, h3, h4, h5⟩ := hc
          obtain ⟨z, hz⟩ := Option.isSome_iff_exists.1 h2
          refine ⟨_, _, h, fun σ a w hS => ?_⟩
          obtain ⟨vs, hp, hr, hvl, hcell⟩ := denseA_sound hS.frame _ _ _ hl
          have hvl2 : vs.length = len := by rw [← hr.length]; exact h3
          have hfill := Great.fill_flat vs ((Array.range (len * ie.size)).map (z.cells[· % z.cells.size]!)) hcell (by simp [h1, hvl2])
          have hrun := run_buildSlice (P := P) w t e len (parts.map fun (i, x) => (i, a.eval x)) vs.toArray ie z hu hie hz (by rw [h1]; omega) (by rw [h1]; omega) (by
            rw [Array.toList_map, h1] at *
            have : (List.map (fun x : Nat × Operand => (x.1, a.eval x.2)) parts.toList) = (vs.zipIdx 0).map (fun x => (x.2, x.1)) := hp
            show Instr.fill _ _ (List.map (fun x : Nat × Operand => (x.1, a.eval x.2)) parts.toList) = _
            rw [this]; exact hfill)
          exact goes_val (v := .slice (some ⟨w.heap.size, 0, none⟩) len len) (w' := w.alloc (.cells vs.toArray e)) (fun ty pos after gd => run_v hrun)
            (hS.push (vs := vs.toArray) (c := len) hr (by simp [hvl2]) dst ⟨(w.heap.size, len), new_id hS.mem, Nat.le_refl _, rfl⟩)
        · cases h
      · cases h
    · cases h
  · exact viaOp h

/-- A region, in the text's order. -/
def regA (P : Program) (E : List (Entry P)) (n0 : Nat) (ops : Array Oper) : List Oper → List AV → List (List AC) → (List AV → List (List AC) → Option R) → Option R
  | [], F, M, K => K F M
  | o :: rest, F, M, K =>
    match o.guard with
    | none => stA P E n0 o.op o.dst F M fun F M => regA P E n0 ops rest F M K
    | some (j, want) =>
      match (ops[j]?).bind (·.dst) with
      | none => none
      | some d =>
        match F[d]? with
        | some (.c (.sb b)) =>
          cond b
            (cond want (stA P E n0 o.op o.dst (F.set d (.c (.sb true))) M fun F M => regA P E n0 ops rest F M K)
              (regA P E n0 ops rest (putA (F.set d (.c (.sb true))) o.dst undefA) M K))
            (cond want (regA P E n0 ops rest (putA (F.set d (.c (.sb false))) o.dst undefA) M K)
              (stA P E n0 o.op o.dst (F.set d (.c (.sb false))) M fun F M => regA P E n0 ops rest F M K))
        | some (.c (.val (.tuple _))) => regA P E n0 ops rest (putA F o.dst undefA) M K
        | _ => none

/-- From every state that fits, the operations lead to states that fit. -/
def ListGoes (P : Program) (n0 : Nat) (w0 : Base) (ops : Array Oper) (l : List Oper) (F : List AV) (M : List (List AC)) (F' : List AV) (M' : List (List AC)) : Prop :=
  ∀ (σ : List (Nat × Nat)) (a : Act) (w : World), St σ n0 w0 F M a w → ∀ (Q : Exit → Act → World → Prop), (∀ σ' a' w', St σ' n0 w0 F' M' a' w' → Q .normal a' w') → wpList P ops Q l a w

theorem yielded_of {σ : List (Nat × Nat)} {n0 : Nat} {w0 : Base} {F : List AV} {M : List (List AC)} {a : Act} {w : World} (hS : St σ n0 w0 F M a w) {ops : Array Oper} {j d : Nat} (hd : (ops[j]?).bind (·.dst) = some d) :
    (∀ b, F[d]? = some (.c (.sb b)) → yielded ops a.tmps j = some b) ∧ (∀ vs, F[d]? = some (.c (.val (.tuple vs))) → yielded ops a.tmps j = none) := by
  refine ⟨fun b hb => ?_, fun vs hb => ?_⟩
  · obtain ⟨v, hv, hr⟩ := hS.frame.get? hb
    have hr' : v = .bool b := hr
    subst hr'
    have hv' : a.tmps[d]? = some (.bool b) := by simpa using hv
    simp only [yielded, hd, Option.bind_some, hv']
  · obtain ⟨v, hv, hr⟩ := hS.frame.get? hb
    have hr' : v = .tuple vs := hr
    subst hr'
    have hv' : a.tmps[d]? = some (.tuple vs) := by simpa using hv
    simp only [yielded, hd, Option.bind_some, hv']

theorem regA_sound {P : Program} {E : List (Entry P)} {n0 : Nat} {ops : Array Oper} {K : List AV → List (List AC) → Option R} {r : R} (w0 : Base) : ∀ (l : List Oper) {F : List AV} {M : List (List AC)},
    regA P E n0 ops l F M K = some r → ∃ F' M', K F' M' = some r ∧ ListGoes P n0 w0 ops l F M F' M'
  | [], F, M, h => ⟨F, M, h, fun _ _ _ hS _ hQ => hQ _ _ _ hS⟩
  | o :: rest, F, M, h => by
    have skip : ∀ {F1 : List AV}, (∀ σ a w, St σ n0 w0 F M a w → Region.wanted o (yielded ops a.tmps) = false ∧ St σ n0 w0 F1 M a w) → regA P E n0 ops rest (putA F1 o.dst undefA) M K = some r →
        ∃ F' M', K F' M' = some r ∧ ListGoes P n0 w0 ops (o :: rest) F M F' M' := by
      intro F1 hy h1
      obtain ⟨F', M', hK, hw⟩ := regA_sound w0 rest h1
      refine ⟨F', M', hK, fun σ a w hS Q hQ => ?_⟩
      obtain ⟨hn, hS1⟩ := hy σ a w hS
      unfold wpList
      rw [if_neg (by rw [hn]; decide)]
      exact hw σ _ _ (hS1.put o.dst (x := undefA) (v := undef) rfl (Ext.refl _)) Q hQ
    have go : ∀ {F1 : List AV}, (∀ σ a w, St σ n0 w0 F M a w → Region.wanted o (yielded ops a.tmps) = true ∧ St σ n0 w0 F1 M a w) → (stA P E n0 o.op o.dst F1 M fun F M => regA P E n0 ops rest F M K) = some r →
        ∃ F' M', K F' M' = some r ∧ ListGoes P n0 w0 ops (o :: rest) F M F' M' := by
      intro F1 hy h1
      obtain ⟨F2, M2, hK2, hop⟩ := stA_sound w0 h1
      obtain ⟨F', M', hK, hrest⟩ := regA_sound w0 rest hK2
      refine ⟨F', M', hK, fun σ a w hS Q hQ => ?_⟩
      obtain ⟨hn, hS1⟩ := hy σ a w hS
      unfold wpList
      rw [if_pos hn]
      exact .inl (hop σ a w hS1 o.type o.pos o.after o.guard _ _ fun σ' a' w' hs => hrest σ' a' w' hs Q hQ)
    simp only [regA] at h
    split at h
    · rename_i hg
      exact go (fun σ a w hS => ⟨by simp [Region.wanted, hg], hS⟩) h
    · rename_i j want hg
      split at h
      · cases h
      · rename_i d hd
        split at h
        · rename_i b hb
          have hy : ∀ σ a w, St σ n0 w0 F M a w → yielded ops a.tmps j = some b := fun σ a w hS => (yielded_of hS hd).1 b hb
          cases b with
          | true =>
            cases want with
            | true => exact go (fun σ a w hS => ⟨by simp [Region.wanted, hg, hy σ a w hS], hS.know hb⟩) h
            | false => exact skip (fun σ a w hS => ⟨by simp [Region.wanted, hg, hy σ a w hS], hS.know hb⟩) h
          | false =>
            cases want with
            | true => exact skip (fun σ a w hS => ⟨by simp [Region.wanted, hg, hy σ a w hS], hS.know hb⟩) h
            | false => exact go (fun σ a w hS => ⟨by simp [Region.wanted, hg, hy σ a w hS], hS.know hb⟩) h
        · rename_i vs hb
          exact skip (fun σ a w hS => ⟨by simp [Region.wanted, hg, (yielded_of hS hd).2 vs hb], hS⟩) h
        · cases h

inductive Out where
  | norm
  | exit (id : Nat)
  | ret

def Out.toExit : Out → Exit
  | .norm => .normal
  | .exit id => .exit id
  | .ret => .ret

/-- Code; n rounds deep at most. -/
def exC (P : Program) (E : List (Entry P)) (n0 : Nat) : Nat → Code → List AV → List (List AC) → (Out → List AV → List (List AC) → Option R) → Option R
  | 0, _, _, _, _ => none
  | n + 1, c, F, M, K =>
    match c with
    | .skip => K .norm F M
    | .region _ ops draw => cond draw none (regA P E n0 ops ops.toList F M fun F M => K .norm F M)
    | .seq x y => exC P E n0 n x F M fun o F M =>
      match o with
      | .norm => exC P E n0 n y F M K
      | .exit id => K (.exit id) F M
      | .ret => K .ret F M
    | .cond (.tmp t) x y =>
      match F[t]? with
      | some (.c (.sb b)) => cond b (exC P E n0 n x (F.set t (.c (.sb true))) M K) (exC P E n0 n y (F.set t (.c (.sb false))) M K)
      | _ => none
    | .cond (.const (.bool b)) x y => cond b (exC P E n0 n x F M K) (exC P E n0 n y F M K)
    | .block id x => exC P E n0 n x F M fun o F M =>
      match o with
      | .norm => K .norm F M
      | .exit i => cond (i == id) (K .norm F M) (K (.exit i) F M)
      | .ret => K .ret F M
    | .loop x => exC P E n0 n x F M fun o F M =>
      match o with
      | .norm => exC P E n0 n (.loop x) F M K
      | .exit id => K (.exit id) F M
      | .ret => K .ret F M
    | .exit id => K (.exit id) F M
    | .ret => K .ret F M
    | _ => none

def CodeGoes (P : Program) (n0 : Nat) (w0 : Base) (c : Code) (F : List AV) (M : List (List AC)) (o : Out) (F' : List AV) (M' : List (List AC)) : Prop :=
  ∀ (σ : List (Nat × Nat)) (a : Act) (w : World), St σ n0 w0 F M a w → ∀ (Q : Exit → Act → World → Prop), (∀ σ' a' w', St σ' n0 w0 F' M' a' w' → Q o.toExit a' w') → c.wp P Q a w

theorem exC_sound {P : Program} {E : List (Entry P)} {n0 : Nat} (w0 : Base) : ∀ (n : Nat),
    (∀ (c : Code) (F : List AV) (M : List (List AC)) (K : Out → List AV → List (List AC) → Option R) (r : R), exC P E n0 n c F M K = some r → ∃ o F' M', K o F' M' = some r ∧ CodeGoes P n0 w0 c F M o F' M') ∧
    (∀ (x : Code) (F : List AV) (M : List (List AC)) (K : Out → List AV → List (List AC) → Option R) (r : R), exC P E n0 n (.loop x) F M K = some r → ∃ o F' M', K o F' M' = some r ∧ ∃ N, ∀ (σ : List (Nat × Nat)) (a : Act) (w : World), St σ n0 w0 F M a w →
      ∀ (Q : Exit → Act → World → Prop), (∀ σ' a' w', St σ' n0 w0 F' M' a' w' → Q o.toExit a' w') → Code.rounds P x Q N a w)
  | 0 => ⟨(fun _ _ _ _ _ h => by cases h), (fun _ _ _ _ _ h => by cases h)⟩
  | n + 1 => by
    obtain ⟨ih1, ih2⟩ := exC_sound w0 n
    have hloop : ∀ (x : Code) (F : List AV) (M : List (List AC)) (K : Out → List AV → List (List AC) → Option R) (r : R), exC P E n0 (n + 1) (.loop x) F M K = some r → ∃ o F' M', K o F' M' = some r ∧ ∃ N, ∀ (σ : List (Nat × Nat)) (a : Act) (w : World), St σ n0 w0 F M a w →
      ∀ (Q : Exit → Act → World → Prop), (∀ σ' a' w', St σ' n0 w0 F' M' a' w' → Q o.toExit a' w') → Code.rounds P x Q N a w := by
      intro x F M K r h
      simp only [exC] at h
      obtain ⟨o, F1, M1, hK1, hx⟩ := ih1 x F M _ r h
      cases o with
      | norm =>
        obtain ⟨o, F', M', hK, N, hN⟩ := ih2 x F1 M1 K r hK1
        refine ⟨o, F', M', hK, N + 1, fun σ a w hS Q hQ => ?_⟩
        exact hx σ a w hS _ fun σ' a' w' hs => hN σ' a' w' hs Q hQ
      | exit id => exact ⟨.exit id, F1, M1, hK1, 1, fun σ a w hS Q hQ => hx σ a w hS _ fun σ' a' w' hs => hQ σ' a' w' hs⟩
      | ret => exact ⟨.ret, F1, M1, hK1, 1, fun σ a w hS Q hQ => hx σ a w hS _ fun σ' a' w' hs => hQ σ' a' w' hs⟩
    refine ⟨fun c F M K r h => ?_, hloop⟩
    cases c with
    | skip => exact ⟨.norm, F, M, h, fun σ a w hS Q hQ => wp_skip (hQ σ a w hS)⟩
    | region id ops draw =>
      simp only [exC] at h
      cases draw with
      | true => cases h
      | false =>
        obtain ⟨F', M', hK, hl⟩ := regA_sound w0 ops.toList h
        exact ⟨.norm, F', M', hK, fun σ a w hS Q hQ => wp_region_list (hl σ a w hS Q hQ)⟩
    | seq x y =>
      simp only [exC] at h
      obtain ⟨o, F1, M1, hK1, hx⟩ := ih1 x F M _ r h
      cases o with
      | norm =>
        obtain ⟨o, F', M', hK, hy⟩ := ih1 y F1 M1 K r hK1
        exact ⟨o, F', M', hK, fun σ a w hS Q hQ => wp_seq (hx σ a w hS _ fun σ' a' w' hs => hy σ' a' w' hs Q hQ)⟩
      | exit id => exact ⟨.exit id, F1, M1, hK1, fun σ a w hS Q hQ => wp_seq (hx σ a w hS _ fun σ' a' w' hs => hQ σ' a' w' hs)⟩
      | ret => exact ⟨.ret, F1, M1, hK1, fun σ a w hS Q hQ => wp_seq (hx σ a w hS _ fun σ' a' w' hs => hQ σ' a' w' hs)⟩
    | cond c x y =>
      cases c with
      | tmp t =>
        simp only [exC] at h
        split at h
        · rename_i b hb
          have hev : ∀ σ a w, St σ n0 w0 F M a w → a.eval (.tmp t) = .bool b := by
            intro σ a w hS
            obtain ⟨v, hv, hr⟩ := hS.frame.get? hb
            have hr' : v = .bool b := hr
            subst hr'
            have hv' : a.tmps[t]? = some (.bool b) := by simpa using hv
            simp [Act.eval, Array.getD_eq_getD_getElem?, hv']
          cases b with
          | true =>
            obtain ⟨o, F', M', hK, hx⟩ := ih1 x _ M K r h
            exact ⟨o, F', M', hK, fun σ a w hS Q hQ => wp_cond_true (hev σ a w hS) (hx σ a w (hS.know hb) Q hQ)⟩
          | false =>
            obtain ⟨o, F', M', hK, hx⟩ := ih1 y _ M K r h
            exact ⟨o, F', M', hK, fun σ a w hS Q hQ => wp_cond_false (hev σ a w hS) (hx σ a w (hS.know hb) Q hQ)⟩
        · cases h
      | const v =>
        cases v with
        | bool b =>
          simp only [exC] at h
          cases b with
          | true =>
            obtain ⟨o, F', M', hK, hx⟩ := ih1 x _ M K r h
            exact ⟨o, F', M', hK, fun σ a w hS Q hQ => wp_cond_true rfl (hx σ a w hS Q hQ)⟩
          | false =>
            obtain ⟨o, F', M', hK, hx⟩ := ih1 y _ M K r h
            exact ⟨o, F', M', hK, fun σ a w hS Q hQ => wp_cond_false rfl (hx σ a w hS Q hQ)⟩
        | _ => cases h
      | global g => cases h
      | func f => cases h
    | block id x =>
      simp only [exC] at h
      obtain ⟨o, F1, M1, hK1, hx⟩ := ih1 x F M _ r h
      cases o with
      | norm => exact ⟨.norm, F1, M1, hK1, fun σ a w hS Q hQ => wp_block (hx σ a w hS _ fun σ' a' w' hs => hQ σ' a' w' hs)⟩
      | exit i =>
        by_cases hi : i = id
        · subst hi
          simp only [beq_self_eq_true, cond_true] at hK1
          exact ⟨.norm, F1, M1, hK1, fun σ a w hS Q hQ => wp_block (hx σ a w hS _ fun σ' a' w' hs => by simp only [Out.toExit, Exit.inBlock, if_true]; exact hQ σ' a' w' hs)⟩
        · have hb : (i == id) = false := by simpa using hi
          simp only [hb, cond_false] at hK1
          exact ⟨.exit i, F1, M1, hK1, fun σ a w hS Q hQ => wp_block (hx σ a w hS _ fun σ' a' w' hs => by simp only [Out.toExit, Exit.inBlock, hi, if_false]; exact hQ σ' a' w' hs)⟩
      | ret => exact ⟨.ret, F1, M1, hK1, fun σ a w hS Q hQ => wp_block (hx σ a w hS _ fun σ' a' w' hs => hQ σ' a' w' hs)⟩
    | loop x =>
      obtain ⟨o, F', M', hK, N, hN⟩ := hloop x F M K r h
      exact ⟨o, F', M', hK, fun σ a w hS Q hQ => wp_loop_rounds N (hN σ a w hS Q hQ)⟩
    | exit id => exact ⟨.exit id, F, M, h, fun σ a w hS Q hQ => wp_exit (hQ σ a w hS)⟩
    | ret => exact ⟨.ret, F, M, h, fun σ a w hS Q hQ => wp_ret (hQ σ a w hS)⟩
    | _ => cases h

/-- A function's results. -/
def resA (P : Program) (F : List AV) (M : List (List AC)) : ResultVar → Option AV
  | .tmp t => F[t]?
  | .cell t ty => match F[t]? with
    | some (.c (.ptr id off)) => rdA P M ty id off
    | _ => none

def cellA : AV → Option AC
  | .c x => some x
  | .agg [.cx .f32 a b, .cx .f32 c d] => some (.two a b c d)
  | _ => none
theorem cellA_rep {σ : List (Nat × Nat)} {x : AV} {y : AC} {v : Value} (h : cellA x = some y) (hx : Rep σ x v) : RepC σ y v := by
  unfold cellA at h
  split at h
  · cases h; exact hx
  · cases h
    obtain ⟨vs, rfl, hl⟩ := hx
    obtain ⟨vs⟩ := vs
    cases hl with
    | cons h1 hl => cases hl with
      | cons h2 hl =>
        cases hl
        obtain ⟨t1, t2, rfl, w1, w2⟩ := h1
        obtain ⟨t3, t4, rfl, w3, w4⟩ := h2
        exact ⟨t1, t2, t3, t4, rfl, w1, w2, w3, w4⟩
  · cases h

def resultA (P : Program) (fn : Func) (F : List AV) (M : List (List AC)) : Option AV :=
  match fn.results.toList with
  | [x] => resA P F M x
  | l => (l.mapM fun x => (resA P F M x).bind cellA).map .tup

/-- No pointer. -/
def plainC : AC → Bool
  | .ptr _ _ | .slc _ _ | .sub _ _ _ | .slw _ _ | .clo _ _ _ => false
  | _ => true
def plainA : AV → Bool
  | .c x => plainC x
  | .agg l | .tup l => l.all plainC

/-- A function's answer: its body, run. -/
def run (P : Program) (E : List (Entry P)) (fn : Func) (args : List AV) (M : List (List AC)) : Option AV :=
  match fn.body with
  | none => none
  | some c => exC P E M.length 4000 c (args ++ List.replicate (fn.ntmps - args.length) undefA) M fun o F M =>
    match o with
    | .exit _ => none
    | _ => match resultA P fn F M with
      | some v => cond (plainA v) (some v) none
      | none => none

theorem plainC_rep {σ τ : List (Nat × Nat)} {x : AC} {v : Value} (hp : plainC x = true) (h : RepC σ x v) : RepC τ x v := by
  cases x <;> first | exact h | cases hp

theorem plainL_rep {σ τ : List (Nat × Nat)} {l : List AC} {vs : List Value} (hp : l.all plainC = true) (h : RepL σ l vs) : RepL τ l vs := by
  induction h with
  | nil => exact .nil
  | cons h _ ih =>
    simp only [List.all_cons, Bool.and_eq_true] at hp
    exact .cons (plainC_rep hp.1 h) (ih hp.2)

theorem plain_rep {σ τ : List (Nat × Nat)} {x : AV} {v : Value} (hp : plainA x = true) (h : Rep σ x v) : Rep τ x v := by
  cases x with
  | c x => exact plainC_rep (σ := σ) hp h
  | agg l => obtain ⟨vs, e, hl⟩ := h; exact ⟨vs, e, plainL_rep hp hl⟩
  | tup l => obtain ⟨vs, e, hl⟩ := h; exact ⟨vs, e, plainL_rep hp hl⟩

def resOne (tmps : Array Value) : ResultVar → Sem Value
  | .tmp t => pure (tmps.getD t undef)
  | .cell a t => do loadVar t (← asAddr (tmps.getD a undef))

theorem results_eq (fn : Func) (tmps : Array Value) : results fn tmps = (do
    let vs ← fn.results.mapM (resOne tmps)
    pure (if h : vs.size = 1 then vs[0] else .tuple vs)) := by
  unfold results
  congr 1

theorem resA_sound {P : Program} {σ : List (Nat × Nat)} {n0 : Nat} {w0 : Base} {F : List AV} {M : List (List AC)} {a : Act} {w : World} (hS : St σ n0 w0 F M a w) {x : ResultVar} {r : AV} (h : resA P F M x = some r) :
    ∃ v, (resOne a.tmps x).run P w = .ok v w ∧ Rep σ r v := by
  cases x with
  | tmp t =>
    obtain ⟨v, hv, hr⟩ := hS.frame.get? (x := r) h
    have hv' : a.tmps[t]? = some v := by simpa using hv
    exact ⟨v, by simp [resOne, Array.getD_eq_getD_getElem?, hv'], hr⟩
  | cell t ty =>
    simp only [resA] at h
    split at h
    · rename_i id off hx
      obtain ⟨v, hv, hr⟩ := hS.frame.get? hx
      obtain ⟨b, hb, rfl⟩ := hr
      have hv' : a.tmps[t]? = some (.pointer (some ⟨b.1, off, none⟩)) := by simpa using hv
      obtain ⟨z, hz, hrz⟩ := rdA_sound (P := P) (w := w) hS.mem hb h
      exact ⟨z, by simp [resOne, Array.getD_eq_getD_getElem?, hv', asAddr, hz], hrz⟩
    · cases h

theorem results_sound {P : Program} {σ : List (Nat × Nat)} {n0 : Nat} {w0 : Base} {F : List AV} {M : List (List AC)} {a : Act} {w : World} (hS : St σ n0 w0 F M a w) {fn : Func} {r : AV} (h : resultA P fn F M = some r) :
    ∃ v, (results fn a.tmps).run P w = .ok v w ∧ Rep σ r v := by
  have many : ∀ (l : List ResultVar) (rs : List AC), (l.mapM fun x => (resA P F M x).bind cellA) = some rs →
      ∃ vs : List Value, (l.mapM (resOne a.tmps)).run P w = .ok vs w ∧ RepL σ rs vs := by
    intro l
    induction l with
    | nil => intro rs h; simp at h; subst h; exact ⟨[], by simp, .nil⟩
    | cons x l ih =>
      intro rs h
      cases h1 : (resA P F M x).bind cellA with
      | none => simp [h1] at h
      | some y =>
        cases h2 : (l.mapM fun x => (resA P F M x).bind cellA) with
        | none => simp [h1, h2] at h
        | some ys =>
          simp [h1, h2] at h
          subst h
          obtain ⟨vs, hvs, hr⟩ := ih ys h2
          cases h3 : resA P F M x with
          | none => simp [h3] at h1
          | some z =>
            simp only [h3, Option.bind_some] at h1
            obtain ⟨v, hv, hz⟩ := resA_sound (P := P) hS h3
            refine ⟨v :: vs, ?_, .cons (cellA_rep h1 hz) hr⟩
            simp [List.mapM_cons, hv, hvs]
  unfold resultA at h
  split at h
  · rename_i x hx
    obtain ⟨v, hv, hr⟩ := resA_sound (P := P) hS h
    refine ⟨v, ?_, hr⟩
    rw [results_eq, Array.mapM_eq_mapM_toList, hx]
    simp [hv]
  · rename_i l hl
    cases hm : (fn.results.toList.mapM fun x => (resA P F M x).bind cellA) with
    | none => simp [hm] at h
    | some rs =>
      simp only [hm, Option.map_some, Option.some.injEq] at h
      subst h
      obtain ⟨vs, hvs, hr⟩ := many _ _ hm
      refine ⟨.tuple vs.toArray, ?_, vs.toArray, rfl, hr⟩
      have hlen : vs.length ≠ 1 := by
        intro h1
        have h2 : rs.length = 1 := by rw [hr.length]; exact h1
        have h3 : ∀ (l : List ResultVar) (rs : List AC), (l.mapM fun x => (resA P F M x).bind cellA) = some rs → rs.length = l.length := by
          intro l
          induction l with
          | nil => intro rs h; simp at h; subst h; rfl
          | cons x l ih =>
            intro rs h
            cases h1 : (resA P F M x).bind cellA with
            | none => simp [h1] at h
            | some y =>
              cases h2 : (l.mapM fun x => (resA P F M x).bind cellA) with
              | none => simp [h1, h2] at h
              | some ys =>
                simp [h1, h2] at h
                subst h
                simp [ih ys h2]
        have h4 := h3 _ _ hm
        match h5 : fn.results.toList with
        | [] => rw [h5, h2] at h4; cases h4
        | [x] => exact hl x h5
        | x :: y :: l => rw [h5, h2] at h4; simp at h4
      rw [results_eq, Array.mapM_eq_mapM_toList]
      simp [hvs, hlen]

/-- THE EXECUTOR IS RIGHT: from a function's answer to what its call does. -/
theorem run_sound {P : Program} {E : List (Entry P)} {f : FuncId} {fn : Func} (hf : P.funcs[f]? = some fn) {args : List AV} {M : List (List AC)} {r : AV} (h : run P E fn args M = some r)
    {σ : List (Nat × Nat)} {vs : List Value} {w : World} (hM : MemOk σ M w) (ha : RepF σ args vs) :
    Calls P f vs.toArray w fun e w' => ∃ v, e = .returned v ∧ Rep σ r v ∧ Ext w w' := by
  unfold run at h
  split at h
  · cases h
  · rename_i c hb
    obtain ⟨o, F', M', hK, hc⟩ := (exC_sound ⟨w, σ⟩ 4000).1 c _ M _ r h
    have fin : ∀ (hK' : (match resultA P fn F' M' with | some v => cond (plainA v) (some v) none | none => none) = some r) {σ' : List (Nat × Nat)} {a' : Act} {w' : World} (hs : St σ' M.length ⟨w, σ⟩ F' M' a' w'),
        a'.defers = [] ∧ ∃ v, (results fn a'.tmps).run P w' = .ok v w' ∧ ∃ u, (Ending.returned v) = .returned u ∧ Rep σ r u ∧ Ext w w' := by
      intro hK' σ' a' w' hs
      cases hr : resultA P fn F' M' with
      | none => simp [hr] at hK'
      | some v =>
        simp only [hr] at hK'
        cases hp : plainA v with
        | false => simp [hp] at hK'
        | true =>
          simp only [hp, cond_true, Option.some.injEq] at hK'
          subst hK'
          obtain ⟨z, hz, hrz⟩ := results_sound (P := P) hs hr
          exact ⟨hs.defers, z, hz, z, rfl, plain_rep hp hrz, hs.ext⟩
    refine calls_of_wp hf hb (hc σ _ w ⟨rfl, ?_, hM, Ext.refl _, fun id b hid hbb => ?_, List.prefix_refl _⟩ _ fun σ' a' w' hs => ?_)
    · have hlen := ha.length
      have h1 : ∀ (n : Nat), RepF σ (List.replicate n undefA) (List.replicate n undef) := by
        intro n
        induction n with
        | zero => exact .nil
        | succ n ih => exact .cons rfl ih
      have h2 : ∀ {l l' : List AV} {us us' : List Value}, RepF σ l us → RepF σ l' us' → RepF σ (l ++ l') (us ++ us') := by
        intro l l' us us' h h'
        induction h with
        | nil => exact h'
        | cons h _ ih => exact .cons h ih
      simpa [hlen] using h2 ha (h1 (fn.ntmps - vs.length))
    · have := (List.getElem?_eq_some_iff.1 hbb).1
      rw [hM.len] at this
      omega
    · cases o with
      | norm => exact fin hK hs
      | ret => exact fin hK hs
      | exit id => cases hK

/-- A function with a body, as an entry: what the executor answers of it is what is said. -/
theorem gives_of_run {P : Program} {E : List (Entry P)} {f : FuncId} {fn : Func} (hf : P.funcs[f]? = some fn) (hn : (fn.name == "runtime.NumGoroutine") = false) {args : List AV} {M : List (List AC)} {r : AV} (h : run P E fn args M = some r)
    {σ : List (Nat × Nat)} {vs : List Value} {w : World} (hM : MemOk σ M w) (ha : RepF σ args vs) : Gives P f vs.toArray w fun v w' => Rep σ r v ∧ Ext w w' := by
  refine .inr ⟨?_, run_sound hf h hM ha⟩
  have hb : fn.body.isNone = false := by
    unfold run at h
    split at h
    · cases h
    · rename_i c hb; rw [hb]; rfl
  have hn' : fn.name ≠ "runtime.NumGoroutine" := by simpa using hn
  have hb' : fn.body ≠ none := by intro e; rw [e] at hb; cases hb
  simp [callFunc, hf, hn', hb']

end Go.Proofs.Ytlpahmefebgdlaa.Fx
/- Contracts of the functions of the program and of package math that compute with floats: numbers. No condition. -/
namespace Go.Proofs.Ytlpahmefebgdlaa.Fx
open Go Go.RowKit

theorem gives_extern {P : Program} {f : FuncId} {fn : Func} {e : Array Value → Sem Value} (hf : P.funcs[f]? = some fn) (hname : (fn.name == "runtime.NumGoroutine") = false)
    (hb : fn.body.isNone = true) (hn : Extern.findNext fn = none) (he : Extern.find fn = some e) {args : Array Value} {w : World} {R : Value → World → Prop}
    (h : ∃ v w', (e args).run P w = .ok v w' ∧ R v w') : Gives P f args w R := by
  obtain ⟨v, w', hr, hv⟩ := h
  exact .inl ⟨v, w', by rw [run_callFunc_extern hf hname hb hn he, hr]; rfl, hv⟩

theorem plainF {σ τ : List (Nat × Nat)} {F : List AV} {vs : List Value} (hp : F.all plainA = true) (h : RepF σ F vs) : RepF τ F vs := by
  induction h with
  | nil => exact .nil
  | cons h _ ih =>
    simp only [List.all_cons, Bool.and_eq_true] at hp
    exact .cons (plain_rep hp.1 h) (ih hp.2)

theorem run_plain {P : Program} {E : List (Entry P)} {fn : Func} {args : List AV} {M : List (List AC)} {r : AV} (h : run P E fn args M = some r) : plainA r = true := by
  unfold run at h
  split at h
  · cases h
  · obtain ⟨o, F', M', hK, _⟩ := (exC_sound ⟨default, []⟩ 4000).1 _ _ _ _ _ h
    have fin : (match resultA P fn F' M' with | some v => cond (plainA v) (some v) none | none => none) = some r → plainA r = true := by
      intro hK
      cases hr : resultA P fn F' M' with
      | none => simp [hr] at hK
      | some v =>
        simp only [hr] at hK
        cases hp : plainA v with
        | false => simp [hp] at hK
        | true => simp only [hp, cond_true, Option.some.injEq] at hK; subst hK; exact hp
    cases o with
    | norm => exact fin hK
    | ret => exact fin hK
    | exit id => cases hK

/-- An entry's proof, for arguments without pointers. -/
theorem gives0 {P : Program} {E : List (Entry P)} {f : FuncId} {fn : Func} (hf : P.funcs[f]? = some fn) (hn : (fn.name == "runtime.NumGoroutine") = false) {args : List AV} {r : AV} (hp : args.all plainA = true)
    (h : run P E fn args [] = some r) {σ : List (Nat × Nat)} {vs : List Value} {w : World} (ha : RepF σ args vs) : Gives P f vs.toArray w fun v w' => Rep σ r v ∧ Ext w w' := by
  have hr := run_plain h
  rcases gives_of_run hf hn h (MemOk.nil w) (plainF (τ := []) hp ha) with ⟨v, w', h1, h2, h3⟩ | ⟨h1, h2⟩
  · exact .inl ⟨v, w', h1, plain_rep hr h2, h3⟩
  · exact .inr ⟨h1, h2.mono fun e w' ⟨v, he, hv, hw⟩ => ⟨v, he, plain_rep hr hv, hw⟩⟩

/-- An entry is right. -/
def EOk (P : Program) (f : FuncId) (fn : List AV → List (List AC) → Option (Bool × AV)) : Prop :=
  ∀ args M r, fn args M = some (true, r) → ∀ σ vs w, MemOk σ M w → RepF σ args vs → Gives P f vs.toArray w fun v w' => Rep σ r v ∧ Ext w w'

-- the shapes of functions
def shD (g : F64 → Bool × AV) : List AV → List (List AC) → Option (Bool × AV)
  | [.c (.fl .f64 x0)], _ => some (g x0)
  | _, _ => none

theorem okD {P : Program} {E : List (Entry P)} {f : FuncId} {fn : Func} {g : F64 → Bool × AV} (hf : P.funcs[f]? = some fn) (hn : (fn.name == "runtime.NumGoroutine") = false)
    (h : ∀ (x0 : F64), (g x0).1 = true → run P E fn [.c (.fl .f64 x0)] [] = some (g x0).2) :
    EOk P f (shD g) := by
  intro args M r hr σ vs w _ ha
  unfold shD at hr
  split at hr
  · rename_i x0
    have hr' := Option.some.inj hr
    have h1 := h x0 (by rw [hr'])
    rw [hr'] at h1
    exact gives0 hf hn rfl h1 ha
  · cases hr

def shDD (g : F64 → F64 → Bool × AV) : List AV → List (List AC) → Option (Bool × AV)
  | [.c (.fl .f64 x0), .c (.fl .f64 x1)], _ => some (g x0 x1)
  | _, _ => none

theorem okDD {P : Program} {E : List (Entry P)} {f : FuncId} {fn : Func} {g : F64 → F64 → Bool × AV} (hf : P.funcs[f]? = some fn) (hn : (fn.name == "runtime.NumGoroutine") = false)
    (h : ∀ (x0 : F64) (x1 : F64), (g x0 x1).1 = true → run P E fn [.c (.fl .f64 x0), .c (.fl .f64 x1)] [] = some (g x0 x1).2) :
    EOk P f (shDD g) := by
  intro args M r hr σ vs w _ ha
  unfold shDD at hr
  split at hr
  · rename_i x0 x1
    have hr' := Option.some.inj hr
    have h1 := h x0 x1 (by rw [hr'])
    rw [hr'] at h1
    exact gives0 hf hn rfl h1 ha
  · cases hr

def shDDD (g : F64 → F64 → F64 → Bool × AV) : List AV → List (List AC) → Option (Bool × AV)
  | [.c (.fl .f64 x0), .c (.fl .f64 x1), .c (.fl .f64 x2)], _ => some (g x0 x1 x2)
  | _, _ => none

theorem okDDD {P : Program} {E : List (Entry P)} {f : FuncId} {fn : Func} {g : F64 → F64 → F64 → Bool × AV} (hf : P.funcs[f]? = some fn) (hn : (fn.name == "runtime.NumGoroutine") = false)
    (h : ∀ (x0 : F64) (x1 : F64) (x2 : F64), (g x0 x1 x2).1 = true → run P E fn [.c (.fl .f64 x0), .c (.fl .f64 x1), .c (.fl .f64 x2)] [] = some (g x0 x1 x2).2) :
    EOk P f (shDDD g) := by
  intro args M r hr σ vs w _ ha
  unfold shDDD at hr
  split at hr
  · rename_i x0 x1 x2
    have hr' := Option.some.inj hr
    have h1 := h x0 x1 x2 (by rw [hr'])
    rw [hr'] at h1
    exact gives0 hf hn rfl h1 ha
  · cases hr

def shS (g : F32 → Bool × AV) : List AV → List (List AC) → Option (Bool × AV)
  | [.c (.fl .f32 x0)], _ => some (g x0)
  | _, _ => none

theorem okS {P : Program} {E : List (Entry P)} {f : FuncId} {fn : Func} {g : F32 → Bool × AV} (hf : P.funcs[f]? = some fn) (hn : (fn.name == "runtime.NumGoroutine") = false)
    (h : ∀ (x0 : F32), (g x0).1 = true → run P E fn [.c (.fl .f32 x0)] [] = some (g x0).2) :
    EOk P f (shS g) := by
  intro args M r hr σ vs w _ ha
  unfold shS at hr
  split at hr
  · rename_i x0
    have hr' := Option.some.inj hr
    have h1 := h x0 (by rw [hr'])
    rw [hr'] at h1
    exact gives0 hf hn rfl h1 ha
  · cases hr

def shSS (g : F32 → F32 → Bool × AV) : List AV → List (List AC) → Option (Bool × AV)
  | [.c (.fl .f32 x0), .c (.fl .f32 x1)], _ => some (g x0 x1)
  | _, _ => none

theorem okSS {P : Program} {E : List (Entry P)} {f : FuncId} {fn : Func} {g : F32 → F32 → Bool × AV} (hf : P.funcs[f]? = some fn) (hn : (fn.name == "runtime.NumGoroutine") = false)
    (h : ∀ (x0 : F32) (x1 : F32), (g x0 x1).1 = true → run P E fn [.c (.fl .f32 x0), .c (.fl .f32 x1)] [] = some (g x0 x1).2) :
    EOk P f (shSS g) := by
  intro args M r hr σ vs w _ ha
  unfold shSS at hr
  split at hr
  · rename_i x0 x1
    have hr' := Option.some.inj hr
    have h1 := h x0 x1 (by rw [hr'])
    rw [hr'] at h1
    exact gives0 hf hn rfl h1 ha
  · cases hr

def shSSS (g : F32 → F32 → F32 → Bool × AV) : List AV → List (List AC) → Option (Bool × AV)
  | [.c (.fl .f32 x0), .c (.fl .f32 x1), .c (.fl .f32 x2)], _ => some (g x0 x1 x2)
  | _, _ => none

theorem okSSS {P : Program} {E : List (Entry P)} {f : FuncId} {fn : Func} {g : F32 → F32 → F32 → Bool × AV} (hf : P.funcs[f]? = some fn) (hn : (fn.name == "runtime.NumGoroutine") = false)
    (h : ∀ (x0 : F32) (x1 : F32) (x2 : F32), (g x0 x1 x2).1 = true → run P E fn [.c (.fl .f32 x0), .c (.fl .f32 x1), .c (.fl .f32 x2)] [] = some (g x0 x1 x2).2) :
    EOk P f (shSSS g) := by
  intro args M r hr σ vs w _ ha
  unfold shSSS at hr
  split at hr
  · rename_i x0 x1 x2
    have hr' := Option.some.inj hr
    have h1 := h x0 x1 x2 (by rw [hr'])
    rw [hr'] at h1
    exact gives0 hf hn rfl h1 ha
  · cases hr

def shSSSS (g : F32 → F32 → F32 → F32 → Bool × AV) : List AV → List (List AC) → Option (Bool × AV)
  | [.c (.fl .f32 x0), .c (.fl .f32 x1), .c (.fl .f32 x2), .c (.fl .f32 x3)], _ => some (g x0 x1 x2 x3)
  | _, _ => none

theorem okSSSS {P : Program} {E : List (Entry P)} {f : FuncId} {fn : Func} {g : F32 → F32 → F32 → F32 → Bool × AV} (hf : P.funcs[f]? = some fn) (hn : (fn.name == "runtime.NumGoroutine") = false)
    (h : ∀ (x0 : F32) (x1 : F32) (x2 : F32) (x3 : F32), (g x0 x1 x2 x3).1 = true → run P E fn [.c (.fl .f32 x0), .c (.fl .f32 x1), .c (.fl .f32 x2), .c (.fl .f32 x3)] [] = some (g x0 x1 x2 x3).2) :
    EOk P f (shSSSS g) := by
  intro args M r hr σ vs w _ ha
  unfold shSSSS at hr
  split at hr
  · rename_i x0 x1 x2 x3
    have hr' := Option.some.inj hr
    have h1 := h x0 x1 x2 x3 (by rw [hr'])
    rw [hr'] at h1
    exact gives0 hf hn rfl h1 ha
  · cases hr

def shC (g : F32 → F32 → Bool × AV) : List AV → List (List AC) → Option (Bool × AV)
  | [.c (.cx .f32 x0 x1)], _ => some (g x0 x1)
  | _, _ => none

theorem okC {P : Program} {E : List (Entry P)} {f : FuncId} {fn : Func} {g : F32 → F32 → Bool × AV} (hf : P.funcs[f]? = some fn) (hn : (fn.name == "runtime.NumGoroutine") = false)
    (h : ∀ (x0 : F32) (x1 : F32), (g x0 x1).1 = true → run P E fn [.c (.cx .f32 x0 x1)] [] = some (g x0 x1).2) :
    EOk P f (shC g) := by
  intro args M r hr σ vs w _ ha
  unfold shC at hr
  split at hr
  · rename_i x0 x1
    have hr' := Option.some.inj hr
    have h1 := h x0 x1 (by rw [hr'])
    rw [hr'] at h1
    exact gives0 hf hn rfl h1 ha
  · cases hr

def shCC (g : F32 → F32 → F32 → F32 → Bool × AV) : List AV → List (List AC) → Option (Bool × AV)
  | [.c (.cx .f32 x0 x1), .c (.cx .f32 x2 x3)], _ => some (g x0 x1 x2 x3)
  | _, _ => none

theorem okCC {P : Program} {E : List (Entry P)} {f : FuncId} {fn : Func} {g : F32 → F32 → F32 → F32 → Bool × AV} (hf : P.funcs[f]? = some fn) (hn : (fn.name == "runtime.NumGoroutine") = false)
    (h : ∀ (x0 : F32) (x1 : F32) (x2 : F32) (x3 : F32), (g x0 x1 x2 x3).1 = true → run P E fn [.c (.cx .f32 x0 x1), .c (.cx .f32 x2 x3)] [] = some (g x0 x1 x2 x3).2) :
    EOk P f (shCC g) := by
  intro args M r hr σ vs w _ ha
  unfold shCC at hr
  split at hr
  · rename_i x0 x1 x2 x3
    have hr' := Option.some.inj hr
    have h1 := h x0 x1 x2 x3 (by rw [hr'])
    rw [hr'] at h1
    exact gives0 hf hn rfl h1 ha
  · cases hr

def shCS (g : F32 → F32 → F32 → Bool × AV) : List AV → List (List AC) → Option (Bool × AV)
  | [.c (.cx .f32 x0 x1), .c (.fl .f32 x2)], _ => some (g x0 x1 x2)
  | _, _ => none

theorem okCS {P : Program} {E : List (Entry P)} {f : FuncId} {fn : Func} {g : F32 → F32 → F32 → Bool × AV} (hf : P.funcs[f]? = some fn) (hn : (fn.name == "runtime.NumGoroutine") = false)
    (h : ∀ (x0 : F32) (x1 : F32) (x2 : F32), (g x0 x1 x2).1 = true → run P E fn [.c (.cx .f32 x0 x1), .c (.fl .f32 x2)] [] = some (g x0 x1 x2).2) :
    EOk P f (shCS g) := by
  intro args M r hr σ vs w _ ha
  unfold shCS at hr
  split at hr
  · rename_i x0 x1 x2
    have hr' := Option.some.inj hr
    have h1 := h x0 x1 x2 (by rw [hr'])
    rw [hr'] at h1
    exact gives0 hf hn rfl h1 ha
  · cases hr

def shSC (g : F32 → F32 → F32 → Bool × AV) : List AV → List (List AC) → Option (Bool × AV)
  | [.c (.fl .f32 x0), .c (.cx .f32 x1 x2)], _ => some (g x0 x1 x2)
  | _, _ => none

theorem okSC {P : Program} {E : List (Entry P)} {f : FuncId} {fn : Func} {g : F32 → F32 → F32 → Bool × AV} (hf : P.funcs[f]? = some fn) (hn : (fn.name == "runtime.NumGoroutine") = false)
    (h : ∀ (x0 : F32) (x1 : F32) (x2 : F32), (g x0 x1 x2).1 = true → run P E fn [.c (.fl .f32 x0), .c (.cx .f32 x1 x2)] [] = some (g x0 x1 x2).2) :
    EOk P f (shSC g) := by
  intro args M r hr σ vs w _ ha
  unfold shSC at hr
  split at hr
  · rename_i x0 x1 x2
    have hr' := Option.some.inj hr
    have h1 := h x0 x1 x2 (by rw [hr'])
    rw [hr'] at h1
    exact gives0 hf hn rfl h1 ha
  · cases hr

def rD (x : F64) : Bool × AV := (true, .c (.fl .f64 x))
def rS (x : F32) : Bool × AV := (true, .c (.fl .f32 x))
def rC (x y : F32) : Bool × AV := (true, .c (.cx .f32 x y))
def rB (b : Bool) : Bool × AV := (true, .c (.sb b))
def rSB (x : F32) (b : Bool) : Bool × AV := (true, .tup [.fl .f32 x, .sb b])

theorem push_fl {k : FloatKind} (c : Bool) (a b : Fl k) : some (AV.c (.fl k (bif c then a else b))) = bif c then some (.c (.fl k a)) else some (.c (.fl k b)) := by cases c <;> rfl
theorem push_sb (c : Bool) (a b : Bool) : some (AV.c (.sb (bif c then a else b))) = bif c then some (.c (.sb a)) else some (.c (.sb b)) := by cases c <;> rfl
theorem push_and (a b : Bool) : some (AV.c (.sb (a && b))) = bif a then some (.c (.sb b)) else some (.c (.sb false)) := by cases a <;> rfl
theorem push_or (a b : Bool) : some (AV.c (.sb (a || b))) = bif a then some (.c (.sb true)) else some (.c (.sb b)) := by cases a <;> rfl

def c64 (n : Nat) : F64 := lit .f64 n
def c32 (n : Nat) : F32 := lit .f32 n
def lt {k : FloatKind} (x y : Fl k) : Bool := ord x y == some .lt
def le {k : FloatKind} (x y : Fl k) : Bool := ord x y == some .lt || ord x y == some .eq
def gt {k : FloatKind} (x y : Fl k) : Bool := ord x y == some .gt
def ge {k : FloatKind} (x y : Fl k) : Bool := ord x y == some .gt || ord x y == some .eq
def eq {k : FloatKind} (x y : Fl k) : Bool := ord x y == some .eq
def ne {k : FloatKind} (x y : Fl k) : Bool := ord x y != some .eq

-- package math
theorem ext_whole {name : String} {way : Ieee.Toward} {P : Program} {x : F64} {σ : List (Nat × Nat)} {v : Value} {w : World} (h : RepC σ (.fl .f64 x) v) :
    ∃ v' w', (Extern.MathFloor.toIntegral name way #[v]).run P w = .ok v' w' ∧ Rep σ (.c (.fl .f64 (whole way x))) v' ∧ Ext w w' := by
  obtain ⟨t, rfl, hw⟩ := h
  obtain ⟨s, n, hr⟩ := run_whole (P := P) name way hw (Is.mk x t) w
  exact ⟨_, _, hr, ⟨s, rfl, wd_whole _ _ _⟩, Ext.drewN _ _⟩

theorem ext_sqrt {P : Program} {x : F64} {σ : List (Nat × Nat)} {v : Value} {w : World} (h : RepC σ (.fl .f64 x) v) :
    ∃ v' w', (Extern.MathSqrt.sqrt #[v]).run P w = .ok v' w' ∧ Rep σ (.c (.fl .f64 (sqrt x))) v' ∧ Ext w w' := by
  obtain ⟨t, rfl, hw⟩ := h
  obtain ⟨s, n, hr⟩ := run_sqrt (P := P) (Is.mk x t) w
  exact ⟨_, _, hr, ⟨s, rfl, wd_sqrt _ _⟩, Ext.drewN _ _⟩

/-- A function of one number, by whatever proof. -/
theorem okD_of {P : Program} {f : FuncId} {g : F64 → F64} (h : ∀ (x : F64) (σ : List (Nat × Nat)) (v : Value) (w : World), RepC σ (.fl .f64 x) v → Gives P f #[v] w fun v w' => Rep σ (.c (.fl .f64 (g x))) v ∧ Ext w w') :
    EOk P f (shD fun x => rD (g x)) := by
  intro args M r hr σ vs w _ ha
  unfold shD at hr
  split at hr
  · cases hr
    cases ha with
    | cons h1 h2 => cases h2; exact h _ σ _ w h1
  · cases hr

def eArchTrunc : Entry Try.prog := { f := 145, fn := shD fun x => rD (whole .zero x), ok := okD_of fun _ _ _ _ h => gives_extern Try.func145 (by kernel_rfl) (by kernel_rfl) (by kernel_rfl) (e := Extern.MathFloor.toIntegral "math.archTrunc" .zero) (by kernel_rfl) (ext_whole h) }
def eArchFloor : Entry Try.prog := { f := 128, fn := shD fun x => rD (whole .down x), ok := okD_of fun _ _ _ _ h => gives_extern Try.func128 (by kernel_rfl) (by kernel_rfl) (by kernel_rfl) (e := Extern.MathFloor.toIntegral "math.archFloor" .down) (by kernel_rfl) (ext_whole h) }
def eArchSqrt : Entry Try.prog := { f := 115, fn := shD fun x => rD (sqrt x), ok := okD_of fun _ _ _ _ h => gives_extern Try.func115 (by kernel_rfl) (by kernel_rfl) (by kernel_rfl) (e := Extern.MathSqrt.sqrt) (by kernel_rfl) (ext_sqrt h) }
def eTrunc : Entry Try.prog := { f := 142, fn := shD fun x => rD (whole .zero x), ok := okD (E := [eArchTrunc]) Try.func142 (by kernel_rfl) fun x _ => by kernel_rfl }
def eFloor : Entry Try.prog := { f := 88, fn := shD fun x => rD (whole .down x), ok := okD (E := [eArchFloor]) Try.func88 (by kernel_rfl) fun x _ => by kernel_rfl }
def eSqrt : Entry Try.prog := { f := 66, fn := shD fun x => rD (sqrt x), ok := okD (E := [eArchSqrt]) Try.func66 (by kernel_rfl) fun x _ => by kernel_rfl }

/-- A word as a float. -/
def canon (n : Nat) : F64 :=
  match FloatKind.f64.decode n with
  | .nan _ _ => none
  | _ => some n

def shBits : List AV → List (List AC) → Option (Bool × AV)
  | [.c (.val (.int .u64 n))], _ => if 0 ≤ n ∧ n < 2 ^ 64 then some (true, .c (.fl .f64 (canon n.toNat))) else none
  | _, _ => none

theorem eFrombits_ok : EOk Try.prog 126 (shBits) := by
  intro args M r hr σ vs w _ ha
  unfold shBits at hr
  split at hr
  · rename_i n
    split at hr
    · rename_i hn
      cases hr
      cases ha with
      | cons h1 h2 =>
        cases h2
        have h1' : _ = Value.int .u64 n := h1
        subst h1'
        refine gives_extern Try.func126 (by kernel_rfl) (by kernel_rfl) (by kernel_rfl) (e := Extern.MathFloatBits.float64frombits) (by kernel_rfl) ⟨.float .f64 n.toNat, w, rfl, ?_, Ext.refl _⟩
        have hlt : n.toNat < 2 ^ FloatKind.f64.format.width := by
          show n.toNat < 2 ^ 64
          omega
        cases hd : FloatKind.f64.decode n.toNat with
        | nan s f =>
          obtain ⟨t, ht⟩ := nan_form (k := .f64) hd hlt
          refine ⟨t, ?_, ?_⟩
          · simp only [canon, hd]; rw [ht]; rfl
          · simp only [canon, hd]; exact wd_none _ _
        | infinity s => exact ⟨0, by simp only [canon, hd]; rfl, by simp only [canon, hd]; exact hlt⟩
        | number s m e => exact ⟨0, by simp only [canon, hd]; rfl, by simp only [canon, hd]; exact hlt⟩
    · cases hr
  · cases hr
def eFrombits : Entry Try.prog := { f := 126, fn := shBits, ok := eFrombits_ok }

def shNil (v : AV) : List AV → List (List AC) → Option (Bool × AV)
  | [], _ => some (true, v)
  | _, _ => none

theorem eNaN_ok : EOk Try.prog 121 (shNil (.c (.fl .f64 none))) := by
  intro args M r hr σ vs w _ ha
  unfold shNil at hr
  split at hr
  · cases hr
    exact gives0 (E := [eFrombits]) Try.func121 (by kernel_rfl) rfl (by kernel_rfl) ha
  · cases hr
def eNaN : Entry Try.prog := { f := 121, fn := shNil (.c (.fl .f64 none)), ok := eNaN_ok }

def shBitsV : List AV → List (List AC) → Option (Bool × AV)
  | [.c (.val (.float .f64 b))], _ => some (true, .c (.val (.int .u64 b)))
  | _, _ => none
theorem eBitsV_ok : EOk Try.prog 127 (shBitsV) := by
  intro args M r hr σ vs w _ ha
  unfold shBitsV at hr
  split at hr
  · rename_i b
    cases hr
    cases ha with
    | cons h1 h2 =>
      cases h2
      have h1' : _ = Value.float .f64 b := h1
      subst h1'
      exact gives_extern Try.func127 (by kernel_rfl) (by kernel_rfl) (by kernel_rfl) (e := Extern.MathFloatBits.float64bits) (by kernel_rfl) ⟨.int .u64 b, w, rfl, rfl, Ext.refl _⟩
  · cases hr
def eBitsV : Entry Try.prog := { f := 127, fn := shBitsV, ok := eBitsV_ok }
def shFromV : List AV → List (List AC) → Option (Bool × AV)
  | [.c (.val (.int .u64 n))], _ => some (true, .c (.val (.float .f64 n.toNat)))
  | _, _ => none
theorem eFromV_ok : EOk Try.prog 126 (shFromV) := by
  intro args M r hr σ vs w _ ha
  unfold shFromV at hr
  split at hr
  · rename_i n
    cases hr
    cases ha with
    | cons h1 h2 =>
      cases h2
      have h1' : _ = Value.int .u64 n := h1
      subst h1'
      exact gives_extern Try.func126 (by kernel_rfl) (by kernel_rfl) (by kernel_rfl) (e := Extern.MathFloatBits.float64frombits) (by kernel_rfl) ⟨.float .f64 n.toNat, w, rfl, rfl, Ext.refl _⟩
  · cases hr
def eFromV : Entry Try.prog := { f := 126, fn := shFromV, ok := eFromV_ok }

/-- The absolute value. -/
def fabs (x : F64) : F64 :=
  match x with
  | some r => some (r % 2 ^ 63)
  | none => none

theorem run_abs (b : Nat) : run Try.prog [eBitsV, eFromV] Try.f87 [.c (.val (.float .f64 b))] [] = some (.c (.val (.float .f64 (bits .andNot .u64 b 9223372036854775808).toNat))) := by kernel_rfl

theorem abs_bits {b : Nat} (hb : b < 2 ^ 64) : (bits .andNot .u64 (b : Int) 9223372036854775808).toNat = b % 2 ^ 63 := by
  have := u64_andNot_nat b 9223372036854775808 (by omega) (by omega)
  rw [show ((9223372036854775808 : Nat) : Int) = 9223372036854775808 from rfl] at this
  rw [this, Int.toNat_natCast]
  exact Nat.and_two_pow_sub_one_eq_mod b 63

theorem eAbs_ok : EOk Try.prog 87 (shD fun x => rD (fabs x)) := by
  refine okD_of fun x σ v w h => ?_
  obtain ⟨t, rfl, hw⟩ := h
  have hw' : B x t < 2 ^ 64 := hw
  have hg := gives0 (σ := σ) (w := w) (E := [eBitsV, eFromV]) Try.func87 (by kernel_rfl) rfl (run_abs (B x t)) (vs := [.float .f64 (B x t)]) (.cons rfl .nil)
  have key : ∃ s, (bits .andNot .u64 (B x t) 9223372036854775808).toNat = B (fabs x) s ∧ Wd .f64 (B (fabs x) s) := by
    rw [abs_bits hw']
    cases x with
    | some r => exact ⟨0, rfl, by show r % 2 ^ 63 < 2 ^ 64; omega⟩
    | none =>
      obtain ⟨r, hr, q, hq, ht⟩ := nanW_signed .f64 t
      have e : FloatKind.f64.format.signWeight = 2 ^ 63 := by decide
      rw [e] at hr hq
      refine ⟨2 * q, ?_, wd_none _ _⟩
      show nanW .f64 t % 2 ^ 63 = nanW .f64 (2 * q)
      have h0 := hq 0
      have h1 := hq t
      rw [← ht] at h1
      rw [h1, show nanW .f64 (2 * q) = 0 % 2 * 2 ^ 63 + r from h0]
      omega
  obtain ⟨s, hs, hs2⟩ := key
  have fin : ∀ v' w', Rep σ (.c (.val (.float .f64 (bits .andNot .u64 (B x t) 9223372036854775808).toNat))) v' ∧ Ext w w' → Rep σ (.c (.fl .f64 (fabs x))) v' ∧ Ext w w' := by
    intro v' w' ⟨h1, h2⟩
    have h1' : v' = .float .f64 (bits .andNot .u64 (B x t) 9223372036854775808).toNat := h1
    rw [hs] at h1'
    exact ⟨⟨s, h1', hs2⟩, h2⟩
  rcases hg with ⟨v', w', hr, hv⟩ | ⟨hr, hc⟩
  · exact .inl ⟨v', w', hr, fin _ _ hv⟩
  · exact .inr ⟨hr, hc.mono fun e w' ⟨v, he, hv⟩ => ⟨v, he, fin _ _ hv⟩⟩
def eAbs : Entry Try.prog := { f := 87, fn := shD fun x => rD (fabs x), ok := eAbs_ok }

end Go.Proofs.Ytlpahmefebgdlaa.Fx
/- The executor, fourth part: functions with one loop whose rounds are told by a rule. No condition. -/
namespace Go.Proofs.Ytlpahmefebgdlaa.Fx
open Go Go.RowKit

/-- Slots that need not be known any more. -/
def weaken : List Bool → List AV → List AV
  | true :: m, a :: F => a :: weaken m F
  | false :: m, _ :: F => .c .any :: weaken m F
  | _, F => F

theorem RepF.weaken {σ : List (Nat × Nat)} : ∀ (m : List Bool) {F : List AV} {vs : List Value}, RepF σ F vs → RepF σ (Fx.weaken m F) vs
  | [], _, _, h => by cases h <;> first | exact .nil | exact .cons ‹_› ‹_›
  | true :: m, _, _, .nil => .nil
  | false :: m, _, _, .nil => .nil
  | true :: m, _, _, .cons h t => .cons h (RepF.weaken m t)
  | false :: m, _, _, .cons _ t => .cons trivial (RepF.weaken m t)

theorem St.weaken {σ : List (Nat × Nat)} {n0 : Nat} {w0 : Base} {F : List AV} {M : List (List AC)} {a : Act} {w : World} (m : List Bool) (h : St σ n0 w0 F M a w) : St σ n0 w0 (Fx.weaken m F) M a w :=
  ⟨h.defers, h.frame.weaken m, h.mem, h.ext, h.own, h.pre⟩

/-- The outcome of a loop: n rounds more at most. -/
def loopRes {α : Type} (fin : α → Out × List AV) (step : α → (Out × List AV) ⊕ α) : Nat → α → Out × List AV
  | 0, s => fin s
  | n + 1, s => match step s with
    | .inl r => r
    | .inr s' => loopRes fin step n s'

theorem loop_goes {P : Program} {n0 : Nat} {w0 : Base} {x : Code} {M : List (List AC)} {α : Type} (Fr : Nat → α → List AV) (fin : α → Out × List AV) (step : α → (Out × List AV) ⊕ α) (N : Nat)
    (hfin : ∀ s, (fin s).1 ≠ .norm ∧ CodeGoes P n0 w0 x (Fr N s) M (fin s).1 (fin s).2 M)
    (hround : ∀ i s, i < N → match step s with
      | .inl r => r.1 ≠ .norm ∧ CodeGoes P n0 w0 x (Fr i s) M r.1 r.2 M
      | .inr s' => CodeGoes P n0 w0 x (Fr i s) M .norm (Fr (i + 1) s') M) :
    ∀ (n i : Nat) (s : α), i + n = N → CodeGoes P n0 w0 (.loop x) (Fr i s) M (loopRes fin step n s).1 (loopRes fin step n s).2 M := by
  have one : ∀ {F : List AV} {o : Out} {F' : List AV}, o ≠ .norm → CodeGoes P n0 w0 x F M o F' M → ∀ (σ : List (Nat × Nat)) (a : Act) (w : World), St σ n0 w0 F M a w →
      ∀ (Q : Exit → Act → World → Prop), (∀ σ' a' w', St σ' n0 w0 F' M a' w' → Q o.toExit a' w') → Code.rounds P x Q 1 a w := by
    intro F o F' ho hc σ a w hS Q hQ
    refine hc σ a w hS _ fun σ' a' w' hs => ?_
    cases o with
    | norm => exact (ho rfl).elim
    | exit id => exact hQ _ _ _ hs
    | ret => exact hQ _ _ _ hs
  have key : ∀ (n i : Nat) (s : α), i + n = N → ∃ m, ∀ (σ : List (Nat × Nat)) (a : Act) (w : World), St σ n0 w0 (Fr i s) M a w →
      ∀ (Q : Exit → Act → World → Prop), (∀ σ' a' w', St σ' n0 w0 (loopRes fin step n s).2 M a' w' → Q (loopRes fin step n s).1.toExit a' w') → Code.rounds P x Q m a w := by
    intro n
    induction n with
    | zero =>
      intro i s hi
      have : i = N := by omega
      subst this
      exact ⟨1, one (hfin s).1 (hfin s).2⟩
    | succ n ih =>
      intro i s hi
      have hr := hround i s (by omega)
      simp only [loopRes]
      cases hs : step s with
      | inl r =>
        rw [hs] at hr
        exact ⟨1, one hr.1 hr.2⟩
      | inr s' =>
        rw [hs] at hr
        obtain ⟨m, hm⟩ := ih (i + 1) s' (by omega)
        exact ⟨m + 1, fun σ a w hS Q hQ => hr σ a w hS _ fun σ' a' w' hs => hm σ' a' w' hs Q hQ⟩
  intro n i s hi σ a w hS Q hQ
  obtain ⟨m, hm⟩ := key n i s hi
  exact wp_loop_rounds m (hm σ a w hS Q hQ)

variable {R : Type}

/-- The loops of a code, the outermost. -/
def loopsOf : Code → List Code
  | .seq x y => loopsOf x ++ loopsOf y
  | .cond _ x y => loopsOf x ++ loopsOf y
  | .block _ x => loopsOf x
  | .loop x => [x]
  | _ => []

/-- Code with a rule for its loops. -/
def exL (P : Program) (E : List (Entry P)) (n0 : Nat) (lp : List AV → List (List AC) → Option (Out × List AV × List (List AC))) : Nat → Code → List AV → List (List AC) → (Out → List AV → List (List AC) → Option R) → Option R
  | 0, _, _, _, _ => none
  | n + 1, c, F, M, K =>
    match c with
    | .skip => K .norm F M
    | .region _ ops draw => cond draw none (regA P E n0 ops ops.toList F M fun F M => K .norm F M)
    | .seq x y => exL P E n0 lp n x F M fun o F M =>
      match o with
      | .norm => exL P E n0 lp n y F M K
      | .exit id => K (.exit id) F M
      | .ret => K .ret F M
    | .cond (.tmp t) x y =>
      match F[t]? with
      | some (.c (.sb b)) => cond b (exL P E n0 lp n x (F.set t (.c (.sb true))) M K) (exL P E n0 lp n y (F.set t (.c (.sb false))) M K)
      | _ => none
    | .block id x => exL P E n0 lp n x F M fun o F M =>
      match o with
      | .norm => K .norm F M
      | .exit i => cond (i == id) (K .norm F M) (K (.exit i) F M)
      | .ret => K .ret F M
    | .loop _ => match lp F M with
      | some (o, F', M') => K o F' M'
      | none => none
    | .exit id => K (.exit id) F M
    | .ret => K .ret F M
    | _ => none

theorem exL_sound {P : Program} {E : List (Entry P)} {n0 : Nat} (w0 : Base) {lp : List AV → List (List AC) → Option (Out × List AV × List (List AC))} : ∀ (n : Nat) (c : Code) (F : List AV) (M : List (List AC)) (K : Out → List AV → List (List AC) → Option R) (r : R),
    (∀ x ∈ loopsOf c, ∀ F M o F' M', lp F M = some (o, F', M') → CodeGoes P n0 w0 (.loop x) F M o F' M') →
    exL P E n0 lp n c F M K = some r → ∃ o F' M', K o F' M' = some r ∧ CodeGoes P n0 w0 c F M o F' M'
  | 0, _, _, _, _, _, _, h => by cases h
  | n + 1, c, F, M, K, r, hl, h => by
    cases c with
    | skip => exact ⟨.norm, F, M, h, fun σ a w hS Q hQ => wp_skip (hQ σ a w hS)⟩
    | region id ops draw =>
      simp only [exL] at h
      cases draw with
      | true => cases h
      | false =>
        obtain ⟨F', M', hK, hl⟩ := regA_sound w0 ops.toList h
        exact ⟨.norm, F', M', hK, fun σ a w hS Q hQ => wp_region_list (hl σ a w hS Q hQ)⟩
    | seq x y =>
      simp only [exL] at h
      obtain ⟨o, F1, M1, hK1, hx⟩ := exL_sound w0 n x F M _ r (fun z hz => hl z (List.mem_append_left _ hz)) h
      cases o with
      | norm =>
        obtain ⟨o, F', M', hK, hy⟩ := exL_sound w0 n y F1 M1 K r (fun z hz => hl z (List.mem_append_right _ hz)) hK1
        exact ⟨o, F', M', hK, fun σ a w hS Q hQ => wp_seq (hx σ a w hS _ fun σ' a' w' hs => hy σ' a' w' hs Q hQ)⟩
      | exit id => exact ⟨.exit id, F1, M1, hK1, fun σ a w hS Q hQ => wp_seq (hx σ a w hS _ fun σ' a' w' hs => hQ σ' a' w' hs)⟩
      | ret => exact ⟨.ret, F1, M1, hK1, fun σ a w hS Q hQ => wp_seq (hx σ a w hS _ fun σ' a' w' hs => hQ σ' a' w' hs)⟩
    | cond c x y =>
      cases c with
      | tmp t =>
        simp only [exL] at h
        split at h
        · rename_i b hb
          have hev : ∀ σ a w, St σ n0 w0 F M a w → a.eval (.tmp t) = .bool b := by
            intro σ a w hS
            obtain ⟨v, hv, hr⟩ := hS.frame.get? hb
            have hr' : v = .bool b := hr
            subst hr'
            have hv' : a.tmps[t]? = some (.bool b) := by simpa using hv
            simp [Act.eval, Array.getD_eq_getD_getElem?, hv']
          cases b with
          | true =>
            obtain ⟨o, F', M', hK, hx⟩ := exL_sound w0 n x _ M K r (fun z hz => hl z (List.mem_append_left _ hz)) h
            exact ⟨o, F', M', hK, fun σ a w hS Q hQ => wp_cond_true (hev σ a w hS) (hx σ a w (hS.know hb) Q hQ)⟩
          | false =>
            obtain ⟨o, F', M', hK, hx⟩ := exL_sound w0 n y _ M K r (fun z hz => hl z (List.mem_append_right _ hz)) h
            exact ⟨o, F', M', hK, fun σ a w hS Q hQ => wp_cond_false (hev σ a w hS) (hx σ a w (hS.know hb) Q hQ)⟩
        · cases h
      | const v => cases h
      | global g => cases h
      | func f => cases h
    | block id x =>
      simp only [exL] at h
      obtain ⟨o, F1, M1, hK1, hx⟩ := exL_sound w0 n x F M _ r hl h
      cases o with
      | norm => exact ⟨.norm, F1, M1, hK1, fun σ a w hS Q hQ => wp_block (hx σ a w hS _ fun σ' a' w' hs => hQ σ' a' w' hs)⟩
      | exit i =>
        by_cases hi : i = id
        · subst hi
          simp only [beq_self_eq_true, cond_true] at hK1
          exact ⟨.norm, F1, M1, hK1, fun σ a w hS Q hQ => wp_block (hx σ a w hS _ fun σ' a' w' hs => by simp only [Out.toExit, Exit.inBlock, if_true]; exact hQ σ' a' w' hs)⟩
        · have hb : (i == id) = false := by simpa using hi
          simp only [hb, cond_false] at hK1
          exact ⟨.exit i, F1, M1, hK1, fun σ a w hS Q hQ => wp_block (hx σ a w hS _ fun σ' a' w' hs => by simp only [Out.toExit, Exit.inBlock, hi, if_false]; exact hQ σ' a' w' hs)⟩
      | ret => exact ⟨.ret, F1, M1, hK1, fun σ a w hS Q hQ => wp_block (hx σ a w hS _ fun σ' a' w' hs => hQ σ' a' w' hs)⟩
    | loop x =>
      simp only [exL] at h
      cases hlp : lp F M with
      | none => simp [hlp] at h
      | some r' =>
        obtain ⟨o, F', M'⟩ := r'
        simp only [hlp] at h
        exact ⟨o, F', M', h, hl x (List.mem_singleton.2 rfl) F M o F' M' hlp⟩
    | exit id => exact ⟨.exit id, F, M, h, fun σ a w hS Q hQ => wp_exit (hQ σ a w hS)⟩
    | ret => exact ⟨.ret, F, M, h, fun σ a w hS Q hQ => wp_ret (hQ σ a w hS)⟩
    | _ => cases h

/-- A function's answer, with a rule for its loops. -/
def runL (P : Program) (E : List (Entry P)) (lp : List AV → List (List AC) → Option (Out × List AV × List (List AC))) (fn : Func) (args : List AV) : Option AV :=
  match fn.body with
  | none => none
  | some c => exL P E 0 lp 4000 c (args ++ List.replicate (fn.ntmps - args.length) undefA) [] fun o F M =>
    match o with
    | .exit _ => none
    | _ => match resultA P fn F M with
      | some v => cond (plainA v) (some v) none
      | none => none

theorem calls_of_goes {P : Program} {f : FuncId} {fn : Func} {c : Code} (hf : P.funcs[f]? = some fn) (hb : fn.body = some c) {args : List AV} {r : AV} (h : ∀ w0, ∃ o F' M', (match o with
      | .exit _ => none
      | _ => match resultA P fn F' M' with
        | some v => cond (plainA v) (some v) none
        | none => none) = some r ∧ CodeGoes P 0 w0 c (args ++ List.replicate (fn.ntmps - args.length) undefA) [] o F' M')
    (hp : args.all plainA = true) {σ : List (Nat × Nat)} {vs : List Value} {w : World} (ha0 : RepF σ args vs) : Calls P f vs.toArray w fun e w' => ∃ v, e = .returned v ∧ Rep σ r v ∧ Ext w w' := by
  have ha : RepF [] args vs := plainF hp ha0
  obtain ⟨o, F', M', hK, hc⟩ := h ⟨w, []⟩
  have fin : ∀ (hK' : (match resultA P fn F' M' with | some v => cond (plainA v) (some v) none | none => none) = some r) {σ' : List (Nat × Nat)} {a' : Act} {w' : World} (hs : St σ' 0 ⟨w, []⟩ F' M' a' w'),
      a'.defers = [] ∧ ∃ v, (results fn a'.tmps).run P w' = .ok v w' ∧ ∃ u, (Ending.returned v) = .returned u ∧ Rep σ r u ∧ Ext w w' := by
    intro hK' σ' a' w' hs
    cases hr : resultA P fn F' M' with
    | none => simp [hr] at hK'
    | some v =>
      simp only [hr] at hK'
      cases hp : plainA v with
      | false => simp [hp] at hK'
      | true =>
        simp only [hp, cond_true, Option.some.injEq] at hK'
        subst hK'
        obtain ⟨z, hz, hrz⟩ := results_sound (P := P) hs hr
        exact ⟨hs.defers, z, hz, z, rfl, plain_rep hp hrz, hs.ext⟩
  refine calls_of_wp hf hb (hc [] _ w ⟨rfl, ?_, MemOk.nil w, Ext.refl _, fun id b hid hbb => (by cases hbb), List.prefix_refl _⟩ _ fun σ' a' w' hs => ?_)
  · have hlen := ha.length
    have h1 : ∀ (n : Nat), RepF [] (List.replicate n undefA) (List.replicate n undef) := by
      intro n
      induction n with
      | zero => exact .nil
      | succ n ih => exact .cons rfl ih
    have h2 : ∀ {l l' : List AV} {us us' : List Value}, RepF [] l us → RepF [] l' us' → RepF [] (l ++ l') (us ++ us') := by
      intro l l' us us' h h'
      induction h with
      | nil => exact h'
      | cons h _ ih => exact .cons h ih
    simpa [hlen] using h2 ha (h1 (fn.ntmps - vs.length))
  · cases o with
    | norm => exact fin hK hs
    | ret => exact fin hK hs
    | exit id => cases hK

theorem gives_of_runL {P : Program} {E : List (Entry P)} {f : FuncId} {fn : Func} {c : Code} {lp : List AV → List (List AC) → Option (Out × List AV × List (List AC))} (hf : P.funcs[f]? = some fn) (hn : (fn.name == "runtime.NumGoroutine") = false) (hb : fn.body = some c)
    (hl : ∀ w0, ∀ x ∈ loopsOf c, ∀ F M o F' M', lp F M = some (o, F', M') → CodeGoes P 0 w0 (.loop x) F M o F' M')
    {args : List AV} {r : AV} (hp : args.all plainA = true) (h : runL P E lp fn args = some r)
    {σ : List (Nat × Nat)} {vs : List Value} {w : World} (ha : RepF σ args vs) : Gives P f vs.toArray w fun v w' => Rep σ r v ∧ Ext w w' := by
  refine .inr ⟨?_, calls_of_goes hf hb (fun w0 => ?_) hp ha⟩
  · have hn' : fn.name ≠ "runtime.NumGoroutine" := by simpa using hn
    simp [callFunc, hf, hn', hb]
  · unfold runL at h
    simp only [hb] at h
    exact exL_sound w0 4000 c _ [] _ r (hl w0) h

end Go.Proofs.Ytlpahmefebgdlaa.Fx
/- The executor, fifth part: regions whose order is drawn. No condition. -/
namespace Go.Proofs.Ytlpahmefebgdlaa.Fx
open Go Go.RowKit

/-- The value of an operation that leaves the memory as it is. -/
def valA (P : Program) (E : List (Entry P)) (F : List AV) (M : List (List AC)) (op : Op) : Option AV :=
  match op with
  | .pick c x y => match evA F c with
    | .c (.sb b) => some (cond b (evA F x) (evA F y))
    | _ => none
  | op => match opA P E F M op with
    | some (true, v) => some v
    | _ => none

/-- What an operation of a region puts into its slot. -/
def stepV (P : Program) (E : List (Entry P)) (ops : Array Oper) (M : List (List AC)) (o : Oper) (F : List AV) : Option AV :=
  match o.guard with
  | none => valA P E F M o.op
  | some (j, want) =>
    match (ops[j]?).bind (·.dst) with
    | none => none
    | some d =>
      match F[d]? with
      | some (.c (.sb b)) => cond (b == want) (valA P E F M o.op) (some undefA)
      | some (.c (.val (.tuple _))) => some undefA
      | _ => none

theorem evA_put {F : List AV} {dst : Option Tmp} {v : AV} {x : Operand} (h : ∀ d, dst = some d → x ≠ .tmp d) : evA (putA F dst v) x = evA F x := by
  cases dst with
  | none => rfl
  | some d =>
    cases x with
    | tmp t =>
      have hne : d ≠ t := fun e => h d rfl (e ▸ rfl)
      simp only [evA, putA, List.getD_eq_getElem?_getD, List.getElem?_set_ne hne]
    | _ => rfl

theorem opA_congr {P : Program} {E : List (Entry P)} {F F' : List AV} {M : List (List AC)} (op : Op) (h : ∀ x ∈ op.operands, evA F x = evA F' x) : opA P E F M op = opA P E F' M op := by
  cases op <;> simp only [Op.operands] at h <;> simp only [opA]
  case build t ps =>
    have hp : ∀ l : List (Nat × Operand), (∀ x ∈ l, evA F x.2 = evA F' x.2) → partsA F l = partsA F' l := by
      intro l
      induction l with
      | nil => intro _; rfl
      | cons p l ih =>
        intro hl
        obtain ⟨i, x⟩ := p
        have h1 := hl (i, x) List.mem_cons_self
        have h2 := ih fun x hx => hl x (List.mem_cons_of_mem _ hx)
        simp only [partsA, h1, h2]
    rw [hp ps.toList fun x hx => h x.2 (by
      have : x ∈ ps := by simpa using hx
      simpa using ⟨x.1, this⟩)]
  case call c =>
    have hargs : c.args.toList.map (evA F) = c.args.toList.map (evA F') := List.map_congr_left fun x hx => h x (by simp [Call.operands, Array.mem_def.2 hx])
    cases hc : c.callee with
    | value f =>
      have hf : evA F f = evA F' f := h f (by simp [Call.operands, hc])
      simp only [hf, hargs]
    | invoke r m => rfl
    | builtin b =>
      have ha : ∀ x ∈ c.args.toList, evA F x = evA F' x := fun x hx => h x (by simp [Call.operands, Array.mem_def.2 hx])
      have : biA F b c.argTypes P c.args.toList = biA F' b c.argTypes P c.args.toList := by
        generalize c.args.toList = l at ha
        match l, ha with
        | [], _ => simp [biA]
        | [x], ha => have e := ha x (by simp); cases b <;> simp only [biA, e]
        | [x, y], ha => have e := ha x (by simp); have e2 := ha y (by simp); cases b <;> simp only [biA, e, e2]
        | x :: y :: z :: l, _ => simp [biA]
      have hm : mmA F b c.args.toList = mmA F' b c.args.toList := by
        clear this
        generalize c.args.toList = l at ha
        match l, ha with
        | [], _ => simp [mmA]
        | [x], _ => cases b <;> simp [mmA]
        | [x, y], ha => have e := ha x (by simp); have e2 := ha y (by simp); cases b <;> simp only [mmA, e, e2]
        | x :: y :: z :: l, _ => simp [mmA]
      simp only [this, hm]
  case slice t x lo hi mx =>
    have hx : evA F x = evA F' x := h x (by simp)
    cases lo with
    | none => rfl
    | some l =>
      have hl : evA F l = evA F' l := h l (by simp)
      cases hi with
      | some _ => rfl
      | none => cases mx with
        | some _ => rfl
        | none => simp only [hx, hl]
  all_goals (first | rfl | (simp_all; done))

theorem valA_congr {P : Program} {E : List (Entry P)} {F F' : List AV} {M : List (List AC)} (op : Op) (h : ∀ x ∈ op.operands, evA F x = evA F' x) : valA P E F M op = valA P E F' M op := by
  have ho := opA_congr (P := P) (E := E) (M := M) op h
  cases op <;> simp only [valA, ho]
  case pick c x y =>
    simp only [Op.operands] at h
    rw [h c (by simp), h x (by simp), h y (by simp)]

theorem stepV_put {P : Program} {E : List (Entry P)} {ops : Array Oper} {M : List (List AC)} {o : Oper} {F : List AV} {dst : Option Tmp} {v : AV} (h : ∀ d, dst = some d → d ∉ o.looksAt ops) : stepV P E ops M o (putA F dst v) = stepV P E ops M o F := by
  have hv : valA P E (putA F dst v) M o.op = valA P E F M o.op := valA_congr o.op fun x hx => evA_put fun d hd hxd => h d hd (by
    subst hxd
    exact List.mem_append_left _ (List.mem_filterMap.2 ⟨.tmp d, by simpa using hx, rfl⟩))
  unfold stepV
  rw [hv]
  cases hg : o.guard with
  | none => rfl
  | some gw =>
    obtain ⟨j, want⟩ := gw
    cases ht : (ops[j]?).bind (·.dst) with
    | none => simp only [ht]
    | some t =>
      have he : (putA F dst v)[t]? = F[t]? := by
        cases dst with
        | none => rfl
        | some d =>
          have hne : d ≠ t := fun e => h d rfl (by subst e; simp [Oper.looksAt, hg, ht])
          simp only [putA, List.getElem?_set_ne hne]
      simp only [ht, he]

theorem putA_comm (F : List AV) {x y : Option Tmp} (v u : AV) (h : ∀ d, x = some d → y ≠ some d) : putA (putA F x v) y u = putA (putA F y u) x v := by
  cases x with
  | none => rfl
  | some d =>
    cases y with
    | none => rfl
    | some e =>
      have hne : d ≠ e := fun he => h d rfl (he ▸ rfl)
      simp only [putA]
      exact List.set_comm _ _ hne

/-- Whatever the order, the frame is this at the end. -/
def anyV (P : Program) (E : List (Entry P)) (md : Region.Mode) (ops : Array Oper) (M : List (List AC)) (F' : List AV) : Nat → Array Bool → List AV → Prop
  | 0, listed, F => Region.ready md ops listed = [] ∧ F = F'
  | fuel + 1, listed, F =>
    (Region.ready md ops listed = [] → F = F') ∧
    ∀ i ∈ Region.ready md ops listed, ∃ o v, ops[i]? = some o ∧ stepV P E ops M o F = some v ∧ anyV P E md ops M F' fuel (listed.setIfInBounds i true) (putA F o.dst v)

theorem anyV_first {P : Program} {E : List (Entry P)} {md : Region.Mode} {ops : Array Oper} {M : List (List AC)} {F' : List AV} {i : Nat} {oi : Oper} {v : AV} (hi : ops[i]? = some oi) :
    ∀ (fuel : Nat) (listed : Array Bool) (F : List AV),
      (∀ j oj, ops[j]? = some oj → j ≠ i → listed.getD j true = false → (∀ e ∈ oj.after, Region.binds md e = true → e.on ≠ i) → oi.apart ops oj = true) →
      i ∈ Region.ready md ops listed → stepV P E ops M oi F = some v →
      anyV P E md ops M F' fuel (listed.setIfInBounds i true) (putA F oi.dst v) → anyV P E md ops M F' (fuel + 1) listed F := by
  intro fuel
  induction fuel with
  | zero =>
    intro listed F _ hr hy H
    refine ⟨fun h => (by rw [h] at hr; cases hr), fun j hj => ?_⟩
    by_cases hji : j = i
    · subst hji; exact ⟨oi, v, hi, hy, H⟩
    · have := ready_mono hj hji
      rw [H.1] at this
      cases this
  | succ fuel ih =>
    intro listed F hfree hr hy H
    refine ⟨fun h => (by rw [h] at hr; cases hr), fun j hj => ?_⟩
    by_cases hji : j = i
    · subst hji; exact ⟨oi, v, hi, hy, H⟩
    · obtain ⟨oj', u, hoj', hu, hK⟩ := H.2 j (ready_mono hj hji)
      obtain ⟨hjun, oj, hoj, hall⟩ := mem_ready.1 hj
      rw [hoj] at hoj'
      have eo := Option.some.inj hoj'
      subst eo
      have hnot : ∀ e ∈ oj.after, Region.binds md e = true → e.on ≠ i := fun e he hb heq => by
        have h1 := hall e he hb
        have h0 := (mem_ready.1 hr).1
        rw [heq] at h1
        rcases Nat.lt_or_ge i listed.size with h' | h'
        · simp [h'] at h0 h1; rw [h0] at h1; cases h1
        · simp [Array.getElem?_eq_none h'] at h1
      obtain ⟨h1, h2, h3⟩ := Oper.apart_spec (hfree j oj hoj hji hjun hnot)
      rw [stepV_put h1] at hu
      refine ⟨oj, u, hoj, hu, ih (listed.setIfInBounds j true) (putA F oj.dst u) (fun k ok hk hki hun hno => ?_) (ready_mono hr (Ne.symm hji)) ?_ ?_⟩
      · refine hfree k ok hk hki ?_ hno
        by_cases hjk : j = k
        · subst hjk; exact hjun
        · rw [getD_set_ne true hjk] at hun; exact hun
      · rw [stepV_put h3]; exact hy
      · rw [Array.setIfInBounds_comm _ _ hji, ← putA_comm F v u h2]
        exact hK

/-- In the text's order. -/
def runV (P : Program) (E : List (Entry P)) (ops : Array Oper) (M : List (List AC)) : List Oper → List AV → Option (List AV)
  | [], F => some F
  | o :: l, F => match stepV P E ops M o F with
    | some v => runV P E ops M l (putA F o.dst v)
    | none => none

theorem anyV_lex {P : Program} {E : List (Entry P)} {md : Region.Mode} {ops : Array Oper} {M : List (List AC)} {F' : List AV} : ∀ (l : List Oper) (k : Nat) (listed : Array Bool) (F : List AV), (∀ j, l[j]? = ops[k + j]?) →
    Region.lexFrom md ops l.length k listed = true → runV P E ops M l F = some F' → anyV P E md ops M F' l.length listed F
  | [], _, _, _, _, hB, h => ⟨by simpa [Region.lexFrom] using hB, Option.some.inj h⟩
  | o :: l, k, listed, F, hl, hB, h => by
    have h0 : ops[k]? = some o := by simpa using (hl 0).symm
    simp only [List.length_cons, Region.lexFrom, Bool.and_eq_true] at hB
    obtain ⟨⟨hr, hf⟩, hB'⟩ := hB
    simp only [runV] at h
    split at h
    · rename_i v hv
      exact anyV_first h0 l.length listed F (Region.free_spec h0 hf) (by simpa using hr) hv
        (anyV_lex l (k + 1) _ _ (fun j => by have := hl (j + 1); simpa [Nat.add_assoc, Nat.add_comm 1 j] using this) hB' h)
    · cases h

theorem valA_sound {P : Program} {E : List (Entry P)} {F : List AV} {M : List (List AC)} {op : Op} {r : AV} {σ : List (Nat × Nat)} {a : Act} {w : World}
    (h : valA P E F M op = some r) (hF : RepF σ F a.tmps.toList) (hM : MemOk σ M w)
    {dst : Option Tmp} {ty : TypeId} {pos : String} {after : Array Edge} {gd : Option (Nat × Bool)} {next : Act → World → Prop} {Q : Exit → Act → World → Prop}
    (hn : ∀ v w', Rep σ r v → Ext w w' → next (a.put dst v) w') : Oper.wp P ⟨dst, op, ty, pos, after, gd⟩ a w next Q := by
  have via : (match opA P E F M op with | some (true, v) => some v | _ => none) = some r → Oper.wp P ⟨dst, op, ty, pos, after, gd⟩ a w next Q := by
    intro h
    split at h
    · rename_i v ho; cases h; exact opA_sound ho hF hM hn
    · cases h
  unfold valA at h
  split at h
  · rename_i c x y
    split at h
    · rename_i b eb
      cases h
      have hc := rep_ev hF c
      rw [eb] at hc
      have hc' : a.eval c = .bool b := hc
      unfold Oper.wp
      cases b with
      | true =>
        have : (execOp a.eval ⟨dst, .pick c x y, ty, pos, after, gd⟩).run P w = .ok (.value (a.eval x)) w := by simp [execOp, hc', asBool]
        rw [this]; exact hn _ _ (rep_ev hF x) (Ext.refl _)
      | false =>
        have : (execOp a.eval ⟨dst, .pick c x y, ty, pos, after, gd⟩).run P w = .ok (.value (a.eval y)) w := by simp [execOp, hc', asBool]
        rw [this]; exact hn _ _ (rep_ev hF y) (Ext.refl _)
    · cases h
  · exact via h

theorem anyV_sound {P : Program} {E : List (Entry P)} {md : Region.Mode} {ops : Array Oper} {M : List (List AC)} {F' : List AV} {n0 : Nat} {w0 : Base} {Q : Exit → Act → World → Prop} :
    ∀ (fuel : Nat) (listed : Array Bool) (F : List AV) (σ : List (Nat × Nat)) (a : Act) (w : World), anyV P E md ops M F' fuel listed F → St σ n0 w0 F M a w → (∀ σ' a' w', St σ' n0 w0 F' M a' w' → Q .normal a' w') →
    wpAny P md ops Q fuel listed a w
  | 0, listed, F, σ, a, w, h, hS, hQ => by
    obtain ⟨h1, rfl⟩ := h
    exact ⟨h1, hQ σ a w hS⟩
  | fuel + 1, listed, F, σ, a, w, h, hS, hQ => by
    refine ⟨fun h0 => ?_, fun i hi => ?_⟩
    · have := h.1 h0
      subst this
      exact hQ σ a w hS
    · obtain ⟨o, v, ho, hv, hK⟩ := h.2 i hi
      have skip : Region.wanted o (yielded ops a.tmps) = false → v = undefA → wpOp P ops Q i (wpAny P md ops Q fuel (listed.setIfInBounds i true)) a w := by
        intro hw he
        unfold wpOp
        simp only [ho]
        rw [if_neg (by rw [hw]; decide)]
        subst he
        exact anyV_sound fuel _ _ σ _ w hK (hS.put o.dst (x := undefA) (v := undef) rfl (Ext.refl _)) hQ
      have go : Region.wanted o (yielded ops a.tmps) = true → valA P E F M o.op = some v → wpOp P ops Q i (wpAny P md ops Q fuel (listed.setIfInBounds i true)) a w := by
        intro hw he
        unfold wpOp
        simp only [ho]
        rw [if_pos hw]
        refine .inl ?_
        obtain ⟨dst, op, ty, pos, after, gd⟩ := o
        exact valA_sound he hS.frame hS.mem fun u w' hu hx => anyV_sound fuel _ _ σ _ w' hK (hS.put dst hu hx) hQ
      unfold stepV at hv
      split at hv
      · rename_i hg
        exact go (by simp [Region.wanted, hg]) hv
      · rename_i j want hg
        split at hv
        · cases hv
        · rename_i d hd
          split at hv
          · rename_i b hb
            have hy := (yielded_of hS hd).1 b hb
            cases hbw : (b == want) with
            | true => rw [hbw] at hv; exact go (by simp [Region.wanted, hg, hy]; simpa using hbw) hv
            | false => rw [hbw] at hv; exact skip (by simp [Region.wanted, hg, hy]; simpa using hbw) (Option.some.inj hv).symm
          · rename_i vs hb
            exact skip (by simp [Region.wanted, hg, (yielded_of hS hd).2 vs hb]) (Option.some.inj hv).symm
          · cases hv

variable {R : Type}

/-- Operations that leave the memory as it is. -/
def pureOps (l : List Oper) : Bool := l.all fun o => match o.op with
  | .box .. | .alloc .. | .store .. | .buildSlice .. => false
  | _ => true

theorem stA_valA {P : Program} {E : List (Entry P)} {n0 : Nat} {op : Op} {dst : Option Tmp} {F : List AV} {M : List (List AC)} {K : List AV → List (List AC) → Option R} {r : R}
    (hp : (match op with | .box .. | .alloc .. | .store .. | .buildSlice .. => false | _ => true) = true) (h : stA P E n0 op dst F M K = some r) : ∃ v, valA P E F M op = some v ∧ K (putA F dst v) M = some r := by
  unfold stA at h
  split at h
  · rename_i c x y
    split at h
    · rename_i b eb
      refine ⟨cond b (evA F x) (evA F y), by simp only [valA, eb], ?_⟩
      cases b <;> exact h
    · cases h
  · cases hp
  · cases hp
  · cases hp
  · cases hp
  · rename_i h1 h2 h3 h4 h5
    split at h
    · rename_i ok v ho
      cases ok with
      | false => cases h
      | true =>
        refine ⟨v, ?_, h⟩
        unfold valA
        split
        · rename_i c x y; exact (h1 c x y rfl).elim
        · rw [ho]
    · cases h

theorem regA_runV {P : Program} {E : List (Entry P)} {n0 : Nat} {ops : Array Oper} {K : List AV → List (List AC) → Option R} {r : R} : ∀ (l : List Oper) {F : List AV} {M : List (List AC)}, pureOps l = true →
    regA P E n0 ops l F M K = some r → ∃ F', runV P E ops M l F = some F' ∧ K F' M = some r
  | [], F, M, _, h => ⟨F, rfl, h⟩
  | o :: rest, F, M, hp, h => by
    simp only [pureOps, List.all_cons, Bool.and_eq_true] at hp
    have same : ∀ {d : Nat} {b : Bool}, F[d]? = some (.c (.sb b)) → F.set d (.c (.sb b)) = F := by
      intro d b hd
      apply List.ext_getElem?
      intro i
      by_cases hi : d = i
      · subst hi
        rw [List.getElem?_set_self (List.getElem?_eq_some_iff.1 hd).1, hd]
      · rw [List.getElem?_set_ne hi]
    have go : stepV P E ops M o F = valA P E F M o.op → (stA P E n0 o.op o.dst F M fun F M => regA P E n0 ops rest F M K) = some r → ∃ F', runV P E ops M (o :: rest) F = some F' ∧ K F' M = some r := by
      intro hs h1
      obtain ⟨v, hv, hK⟩ := stA_valA hp.1 h1
      obtain ⟨F', h2, h3⟩ := regA_runV rest hp.2 hK
      exact ⟨F', by simp only [runV, hs, hv]; exact h2, h3⟩
    have skip : stepV P E ops M o F = some undefA → regA P E n0 ops rest (putA F o.dst undefA) M K = some r → ∃ F', runV P E ops M (o :: rest) F = some F' ∧ K F' M = some r := by
      intro hs h1
      obtain ⟨F', h2, h3⟩ := regA_runV rest hp.2 h1
      exact ⟨F', by simp only [runV, hs]; exact h2, h3⟩
    simp only [regA] at h
    split at h
    · rename_i hg
      exact go (by unfold stepV; rw [hg]) h
    · rename_i j want hg
      split at h
      · cases h
      · rename_i d hd
        split at h
        · rename_i b hb
          cases b with
          | true =>
            rw [same hb] at h
            cases want with
            | true => exact go (by unfold stepV; simp only [hg, hd, hb]; rfl) h
            | false => exact skip (by unfold stepV; simp only [hg, hd, hb]; rfl) h
          | false =>
            rw [same hb] at h
            cases want with
            | true => exact skip (by unfold stepV; simp only [hg, hd, hb]; rfl) h
            | false => exact go (by unfold stepV; simp only [hg, hd, hb]; rfl) h
        · rename_i vs hb
          exact skip (by unfold stepV; simp only [hg, hd, hb]) h
        · cases h

theorem St.drew {σ : List (Nat × Nat)} {n0 : Nat} {w0 : Base} {F : List AV} {M : List (List AC)} {a : Act} {w : World} (h : St σ n0 w0 F M a w) : St σ n0 w0 F M a { w with drawn := w.drawn + 1 } :=
  ⟨h.defers, h.frame, h.mem.ext ⟨rfl, rfl, rfl, Nat.le_refl _, fun _ _ => rfl⟩, h.ext.trans ⟨rfl, rfl, rfl, Nat.le_refl _, fun _ _ => rfl⟩, h.own, h.pre⟩

/-- A region whose order is drawn goes as in the text's order. -/
theorem regD_sound {P : Program} {E : List (Entry P)} {n0 : Nat} {id : Nat} {ops : Array Oper} {K : List AV → List (List AC) → Option R} {r : R} (w0 : Base) (hm : P.follows .mixedOrders = true) {F : List AV} {M : List (List AC)}
    (hp : pureOps ops.toList = true) (hB : Region.lexB .any ops = true) (h : regA P E n0 ops ops.toList F M K = some r) : ∃ F', K F' M = some r ∧ CodeGoes P n0 w0 (.region id ops true) F M .norm F' M := by
  obtain ⟨F', hr, hK⟩ := regA_runV ops.toList hp h
  simp only [Region.lexB, Bool.and_eq_true] at hB
  refine ⟨F', hK, fun σ a w hS Q hQ => wp_region_any hm ?_⟩
  have := anyV_lex (md := .any) ops.toList 0 (Array.replicate ops.size false) F (by simp) (by simpa using hB.2) hr
  exact anyV_sound ops.size _ F σ a _ (by simpa using this) hS.drew hQ

end Go.Proofs.Ytlpahmefebgdlaa.Fx
/- The executor, sixth part: functions with regions whose order is drawn. No condition. -/
namespace Go.Proofs.Ytlpahmefebgdlaa.Fx
open Go Go.RowKit

variable {R : Type}

/-- Code; n rounds deep at most. -/
def exO (P : Program) (E : List (Entry P)) (n0 : Nat) : Nat → Code → List AV → List (List AC) → (Out → List AV → List (List AC) → Option R) → Option R
  | 0, _, _, _, _ => none
  | n + 1, c, F, M, K =>
    match c with
    | .skip => K .norm F M
    | .region _ ops draw => cond draw (cond (P.follows .mixedOrders && (pureOps ops.toList && Region.lexB .any ops)) (regA P E n0 ops ops.toList F M fun F M => K .norm F M) none) (regA P E n0 ops ops.toList F M fun F M => K .norm F M)
    | .seq x y => exO P E n0 n x F M fun o F M =>
      match o with
      | .norm => exO P E n0 n y F M K
      | .exit id => K (.exit id) F M
      | .ret => K .ret F M
    | .cond (.tmp t) x y =>
      match F[t]? with
      | some (.c (.sb b)) => cond b (exO P E n0 n x (F.set t (.c (.sb true))) M K) (exO P E n0 n y (F.set t (.c (.sb false))) M K)
      | _ => none
    | .cond (.const (.bool b)) x y => cond b (exO P E n0 n x F M K) (exO P E n0 n y F M K)
    | .block id x => exO P E n0 n x F M fun o F M =>
      match o with
      | .norm => K .norm F M
      | .exit i => cond (i == id) (K .norm F M) (K (.exit i) F M)
      | .ret => K .ret F M
    | .loop x => exO P E n0 n x F M fun o F M =>
      match o with
      | .norm => exO P E n0 n (.loop x) F M K
      | .exit id => K (.exit id) F M
      | .ret => K .ret F M
    | .exit id => K (.exit id) F M
    | .ret => K .ret F M
    | _ => none

theorem exO_sound {P : Program} {E : List (Entry P)} {n0 : Nat} (w0 : Base) : ∀ (n : Nat),
    (∀ (c : Code) (F : List AV) (M : List (List AC)) (K : Out → List AV → List (List AC) → Option R) (r : R), exO P E n0 n c F M K = some r → ∃ o F' M', K o F' M' = some r ∧ CodeGoes P n0 w0 c F M o F' M') ∧
    (∀ (x : Code) (F : List AV) (M : List (List AC)) (K : Out → List AV → List (List AC) → Option R) (r : R), exO P E n0 n (.loop x) F M K = some r → ∃ o F' M', K o F' M' = some r ∧ ∃ N, ∀ (σ : List (Nat × Nat)) (a : Act) (w : World), St σ n0 w0 F M a w →
      ∀ (Q : Exit → Act → World → Prop), (∀ σ' a' w', St σ' n0 w0 F' M' a' w' → Q o.toExit a' w') → Code.rounds P x Q N a w)
  | 0 => ⟨(fun _ _ _ _ _ h => by cases h), (fun _ _ _ _ _ h => by cases h)⟩
  | n + 1 => by
    obtain ⟨ih1, ih2⟩ := exO_sound w0 n
    have hloop : ∀ (x : Code) (F : List AV) (M : List (List AC)) (K : Out → List AV → List (List AC) → Option R) (r : R), exO P E n0 (n + 1) (.loop x) F M K = some r → ∃ o F' M', K o F' M' = some r ∧ ∃ N, ∀ (σ : List (Nat × Nat)) (a : Act) (w : World), St σ n0 w0 F M a w →
      ∀ (Q : Exit → Act → World → Prop), (∀ σ' a' w', St σ' n0 w0 F' M' a' w' → Q o.toExit a' w') → Code.rounds P x Q N a w := by
      intro x F M K r h
      simp only [exO] at h
      obtain ⟨o, F1, M1, hK1, hx⟩ := ih1 x F M _ r h
      cases o with
      | norm =>
        obtain ⟨o, F', M', hK, N, hN⟩ := ih2 x F1 M1 K r hK1
        refine ⟨o, F', M', hK, N + 1, fun σ a w hS Q hQ => ?_⟩
        exact hx σ a w hS _ fun σ' a' w' hs => hN σ' a' w' hs Q hQ
      | exit id => exact ⟨.exit id, F1, M1, hK1, 1, fun σ a w hS Q hQ => hx σ a w hS _ fun σ' a' w' hs => hQ σ' a' w' hs⟩
      | ret => exact ⟨.ret, F1, M1, hK1, 1, fun σ a w hS Q hQ => hx σ a w hS _ fun σ' a' w' hs => hQ σ' a' w' hs⟩
    refine ⟨fun c F M K r h => ?_, hloop⟩
    cases c with
    | skip => exact ⟨.norm, F, M, h, fun σ a w hS Q hQ => wp_skip (hQ σ a w hS)⟩
    | region id ops draw =>
      simp only [exO] at h
      cases draw with
      | true =>
        cases hp : (P.follows .mixedOrders && (pureOps ops.toList && Region.lexB .any ops)) with
        | false => simp only [hp, cond_true, cond_false] at h; cases h
        | true =>
          simp only [hp, cond_true] at h
          simp only [Bool.and_eq_true] at hp
          obtain ⟨F', hK, hg⟩ := regD_sound w0 hp.1 hp.2.1 hp.2.2 h
          exact ⟨.norm, F', M, hK, hg⟩
      | false =>
        obtain ⟨F', M', hK, hl⟩ := regA_sound w0 ops.toList h
        exact ⟨.norm, F', M', hK, fun σ a w hS Q hQ => wp_region_list (hl σ a w hS Q hQ)⟩
    | seq x y =>
      simp only [exO] at h
      obtain ⟨o, F1, M1, hK1, hx⟩ := ih1 x F M _ r h
      cases o with
      | norm =>
        obtain ⟨o, F', M', hK, hy⟩ := ih1 y F1 M1 K r hK1
        exact ⟨o, F', M', hK, fun σ a w hS Q hQ => wp_seq (hx σ a w hS _ fun σ' a' w' hs => hy σ' a' w' hs Q hQ)⟩
      | exit id => exact ⟨.exit id, F1, M1, hK1, fun σ a w hS Q hQ => wp_seq (hx σ a w hS _ fun σ' a' w' hs => hQ σ' a' w' hs)⟩
      | ret => exact ⟨.ret, F1, M1, hK1, fun σ a w hS Q hQ => wp_seq (hx σ a w hS _ fun σ' a' w' hs => hQ σ' a' w' hs)⟩
    | cond c x y =>
      cases c with
      | tmp t =>
        simp only [exO] at h
        split at h
        · rename_i b hb
          have hev : ∀ σ a w, St σ n0 w0 F M a w → a.eval (.tmp t) = .bool b := by
            intro σ a w hS
            obtain ⟨v, hv, hr⟩ := hS.frame.get? hb
            have hr' : v = .bool b := hr
            subst hr'
            have hv' : a.tmps[t]? = some (.bool b) := by simpa using hv
            simp [Act.eval, Array.getD_eq_getD_getElem?, hv']
          cases b with
          | true =>
            obtain ⟨o, F', M', hK, hx⟩ := ih1 x _ M K r h
            exact ⟨o, F', M', hK, fun σ a w hS Q hQ => wp_cond_true (hev σ a w hS) (hx σ a w (hS.know hb) Q hQ)⟩
          | false =>
            obtain ⟨o, F', M', hK, hx⟩ := ih1 y _ M K r h
            exact ⟨o, F', M', hK, fun σ a w hS Q hQ => wp_cond_false (hev σ a w hS) (hx σ a w (hS.know hb) Q hQ)⟩
        · cases h
      | const v =>
        cases v with
        | bool b =>
          simp only [exO] at h
          cases b with
          | true =>
            obtain ⟨o, F', M', hK, hx⟩ := ih1 x _ M K r h
            exact ⟨o, F', M', hK, fun σ a w hS Q hQ => wp_cond_true rfl (hx σ a w hS Q hQ)⟩
          | false =>
            obtain ⟨o, F', M', hK, hx⟩ := ih1 y _ M K r h
            exact ⟨o, F', M', hK, fun σ a w hS Q hQ => wp_cond_false rfl (hx σ a w hS Q hQ)⟩
        | _ => cases h
      | global g => cases h
      | func f => cases h
    | block id x =>
      simp only [exO] at h
      obtain ⟨o, F1, M1, hK1, hx⟩ := ih1 x F M _ r h
      cases o with
      | norm => exact ⟨.norm, F1, M1, hK1, fun σ a w hS Q hQ => wp_block (hx σ a w hS _ fun σ' a' w' hs => hQ σ' a' w' hs)⟩
      | exit i =>
        by_cases hi : i = id
        · subst hi
          simp only [beq_self_eq_true, cond_true] at hK1
          exact ⟨.norm, F1, M1, hK1, fun σ a w hS Q hQ => wp_block (hx σ a w hS _ fun σ' a' w' hs => by simp only [Out.toExit, Exit.inBlock, if_true]; exact hQ σ' a' w' hs)⟩
        · have hb : (i == id) = false := by simpa using hi
          simp only [hb, cond_false] at hK1
          exact ⟨.exit i, F1, M1, hK1, fun σ a w hS Q hQ => wp_block (hx σ a w hS _ fun σ' a' w' hs => by simp only [Out.toExit, Exit.inBlock, hi, if_false]; exact hQ σ' a' w' hs)⟩
      | ret => exact ⟨.ret, F1, M1, hK1, fun σ a w hS Q hQ => wp_block (hx σ a w hS _ fun σ' a' w' hs => hQ σ' a' w' hs)⟩
    | loop x =>
      obtain ⟨o, F', M', hK, N, hN⟩ := hloop x F M K r h
      exact ⟨o, F', M', hK, fun σ a w hS Q hQ => wp_loop_rounds N (hN σ a w hS Q hQ)⟩
    | exit id => exact ⟨.exit id, F, M, h, fun σ a w hS Q hQ => wp_exit (hQ σ a w hS)⟩
    | ret => exact ⟨.ret, F, M, h, fun σ a w hS Q hQ => wp_ret (hQ σ a w hS)⟩
    | _ => cases h

/-- A function's answer: its body, run. -/
def runO (P : Program) (E : List (Entry P)) (fn : Func) (args : List AV) (M : List (List AC)) : Option AV :=
  match fn.body with
  | none => none
  | some c => exO P E M.length 4000 c (args ++ List.replicate (fn.ntmps - args.length) undefA) M fun o F M =>
    match o with
    | .exit _ => none
    | _ => match resultA P fn F M with
      | some v => cond (plainA v) (some v) none
      | none => none

/-- THE EXECUTOR IS RIGHT: from a function's answer to what its call does. -/
theorem runO_sound {P : Program} {E : List (Entry P)} {f : FuncId} {fn : Func} (hf : P.funcs[f]? = some fn) {args : List AV} {M : List (List AC)} {r : AV} (h : runO P E fn args M = some r)
    {σ : List (Nat × Nat)} {vs : List Value} {w : World} (hM : MemOk σ M w) (ha : RepF σ args vs) :
    Calls P f vs.toArray w fun e w' => ∃ v, e = .returned v ∧ Rep σ r v ∧ Ext w w' := by
  unfold runO at h
  split at h
  · cases h
  · rename_i c hb
    obtain ⟨o, F', M', hK, hc⟩ := (exO_sound ⟨w, σ⟩ 4000).1 c _ M _ r h
    have fin : ∀ (hK' : (match resultA P fn F' M' with | some v => cond (plainA v) (some v) none | none => none) = some r) {σ' : List (Nat × Nat)} {a' : Act} {w' : World} (hs : St σ' M.length ⟨w, σ⟩ F' M' a' w'),
        a'.defers = [] ∧ ∃ v, (results fn a'.tmps).run P w' = .ok v w' ∧ ∃ u, (Ending.returned v) = .returned u ∧ Rep σ r u ∧ Ext w w' := by
      intro hK' σ' a' w' hs
      cases hr : resultA P fn F' M' with
      | none => simp [hr] at hK'
      | some v =>
        simp only [hr] at hK'
        cases hp : plainA v with
        | false => simp [hp] at hK'
        | true =>
          simp only [hp, cond_true, Option.some.injEq] at hK'
          subst hK'
          obtain ⟨z, hz, hrz⟩ := results_sound (P := P) hs hr
          exact ⟨hs.defers, z, hz, z, rfl, plain_rep hp hrz, hs.ext⟩
    refine calls_of_wp hf hb (hc σ _ w ⟨rfl, ?_, hM, Ext.refl _, fun id b hid hbb => ?_, List.prefix_refl _⟩ _ fun σ' a' w' hs => ?_)
    · have hlen := ha.length
      have h1 : ∀ (n : Nat), RepF σ (List.replicate n undefA) (List.replicate n undef) := by
        intro n
        induction n with
        | zero => exact .nil
        | succ n ih => exact .cons rfl ih
      have h2 : ∀ {l l' : List AV} {us us' : List Value}, RepF σ l us → RepF σ l' us' → RepF σ (l ++ l') (us ++ us') := by
        intro l l' us us' h h'
        induction h with
        | nil => exact h'
        | cons h _ ih => exact .cons h ih
      simpa [hlen] using h2 ha (h1 (fn.ntmps - vs.length))
    · have := (List.getElem?_eq_some_iff.1 hbb).1
      rw [hM.len] at this
      omega
    · cases o with
      | norm => exact fin hK hs
      | ret => exact fin hK hs
      | exit id => cases hK

/-- A function with a body, as an entry: what the executor answers of it is what is said. -/
theorem gives_of_runO {P : Program} {E : List (Entry P)} {f : FuncId} {fn : Func} (hf : P.funcs[f]? = some fn) (hn : (fn.name == "runtime.NumGoroutine") = false) {args : List AV} {M : List (List AC)} {r : AV} (h : runO P E fn args M = some r)
    {σ : List (Nat × Nat)} {vs : List Value} {w : World} (hM : MemOk σ M w) (ha : RepF σ args vs) : Gives P f vs.toArray w fun v w' => Rep σ r v ∧ Ext w w' := by
  refine .inr ⟨?_, runO_sound hf h hM ha⟩
  have hb : fn.body.isNone = false := by
    unfold runO at h
    split at h
    · cases h
    · rename_i c hb; rw [hb]; rfl
  have hn' : fn.name ≠ "runtime.NumGoroutine" := by simpa using hn
  have hb' : fn.body ≠ none := by intro e; rw [e] at hb; cases hb
  simp [callFunc, hf, hn', hb']

theorem runO_plain {P : Program} {E : List (Entry P)} {fn : Func} {args : List AV} {M : List (List AC)} {r : AV} (h : runO P E fn args M = some r) : plainA r = true := by
  unfold runO at h
  split at h
  · cases h
  · obtain ⟨o, F', M', hK, _⟩ := (exO_sound ⟨default, []⟩ 4000).1 _ _ _ _ _ h
    have fin : (match resultA P fn F' M' with | some v => cond (plainA v) (some v) none | none => none) = some r → plainA r = true := by
      intro hK
      cases hr : resultA P fn F' M' with
      | none => simp [hr] at hK
      | some v =>
        simp only [hr] at hK
        cases hp : plainA v with
        | false => simp [hp] at hK
        | true => simp only [hp, cond_true, Option.some.injEq] at hK; subst hK; exact hp
    cases o with
    | norm => exact fin hK
    | ret => exact fin hK
    | exit id => cases hK

/-- An entry's proof, for arguments without pointers. -/
theorem gives0O {P : Program} {E : List (Entry P)} {f : FuncId} {fn : Func} (hf : P.funcs[f]? = some fn) (hn : (fn.name == "runtime.NumGoroutine") = false) {args : List AV} {r : AV} (hp : args.all plainA = true)
    (h : runO P E fn args [] = some r) {σ : List (Nat × Nat)} {vs : List Value} {w : World} (ha : RepF σ args vs) : Gives P f vs.toArray w fun v w' => Rep σ r v ∧ Ext w w' := by
  have hr := runO_plain h
  rcases gives_of_runO hf hn h (MemOk.nil w) (plainF (τ := []) hp ha) with ⟨v, w', h1, h2, h3⟩ | ⟨h1, h2⟩
  · exact .inl ⟨v, w', h1, plain_rep hr h2, h3⟩
  · exact .inr ⟨h1, h2.mono fun e w' ⟨v, he, hv, hw⟩ => ⟨v, he, plain_rep hr hv, hw⟩⟩


/-- An entry's proof, for one pointer and arguments without pointers. -/
theorem gives_ptr {P : Program} {E : List (Entry P)} {f : FuncId} {fn : Func} (hf : P.funcs[f]? = some fn) (hn : (fn.name == "runtime.NumGoroutine") = false) {cs : List AC} {rest : List AV} {r : AV}
    (h : runO P E fn (.c (.ptr 0 0) :: rest) [cs] = some r) (hp : rest.all plainA = true) (hc : cs.all plainC = true) {σ : List (Nat × Nat)} {M : List (List AC)} {id : Nat} {vs : List Value} {w : World}
    (hM : MemOk σ M w) (hid : M[id]? = some cs) (ha : RepF σ (.c (.ptr id 0) :: rest) vs) : Gives P f vs.toArray w fun v w' => Rep σ r v ∧ Ext w w' := by
  have hr := runO_plain h
  cases ha with
  | cons h1 h2 =>
    obtain ⟨b, hb, hv⟩ := h1
    have hM' : MemOk [b] [cs] w := ⟨rfl, by simp, fun i b' cs' hb' hc' => by
      cases i with
      | zero =>
        cases hb'; cases hc'
        obtain ⟨vs, e, hw, ⟨k, hl⟩, hs⟩ := hM.at_ id b cs hb hid
        exact ⟨vs, e, hw, ⟨k, plainL_rep (by simp [hc]; right; rfl) hl⟩, hs⟩
      | succ i => cases hb'⟩
    have ha' : RepF [b] (.c (.ptr 0 0) :: rest) _ := .cons ⟨b, rfl, hv⟩ (plainF hp h2)
    rcases gives_of_runO hf hn h hM' ha' with ⟨v, w', h3, h4, h5⟩ | ⟨h3, h4⟩
    · exact .inl ⟨v, w', h3, plain_rep hr h4, h5⟩
    · exact .inr ⟨h3, h4.mono fun e w' ⟨v, he, hv, hw⟩ => ⟨v, he, plain_rep hr hv, hw⟩⟩

end Go.Proofs.Ytlpahmefebgdlaa.Fx
