/- The executor, third part: statements, regions, code and calls. No condition. -/
import Derived.Test.YtlpahmefebgdlaaEy
namespace Go.Proofs.Ytlpahmefebgdlaa.Fx
open Go Go.RowKit

/-- Where a run began: its world, and the blocks known then. -/
structure Base extends World where
  s0 : List (Nat × Nat)

/-- Where a run stands. -/
structure St (σ : List (Nat × Nat)) (n0 : Nat) (w0 : Base) (F : List AV) (M : List (List AC)) (a : Act) (w : World) : Prop where
  defers : a.defers = []
  frame : RepF σ F a.tmps.toList
  mem : MemOk σ M w
  ext : Ext w0.toWorld w
  own : ∀ (id : Nat) (b : Nat × Nat), n0 ≤ id → σ[id]? = some b → w0.heap.size ≤ b.1
  pre : w0.s0 <+: σ

def undefA : AV := .c (.val undef)

def putA (F : List AV) (dst : Option Tmp) (v : AV) : List AV :=
  match dst with
  | some d => F.set d v
  | none => F

theorem rep_put {σ : List (Nat × Nat)} {F : List AV} {a : Act} (h : RepF σ F a.tmps.toList) (dst : Option Tmp) {x : AV} {v : Value} (hx : Rep σ x v) : RepF σ (putA F dst x) (a.put dst v).tmps.toList := by
  cases dst with
  | none => exact h
  | some d =>
    simp only [putA, Act.put, Array.toList_setIfInBounds]
    exact h.set d hx

theorem St.put {σ : List (Nat × Nat)} {n0 : Nat} {w0 : Base} {F : List AV} {M : List (List AC)} {a : Act} {w w' : World} (h : St σ n0 w0 F M a w) (dst : Option Tmp) {x : AV} {v : Value} (hx : Rep σ x v) (hw : Ext w w') :
    St σ n0 w0 (putA F dst x) M (a.put dst v) w' :=
  ⟨by cases dst <;> exact h.defers, rep_put h.frame dst hx, h.mem.ext hw, h.ext.trans hw, h.own, h.pre⟩

/-- A slot that holds a bool, by the bool's value. -/
theorem St.know {σ : List (Nat × Nat)} {n0 : Nat} {w0 : Base} {F : List AV} {M : List (List AC)} {a : Act} {w : World} (h : St σ n0 w0 F M a w) {d : Nat} {b : Bool} (hd : F[d]? = some (.c (.sb b))) :
    St σ n0 w0 (F.set d (.c (.sb b))) M a w := by
  have : F.set d (.c (.sb b)) = F := by
    apply List.ext_getElem?
    intro i
    by_cases hi : d = i
    · subst hi
      rw [List.getElem?_set_self (List.getElem?_eq_some_iff.1 hd).1, hd]
    · rw [List.getElem?_set_ne hi]
  rw [this]; exact h

theorem MemOk.push {σ : List (Nat × Nat)} {M : List (List AC)} {w : World} (h : MemOk σ M w) {l : List AC} {vs : Array Value} {e : TypeId} {c : Nat} (hl : RepP σ l vs.toList) (hc : c ≤ vs.size) :
    MemOk (σ ++ [(w.heap.size, c)]) (M ++ [l]) (w.alloc (.cells vs e)) := by
  refine ⟨by simp [h.len], ?_, ?_⟩
  · rw [List.map_append, List.nodup_append]
    refine ⟨h.nodup, by simp, fun a ha b hb => ?_⟩
    simp only [List.map_cons, List.map_nil, List.mem_singleton] at hb
    subst hb
    obtain ⟨p, hp, rfl⟩ := List.mem_map.1 ha
    obtain ⟨i, hi⟩ := List.getElem?_of_mem hp
    have := h.lt hi
    omega
  · intro id b cs hb hcs
    by_cases hi : id < σ.length
    · rw [List.getElem?_append_left hi] at hb
      rw [List.getElem?_append_left (by rw [← h.len]; exact hi)] at hcs
      obtain ⟨vs', e', hw, hr, hs⟩ := h.at_ id b cs hb hcs
      refine ⟨vs', e', ?_, hr.mono _, hs⟩
      rw [Below.heap_alloc _ _ _ (h.lt hb)]; exact hw
    · have hid : id = σ.length := by
        have := (List.getElem?_eq_some_iff.1 hb).1
        simp at this; omega
      subst hid
      simp only [List.getElem?_append_right (Nat.le_refl _), Nat.sub_self, List.getElem?_cons_zero, Option.some.injEq] at hb
      rw [h.len] at hcs
      simp only [List.getElem?_append_right (Nat.le_refl _), Nat.sub_self, List.getElem?_cons_zero, Option.some.injEq] at hcs
      subst hb hcs
      exact ⟨vs, e, by show (w.heap.push _)[w.heap.size]? = _; rw [Array.getElem?_push_size], hl.mono _, hc⟩

theorem Ext.alloc (w : World) (o : Obj) : Ext w (w.alloc o) := (Below.refl _ _).alloc (Nat.le_refl _) _

theorem St.push {σ : List (Nat × Nat)} {n0 : Nat} {w0 : Base} {F : List AV} {M : List (List AC)} {a : Act} {w : World} (h : St σ n0 w0 F M a w) {l : List AC} {vs : Array Value} {e : TypeId} {c : Nat} (hl : RepL σ l vs.toList) (hc : c ≤ vs.size)
    (dst : Option Tmp) {x : AV} {v : Value} (hx : Rep (σ ++ [(w.heap.size, c)]) x v) : St (σ ++ [(w.heap.size, c)]) n0 w0 (putA F dst x) (M ++ [l]) (a.put dst v) (w.alloc (.cells vs e)) := by
  refine ⟨by cases dst <;> exact h.defers, rep_put (h.frame.mono _) dst hx, h.mem.push (.of hl) hc, h.ext.trans (Ext.alloc _ _), fun id b hid hb => ?_, h.pre.trans (List.prefix_append _ _)⟩
  by_cases hi : id < σ.length
  · rw [List.getElem?_append_left hi] at hb; exact h.own id b hid hb
  · have hid' : id = σ.length := by
      have := (List.getElem?_eq_some_iff.1 hb).1
      simp at this; omega
    subst hid'
    simp only [List.getElem?_append_right (Nat.le_refl _), Nat.sub_self, List.getElem?_cons_zero, Option.some.injEq] at hb
    subst hb
    exact h.ext.size

/-- Cells put over others, as a store does. -/
def overA (cs : List AC) (off : Nat) (l : List AC) : List AC := cs.take off ++ l ++ cs.drop (off + l.length)

theorem Ext.setRow {w0 w : World} (h : Ext w0 w) {b : Nat} (hb : w0.heap.size ≤ b) (cs : Array Value) : Ext w0 (w.setRow b cs) :=
  Below.trans h ⟨rfl, rfl, rfl, by simp, fun k hk => by
    simp only [World.setRow, Array.getElem?_modify]
    rw [if_neg (by omega)]⟩

theorem MemOk.setRow {σ : List (Nat × Nat)} {M : List (List AC)} {w : World} (h : MemOk σ M w) {id : Nat} {b : Nat × Nat} (hb : σ[id]? = some b) {l : List AC} {vs : Array Value} (hl : RepP σ l vs.toList) (hc : b.2 ≤ vs.size) :
    MemOk σ (M.set id l) (w.setRow b.1 vs) := by
  refine ⟨by simp [h.len], h.nodup, fun id' b' cs hb' hc' => ?_⟩
  by_cases hi : id = id'
  · subst hi
    rw [hb] at hb'
    cases hb'
    have hlt : id < M.length := by rw [← h.len]; exact (List.getElem?_eq_some_iff.1 hb).1
    rw [List.getElem?_set_self hlt] at hc'
    cases hc'
    obtain ⟨vs', e', hw, _⟩ := h.at_ id b M[id] hb (List.getElem?_eq_getElem hlt)
    exact ⟨vs, e', setRow_heap w b.1 vs' vs e' (0, 0) hw, hl, hc⟩
  · rw [List.getElem?_set_ne hi] at hc'
    obtain ⟨vs', e', hw, hr⟩ := h.at_ id' b' cs hb' hc'
    have hne : b.1 ≠ b'.1 := fun e => by
      have h1 : (σ.map (·.1))[id]? = some b.1 := by rw [List.getElem?_map, hb]; rfl
      have h2 : (σ.map (·.1))[id']? = some b'.1 := by rw [List.getElem?_map, hb']; rfl
      have := (List.getElem?_inj (List.getElem?_eq_some_iff.1 h1).1 h.nodup).1 (h1.trans (by rw [e, h2]))
      exact hi this
    refine ⟨vs', e', ?_, hr⟩
    simp only [World.setRow, Array.getElem?_modify]
    rw [if_neg hne]; exact hw

/-- The parts of a slice literal, all given in order, of one cell each. -/
def denseA (F : List AV) : Nat → List (Nat × Operand) → Option (List AC)
  | _, [] => some []
  | k, (i, x) :: rest =>
    match evA F x, denseA F (k + 1) rest with
    | .c y, some r => if i = k ∧ oneA y = true then some (y :: r) else none
    | _, _ => none

theorem denseA_sound {σ : List (Nat × Nat)} {F : List AV} {a : Act} (hF : RepF σ F a.tmps.toList) : ∀ (ps : List (Nat × Operand)) (k : Nat) (l : List AC), denseA F k ps = some l →
    ∃ vs : List Value, (ps.map fun x => (x.1, a.eval x.2)) = (vs.zipIdx k).map (fun x => (x.2, x.1)) ∧ RepL σ l vs ∧ vs.length = ps.length ∧ ∀ v ∈ vs, v.cells = #[v]
  | [], k, l, h => by cases h; exact ⟨[], rfl, .nil, rfl, fun v hv => by cases hv⟩
  | (i, x) :: rest, k, l, h => by
    simp only [denseA] at h
    split at h
    · rename_i y r hy hr
      split at h
      · rename_i hc
        cases h
        obtain ⟨vs, h1, h2, h3, h4⟩ := denseA_sound hF rest (k + 1) r hr
        have hx := rep_ev hF x
        rw [hy] at hx
        refine ⟨a.eval x :: vs, ?_, .cons hx h2, by simp [h3], fun v hv => ?_⟩
        · simp only [List.map_cons, List.zipIdx_cons, h1, hc.1]
        · rcases List.mem_cons.1 hv with rfl | hv
          · exact (oneA_cells hx hc.2).1
          · exact h4 v hv
      · cases h
    · cases h

variable {R : Type}

/-- A statement. -/
def stA (P : Program) (E : List (Entry P)) (n0 : Nat) (op : Op) (dst : Option Tmp) (F : List AV) (M : List (List AC)) (K : List AV → List (List AC) → Option R) : Option R :=
  match op with
  | .pick c x y => match evA F c with
    | .c (.sb b) => cond b (K (putA F dst (evA F x)) M) (K (putA F dst (evA F y)) M)
    | _ => none
  | .box _ x => match cellsOk (evA F x) with
    | some l => K (putA F dst (.c (.ptr M.length 0))) (M ++ [l])
    | none => none
  | .alloc t => match (P.info? t).bind (·.zero) with
    | some z => K (putA F dst (.c (.ptr M.length 0))) (M ++ [z.cells.toList.map toC])
    | none => none
  | .store t x y => match evA F x, cellsOk (evA F y), P.info? t with
    | .c (.ptr id off), some l, some i => match M[id]? with
      | some cs => if n0 ≤ id ∧ l.length = i.size ∧ off + l.length ≤ cs.length then K (putA F dst undefA) (M.set id (overA cs off l)) else none
      | none => none
    | _, _, _ => none
  | .buildSlice t len parts => match P.underlying t with
    | some (.slice e) => match P.info? e, denseA F 0 parts.toList with
      | some ie, some l => if ie.size = 1 ∧ ie.zero.isSome = true ∧ l.length = len ∧ 0 < len ∧ len ≤ 1000 then K (putA F dst (.c (.slc M.length len))) (M ++ [l]) else none
      | _, _ => none
    | _ => none
  | op => match opA P E F M op with
    | some (ok, v) => cond ok (K (putA F dst v) M) none
    | none => none

/-- From every state that fits, the operation leads to states that fit. -/
def OpGoes (P : Program) (n0 : Nat) (w0 : Base) (op : Op) (dst : Option Tmp) (F : List AV) (M : List (List AC)) (F' : List AV) (M' : List (List AC)) : Prop :=
  ∀ (σ : List (Nat × Nat)) (a : Act) (w : World), St σ n0 w0 F M a w → ∀ (ty : TypeId) (pos : String) (after : Array Edge) (gd : Option (Nat × Bool)) (next : Act → World → Prop) (Q : Exit → Act → World → Prop),
    (∀ σ' a' w', St σ' n0 w0 F' M' a' w' → next a' w') → Oper.wp P ⟨dst, op, ty, pos, after, gd⟩ a w next Q

theorem goes_val {P : Program} {n0 : Nat} {op : Op} {dst : Option Tmp} {F' : List AV} {M' : List (List AC)} {w0 : Base} {a : Act} {w w' : World} {v : Value} {σ' : List (Nat × Nat)}
    (he : ∀ ty pos after gd, (execOp a.eval ⟨dst, op, ty, pos, after, gd⟩).run P w = .ok (.value v) w') (hs : St σ' n0 w0 F' M' (a.put dst v) w') :
    ∀ (ty : TypeId) (pos : String) (after : Array Edge) (gd : Option (Nat × Bool)) (next : Act → World → Prop) (Q : Exit → Act → World → Prop),
      (∀ σ' a' w', St σ' n0 w0 F' M' a' w' → next a' w') → Oper.wp P ⟨dst, op, ty, pos, after, gd⟩ a w next Q := by
  intro ty pos after gd next Q hn
  unfold Oper.wp
  rw [he]
  exact hn _ _ _ hs

theorem new_id {σ : List (Nat × Nat)} {M : List (List AC)} {w : World} {c : Nat} (h : MemOk σ M w) : (σ ++ [(w.heap.size, c)])[M.length]? = some (w.heap.size, c) := by
  rw [← h.len, List.getElem?_append_right (Nat.le_refl _), Nat.sub_self]; rfl

theorem stA_sound {P : Program} {E : List (Entry P)} {n0 : Nat} {op : Op} {dst : Option Tmp} {F : List AV} {M : List (List AC)} {K : List AV → List (List AC) → Option R} {r : R} (w0 : Base)
    (h : stA P E n0 op dst F M K = some r) : ∃ F' M', K F' M' = some r ∧ OpGoes P n0 w0 op dst F M F' M' := by
  have viaOp : (match opA P E F M op with
    | some (ok, v) => cond ok (K (putA F dst v) M) none
    | none => none) = some r → ∃ F' M', K F' M' = some r ∧ OpGoes P n0 w0 op dst F M F' M' := by
    intro h
    split at h
    · rename_i ok v ho
      cases ok with
      | false => cases h
      | true => exact ⟨_, _, h, fun σ a w hS ty pos after gd next Q hn => opA_sound ho hS.frame hS.mem fun u w' hu hw => hn _ _ _ (hS.put dst hu hw)⟩
    · cases h
  unfold stA at h
  split at h
  · rename_i c x y
    split at h
    · rename_i b eb
      cases b with
      | true =>
        refine ⟨_, _, h, fun σ a w hS => ?_⟩
        have hc := rep_ev hS.frame c
        rw [eb] at hc
        have hc' : a.eval c = .bool true := hc
        exact goes_val (v := a.eval x) (fun ty pos after gd => by simp [execOp, hc', asBool]) (hS.put dst (rep_ev hS.frame x) (Ext.refl _))
      | false =>
        refine ⟨_, _, h, fun σ a w hS => ?_⟩
        have hc := rep_ev hS.frame c
        rw [eb] at hc
        have hc' : a.eval c = .bool false := hc
        exact goes_val (v := a.eval y) (fun ty pos after gd => by simp [execOp, hc', asBool]) (hS.put dst (rep_ev hS.frame y) (Ext.refl _))
    · cases h
  · rename_i t x
    split at h
    · rename_i l hl
      exact ⟨_, _, h, fun σ a w hS => goes_val (v := .pointer (some ⟨w.heap.size, 0, none⟩)) (w' := w.alloc (.cells (a.eval x).cells t)) (fun ty pos after gd => rfl)
        (hS.push (c := 0) (cellsOk_sound hl (rep_ev hS.frame x)).1 (Nat.zero_le _) dst ⟨(w.heap.size, 0), new_id hS.mem, rfl⟩)⟩
    · cases h
  · rename_i t
    split at h
    · rename_i z hz
      refine ⟨_, _, h, fun σ a w hS => goes_val (v := .pointer (some ⟨w.heap.size, 0, none⟩)) (w' := w.alloc (.cells z.cells t)) (fun ty pos after gd => ?_)
        (hS.push (c := 0) (rep_map_toC σ _) (Nat.zero_le _) dst ⟨(w.heap.size, 0), new_id hS.mem, rfl⟩)⟩
      cases hi : P.info? t with
      | none => simp [hi] at hz
      | some i =>
        simp only [hi, Option.bind_some] at hz
        simp [execOp, Instr.alloc, zeroValue, typeInfo, hi, hz, newVar, newRow]
    · cases h
  · rename_i t x y
    split at h
    · rename_i id off l i ex hl hi
      split at h
      · rename_i cs hcs
        split at h
        · rename_i hc
          obtain ⟨hid, hlen, hle⟩ := hc
          refine ⟨_, _, h, fun σ a w hS ty pos after gd next Q hn => ?_⟩
          have hx := rep_ev hS.frame x
          rw [ex] at hx
          obtain ⟨b, hb, hv⟩ := hx
          obtain ⟨vs, e, hw, hP, hcap⟩ := hS.mem.at_ id b cs hb hcs
          have hPl := hP.le
          obtain ⟨kk, hvs⟩ := hP
          obtain ⟨hl1, hl2⟩ := cellsOk_sound hl (rep_ev hS.frame y)
          have e1 : l.length = (a.eval y).cells.toList.length := hl1.length
          have e3 : (a.eval y).cells.toList.length = (a.eval y).cells.size := by simp
          have hst := run_storeCells_at (P := P) b.1 off e (a.eval y).cells.toList 0 vs w hw (by simp only [Array.length_toList] at hPl ⊢; omega) hl2
          simp only [Nat.add_zero] at hst
          have hrun : (storeVar t ⟨b.1, off, none⟩ (a.eval y)).run P w = .ok () (w.setRow b.1 (vs.toList.take off ++ (a.eval y).cells.toList ++ vs.toList.drop (off + (a.eval y).cells.toList.length)).toArray) := by
            have : ¬ (a.eval y).cells.size ≠ i.size := by omega
            simp only [storeVar, sizeOf, typeInfo, Sem.run_bind, run_program, hi, Sem.run_pure, Result.andThen_ok]
            rw [if_neg this]
            simpa using hst
          have hover : RepP σ (overA cs off l) (vs.toList.take off ++ (a.eval y).cells.toList ++ vs.toList.drop (off + (a.eval y).cells.toList.length)) := by
            refine ⟨kk, ?_⟩
            have h9 := ((hvs.take off).append hl1).append (hvs.drop (off + (a.eval y).cells.toList.length))
            rw [List.take_append_of_le_length (by omega), List.drop_append_of_le_length (by omega), ← List.append_assoc] at h9
            unfold overA
            rw [e1]
            exact h9
          have hsz : (vs.toList.take off ++ (a.eval y).cells.toList ++ vs.toList.drop (off + (a.eval y).cells.toList.length)).toArray.size = vs.size := by
            simp only [Array.length_toList] at hPl
            simp
            simp at e1
            omega
          unfold Oper.wp
          have : (execOp a.eval ⟨dst, .store t x y, ty, pos, after, gd⟩).run P w = .ok .skip (w.setRow b.1 (vs.toList.take off ++ (a.eval y).cells.toList ++ vs.toList.drop (off + (a.eval y).cells.toList.length)).toArray) := by
            simp only [execOp, hv, Instr.storeAt, Instr.sureAddr, Sem.run_bind, Sem.run_pure, Result.andThen_ok, hrun]
          rw [this]
          exact hn σ _ _ ⟨by cases dst <;> exact hS.defers, rep_put hS.frame dst rfl, hS.mem.setRow hb (by simpa using hover) (by rw [hsz]; exact hcap), hS.ext.setRow (hS.own id b hid hb) _, hS.own, hS.pre⟩
        · cases h
      · cases h
    · cases h
  · rename_i t len parts
    split at h
    · rename_i e hu
      split at h
      · rename_i ie l hie hl
        split at h
        · rename_i hc
          obtain ⟨h1, h2, h3, h4, h5⟩ := hc
          obtain ⟨z, hz⟩ := Option.isSome_iff_exists.1 h2
          refine ⟨_, _, h, fun σ a w hS => ?_⟩
          obtain ⟨vs, hp, hr, hvl, hcell⟩ := denseA_sound hS.frame _ _ _ hl
          have hvl2 : vs.length = len := by rw [← hr.length]; exact h3
          have hfill := Great.fill_flat vs ((Array.range (len * ie.size)).map (z.cells[· % z.cells.size]!)) hcell (by simp [h1, hvl2])
          have hrun := run_buildSlice (P := P) w t e len (parts.map fun (i, x) => (i, a.eval x)) vs.toArray ie z hu hie hz (by rw [h1]; omega) (by rw [h1]; omega) (by
            rw [Array.toList_map, h1] at *
            have : (List.map (fun x : Nat × Operand => (x.1, a.eval x.2)) parts.toList) = (vs.zipIdx 0).map (fun x => (x.2, x.1)) := hp
            show Instr.fill _ _ (List.map (fun x : Nat × Operand => (x.1, a.eval x.2)) parts.toList) = _
            rw [this]; exact hfill)
          exact goes_val (v := .slice (some ⟨w.heap.size, 0, none⟩) len len) (w' := w.alloc (.cells vs.toArray e)) (fun ty pos after gd => run_v hrun)
            (hS.push (vs := vs.toArray) (c := len) hr (by simp [hvl2]) dst ⟨(w.heap.size, len), new_id hS.mem, Nat.le_refl _, rfl⟩)
        · cases h
      · cases h
    · cases h
  · exact viaOp h

/-- A region, in the text's order. -/
def regA (P : Program) (E : List (Entry P)) (n0 : Nat) (ops : Array Oper) : List Oper → List AV → List (List AC) → (List AV → List (List AC) → Option R) → Option R
  | [], F, M, K => K F M
  | o :: rest, F, M, K =>
    match o.guard with
    | none => stA P E n0 o.op o.dst F M fun F M => regA P E n0 ops rest F M K
    | some (j, want) =>
      match (ops[j]?).bind (·.dst) with
      | none => none
      | some d =>
        match F[d]? with
        | some (.c (.sb b)) =>
          cond b
            (cond want (stA P E n0 o.op o.dst (F.set d (.c (.sb true))) M fun F M => regA P E n0 ops rest F M K)
              (regA P E n0 ops rest (putA (F.set d (.c (.sb true))) o.dst undefA) M K))
            (cond want (regA P E n0 ops rest (putA (F.set d (.c (.sb false))) o.dst undefA) M K)
              (stA P E n0 o.op o.dst (F.set d (.c (.sb false))) M fun F M => regA P E n0 ops rest F M K))
        | some (.c (.val (.tuple _))) => regA P E n0 ops rest (putA F o.dst undefA) M K
        | _ => none

/-- From every state that fits, the operations lead to states that fit. -/
def ListGoes (P : Program) (n0 : Nat) (w0 : Base) (ops : Array Oper) (l : List Oper) (F : List AV) (M : List (List AC)) (F' : List AV) (M' : List (List AC)) : Prop :=
  ∀ (σ : List (Nat × Nat)) (a : Act) (w : World), St σ n0 w0 F M a w → ∀ (Q : Exit → Act → World → Prop), (∀ σ' a' w', St σ' n0 w0 F' M' a' w' → Q .normal a' w') → wpList P ops Q l a w

theorem yielded_of {σ : List (Nat × Nat)} {n0 : Nat} {w0 : Base} {F : List AV} {M : List (List AC)} {a : Act} {w : World} (hS : St σ n0 w0 F M a w) {ops : Array Oper} {j d : Nat} (hd : (ops[j]?).bind (·.dst) = some d) :
    (∀ b, F[d]? = some (.c (.sb b)) → yielded ops a.tmps j = some b) ∧ (∀ vs, F[d]? = some (.c (.val (.tuple vs))) → yielded ops a.tmps j = none) := by
  refine ⟨fun b hb => ?_, fun vs hb => ?_⟩
  · obtain ⟨v, hv, hr⟩ := hS.frame.get? hb
    have hr' : v = .bool b := hr
    subst hr'
    have hv' : a.tmps[d]? = some (.bool b) := by simpa using hv
    simp only [yielded, hd, Option.bind_some, hv']
  · obtain ⟨v, hv, hr⟩ := hS.frame.get? hb
    have hr' : v = .tuple vs := hr
    subst hr'
    have hv' : a.tmps[d]? = some (.tuple vs) := by simpa using hv
    simp only [yielded, hd, Option.bind_some, hv']

theorem regA_sound {P : Program} {E : List (Entry P)} {n0 : Nat} {ops : Array Oper} {K : List AV → List (List AC) → Option R} {r : R} (w0 : Base) : ∀ (l : List Oper) {F : List AV} {M : List (List AC)},
    regA P E n0 ops l F M K = some r → ∃ F' M', K F' M' = some r ∧ ListGoes P n0 w0 ops l F M F' M'
  | [], F, M, h => ⟨F, M, h, fun _ _ _ hS _ hQ => hQ _ _ _ hS⟩
  | o :: rest, F, M, h => by
    have skip : ∀ {F1 : List AV}, (∀ σ a w, St σ n0 w0 F M a w → Region.wanted o (yielded ops a.tmps) = false ∧ St σ n0 w0 F1 M a w) → regA P E n0 ops rest (putA F1 o.dst undefA) M K = some r →
        ∃ F' M', K F' M' = some r ∧ ListGoes P n0 w0 ops (o :: rest) F M F' M' := by
      intro F1 hy h1
      obtain ⟨F', M', hK, hw⟩ := regA_sound w0 rest h1
      refine ⟨F', M', hK, fun σ a w hS Q hQ => ?_⟩
      obtain ⟨hn, hS1⟩ := hy σ a w hS
      unfold wpList
      rw [if_neg (by rw [hn]; decide)]
      exact hw σ _ _ (hS1.put o.dst (x := undefA) (v := undef) rfl (Ext.refl _)) Q hQ
    have go : ∀ {F1 : List AV}, (∀ σ a w, St σ n0 w0 F M a w → Region.wanted o (yielded ops a.tmps) = true ∧ St σ n0 w0 F1 M a w) → (stA P E n0 o.op o.dst F1 M fun F M => regA P E n0 ops rest F M K) = some r →
        ∃ F' M', K F' M' = some r ∧ ListGoes P n0 w0 ops (o :: rest) F M F' M' := by
      intro F1 hy h1
      obtain ⟨F2, M2, hK2, hop⟩ := stA_sound w0 h1
      obtain ⟨F', M', hK, hrest⟩ := regA_sound w0 rest hK2
      refine ⟨F', M', hK, fun σ a w hS Q hQ => ?_⟩
      obtain ⟨hn, hS1⟩ := hy σ a w hS
      unfold wpList
      rw [if_pos hn]
      exact .inl (hop σ a w hS1 o.type o.pos o.after o.guard _ _ fun σ' a' w' hs => hrest σ' a' w' hs Q hQ)
    simp only [regA] at h
    split at h
    · rename_i hg
      exact go (fun σ a w hS => ⟨by simp [Region.wanted, hg], hS⟩) h
    · rename_i j want hg
      split at h
      · cases h
      · rename_i d hd
        split at h
        · rename_i b hb
          have hy : ∀ σ a w, St σ n0 w0 F M a w → yielded ops a.tmps j = some b := fun σ a w hS => (yielded_of hS hd).1 b hb
          cases b with
          | true =>
            cases want with
            | true => exact go (fun σ a w hS => ⟨by simp [Region.wanted, hg, hy σ a w hS], hS.know hb⟩) h
            | false => exact skip (fun σ a w hS => ⟨by simp [Region.wanted, hg, hy σ a w hS], hS.know hb⟩) h
          | false =>
            cases want with
            | true => exact skip (fun σ a w hS => ⟨by simp [Region.wanted, hg, hy σ a w hS], hS.know hb⟩) h
            | false => exact go (fun σ a w hS => ⟨by simp [Region.wanted, hg, hy σ a w hS], hS.know hb⟩) h
        · rename_i vs hb
          exact skip (fun σ a w hS => ⟨by simp [Region.wanted, hg, (yielded_of hS hd).2 vs hb], hS⟩) h
        · cases h

inductive Out where
  | norm
  | exit (id : Nat)
  | ret

def Out.toExit : Out → Exit
  | .norm => .normal
  | .exit id => .exit id
  | .ret => .ret

/-- Code; n rounds deep at most. -/
def exC (P : Program) (E : List (Entry P)) (n0 : Nat) : Nat → Code → List AV → List (List AC) → (Out → List AV → List (List AC) → Option R) → Option R
  | 0, _, _, _, _ => none
  | n + 1, c, F, M, K =>
    match c with
    | .skip => K .norm F M
    | .region _ ops draw => cond draw none (regA P E n0 ops ops.toList F M fun F M => K .norm F M)
    | .seq x y => exC P E n0 n x F M fun o F M =>
      match o with
      | .norm => exC P E n0 n y F M K
      | .exit id => K (.exit id) F M
      | .ret => K .ret F M
    | .cond (.tmp t) x y =>
      match F[t]? with
      | some (.c (.sb b)) => cond b (exC P E n0 n x (F.set t (.c (.sb true))) M K) (exC P E n0 n y (F.set t (.c (.sb false))) M K)
      | _ => none
    | .cond (.const (.bool b)) x y => cond b (exC P E n0 n x F M K) (exC P E n0 n y F M K)
    | .block id x => exC P E n0 n x F M fun o F M =>
      match o with
      | .norm => K .norm F M
      | .exit i => cond (i == id) (K .norm F M) (K (.exit i) F M)
      | .ret => K .ret F M
    | .loop x => exC P E n0 n x F M fun o F M =>
      match o with
      | .norm => exC P E n0 n (.loop x) F M K
      | .exit id => K (.exit id) F M
      | .ret => K .ret F M
    | .exit id => K (.exit id) F M
    | .ret => K .ret F M
    | _ => none

def CodeGoes (P : Program) (n0 : Nat) (w0 : Base) (c : Code) (F : List AV) (M : List (List AC)) (o : Out) (F' : List AV) (M' : List (List AC)) : Prop :=
  ∀ (σ : List (Nat × Nat)) (a : Act) (w : World), St σ n0 w0 F M a w → ∀ (Q : Exit → Act → World → Prop), (∀ σ' a' w', St σ' n0 w0 F' M' a' w' → Q o.toExit a' w') → c.wp P Q a w

theorem exC_sound {P : Program} {E : List (Entry P)} {n0 : Nat} (w0 : Base) : ∀ (n : Nat),
    (∀ (c : Code) (F : List AV) (M : List (List AC)) (K : Out → List AV → List (List AC) → Option R) (r : R), exC P E n0 n c F M K = some r → ∃ o F' M', K o F' M' = some r ∧ CodeGoes P n0 w0 c F M o F' M') ∧
    (∀ (x : Code) (F : List AV) (M : List (List AC)) (K : Out → List AV → List (List AC) → Option R) (r : R), exC P E n0 n (.loop x) F M K = some r → ∃ o F' M', K o F' M' = some r ∧ ∃ N, ∀ (σ : List (Nat × Nat)) (a : Act) (w : World), St σ n0 w0 F M a w →
      ∀ (Q : Exit → Act → World → Prop), (∀ σ' a' w', St σ' n0 w0 F' M' a' w' → Q o.toExit a' w') → Code.rounds P x Q N a w)
  | 0 => ⟨(fun _ _ _ _ _ h => by cases h), (fun _ _ _ _ _ h => by cases h)⟩
  | n + 1 => by
    obtain ⟨ih1, ih2⟩ := exC_sound w0 n
    have hloop : ∀ (x : Code) (F : List AV) (M : List (List AC)) (K : Out → List AV → List (List AC) → Option R) (r : R), exC P E n0 (n + 1) (.loop x) F M K = some r → ∃ o F' M', K o F' M' = some r ∧ ∃ N, ∀ (σ : List (Nat × Nat)) (a : Act) (w : World), St σ n0 w0 F M a w →
      ∀ (Q : Exit → Act → World → Prop), (∀ σ' a' w', St σ' n0 w0 F' M' a' w' → Q o.toExit a' w') → Code.rounds P x Q N a w := by
      intro x F M K r h
      simp only [exC] at h
      obtain ⟨o, F1, M1, hK1, hx⟩ := ih1 x F M _ r h
      cases o with
      | norm =>
        obtain ⟨o, F', M', hK, N, hN⟩ := ih2 x F1 M1 K r hK1
        refine ⟨o, F', M', hK, N + 1, fun σ a w hS Q hQ => ?_⟩
        exact hx σ a w hS _ fun σ' a' w' hs => hN σ' a' w' hs Q hQ
      | exit id => exact ⟨.exit id, F1, M1, hK1, 1, fun σ a w hS Q hQ => hx σ a w hS _ fun σ' a' w' hs => hQ σ' a' w' hs⟩
      | ret => exact ⟨.ret, F1, M1, hK1, 1, fun σ a w hS Q hQ => hx σ a w hS _ fun σ' a' w' hs => hQ σ' a' w' hs⟩
    refine ⟨fun c F M K r h => ?_, hloop⟩
    cases c with
    | skip => exact ⟨.norm, F, M, h, fun σ a w hS Q hQ => wp_skip (hQ σ a w hS)⟩
    | region id ops draw =>
      simp only [exC] at h
      cases draw with
      | true => cases h
      | false =>
        obtain ⟨F', M', hK, hl⟩ := regA_sound w0 ops.toList h
        exact ⟨.norm, F', M', hK, fun σ a w hS Q hQ => wp_region_list (hl σ a w hS Q hQ)⟩
    | seq x y =>
      simp only [exC] at h
      obtain ⟨o, F1, M1, hK1, hx⟩ := ih1 x F M _ r h
      cases o with
      | norm =>
        obtain ⟨o, F', M', hK, hy⟩ := ih1 y F1 M1 K r hK1
        exact ⟨o, F', M', hK, fun σ a w hS Q hQ => wp_seq (hx σ a w hS _ fun σ' a' w' hs => hy σ' a' w' hs Q hQ)⟩
      | exit id => exact ⟨.exit id, F1, M1, hK1, fun σ a w hS Q hQ => wp_seq (hx σ a w hS _ fun σ' a' w' hs => hQ σ' a' w' hs)⟩
      | ret => exact ⟨.ret, F1, M1, hK1, fun σ a w hS Q hQ => wp_seq (hx σ a w hS _ fun σ' a' w' hs => hQ σ' a' w' hs)⟩
    | cond c x y =>
      cases c with
      | tmp t =>
        simp only [exC] at h
        split at h
        · rename_i b hb
          have hev : ∀ σ a w, St σ n0 w0 F M a w → a.eval (.tmp t) = .bool b := by
            intro σ a w hS
            obtain ⟨v, hv, hr⟩ := hS.frame.get? hb
            have hr' : v = .bool b := hr
            subst hr'
            have hv' : a.tmps[t]? = some (.bool b) := by simpa using hv
            simp [Act.eval, Array.getD_eq_getD_getElem?, hv']
          cases b with
          | true =>
            obtain ⟨o, F', M', hK, hx⟩ := ih1 x _ M K r h
            exact ⟨o, F', M', hK, fun σ a w hS Q hQ => wp_cond_true (hev σ a w hS) (hx σ a w (hS.know hb) Q hQ)⟩
          | false =>
            obtain ⟨o, F', M', hK, hx⟩ := ih1 y _ M K r h
            exact ⟨o, F', M', hK, fun σ a w hS Q hQ => wp_cond_false (hev σ a w hS) (hx σ a w (hS.know hb) Q hQ)⟩
        · cases h
      | const v =>
        cases v with
        | bool b =>
          simp only [exC] at h
          cases b with
          | true =>
            obtain ⟨o, F', M', hK, hx⟩ := ih1 x _ M K r h
            exact ⟨o, F', M', hK, fun σ a w hS Q hQ => wp_cond_true rfl (hx σ a w hS Q hQ)⟩
          | false =>
            obtain ⟨o, F', M', hK, hx⟩ := ih1 y _ M K r h
            exact ⟨o, F', M', hK, fun σ a w hS Q hQ => wp_cond_false rfl (hx σ a w hS Q hQ)⟩
        | _ => cases h
      | global g => cases h
      | func f => cases h
    | block id x =>
      simp only [exC] at h
      obtain ⟨o, F1, M1, hK1, hx⟩ := ih1 x F M _ r h
      cases o with
      | norm => exact ⟨.norm, F1, M1, hK1, fun σ a w hS Q hQ => wp_block (hx σ a w hS _ fun σ' a' w' hs => hQ σ' a' w' hs)⟩
      | exit i =>
        by_cases hi : i = id
        · subst hi
          simp only [beq_self_eq_true, cond_true] at hK1
          exact ⟨.norm, F1, M1, hK1, fun σ a w hS Q hQ => wp_block (hx σ a w hS _ fun σ' a' w' hs => by simp only [Out.toExit, Exit.inBlock, if_true]; exact hQ σ' a' w' hs)⟩
        · have hb : (i == id) = false := by simpa using hi
          simp only [hb, cond_false] at hK1
          exact ⟨.exit i, F1, M1, hK1, fun σ a w hS Q hQ => wp_block (hx σ a w hS _ fun σ' a' w' hs => by simp only [Out.toExit, Exit.inBlock, hi, if_false]; exact hQ σ' a' w' hs)⟩
      | ret => exact ⟨.ret, F1, M1, hK1, fun σ a w hS Q hQ => wp_block (hx σ a w hS _ fun σ' a' w' hs => hQ σ' a' w' hs)⟩
    | loop x =>
      obtain ⟨o, F', M', hK, N, hN⟩ := hloop x F M K r h
      exact ⟨o, F', M', hK, fun σ a w hS Q hQ => wp_loop_rounds N (hN σ a w hS Q hQ)⟩
    | exit id => exact ⟨.exit id, F, M, h, fun σ a w hS Q hQ => wp_exit (hQ σ a w hS)⟩
    | ret => exact ⟨.ret, F, M, h, fun σ a w hS Q hQ => wp_ret (hQ σ a w hS)⟩
    | _ => cases h

/-- A function's results. -/
def resA (P : Program) (F : List AV) (M : List (List AC)) : ResultVar → Option AV
  | .tmp t => F[t]?
  | .cell t ty => match F[t]? with
    | some (.c (.ptr id off)) => rdA P M ty id off
    | _ => none

def cellA : AV → Option AC
  | .c x => some x
  | _ => none

def resultA (P : Program) (fn : Func) (F : List AV) (M : List (List AC)) : Option AV :=
  match fn.results.toList with
  | [x] => resA P F M x
  | l => (l.mapM fun x => (resA P F M x).bind cellA).map .tup

/-- No pointer. -/
def plainC : AC → Bool
  | .ptr _ _ | .slc _ _ | .sub _ _ _ => false
  | _ => true
def plainA : AV → Bool
  | .c x => plainC x
  | .agg l | .tup l => l.all plainC

/-- A function's answer: its body, run. -/
def run (P : Program) (E : List (Entry P)) (fn : Func) (args : List AV) (M : List (List AC)) : Option AV :=
  match fn.body with
  | none => none
  | some c => exC P E M.length 4000 c (args ++ List.replicate (fn.ntmps - args.length) undefA) M fun o F M =>
    match o with
    | .exit _ => none
    | _ => match resultA P fn F M with
      | some v => cond (plainA v) (some v) none
      | none => none

theorem plainC_rep {σ τ : List (Nat × Nat)} {x : AC} {v : Value} (hp : plainC x = true) (h : RepC σ x v) : RepC τ x v := by
  cases x <;> first | exact h | cases hp

theorem plainL_rep {σ τ : List (Nat × Nat)} {l : List AC} {vs : List Value} (hp : l.all plainC = true) (h : RepL σ l vs) : RepL τ l vs := by
  induction h with
  | nil => exact .nil
  | cons h _ ih =>
    simp only [List.all_cons, Bool.and_eq_true] at hp
    exact .cons (plainC_rep hp.1 h) (ih hp.2)

theorem plain_rep {σ τ : List (Nat × Nat)} {x : AV} {v : Value} (hp : plainA x = true) (h : Rep σ x v) : Rep τ x v := by
  cases x with
  | c x => exact plainC_rep (σ := σ) hp h
  | agg l => obtain ⟨vs, e, hl⟩ := h; exact ⟨vs, e, plainL_rep hp hl⟩
  | tup l => obtain ⟨vs, e, hl⟩ := h; exact ⟨vs, e, plainL_rep hp hl⟩

def resOne (tmps : Array Value) : ResultVar → Sem Value
  | .tmp t => pure (tmps.getD t undef)
  | .cell a t => do loadVar t (← asAddr (tmps.getD a undef))

theorem results_eq (fn : Func) (tmps : Array Value) : results fn tmps = (do
    let vs ← fn.results.mapM (resOne tmps)
    pure (if h : vs.size = 1 then vs[0] else .tuple vs)) := by
  unfold results
  congr 1

theorem resA_sound {P : Program} {σ : List (Nat × Nat)} {n0 : Nat} {w0 : Base} {F : List AV} {M : List (List AC)} {a : Act} {w : World} (hS : St σ n0 w0 F M a w) {x : ResultVar} {r : AV} (h : resA P F M x = some r) :
    ∃ v, (resOne a.tmps x).run P w = .ok v w ∧ Rep σ r v := by
  cases x with
  | tmp t =>
    obtain ⟨v, hv, hr⟩ := hS.frame.get? (x := r) h
    have hv' : a.tmps[t]? = some v := by simpa using hv
    exact ⟨v, by simp [resOne, Array.getD_eq_getD_getElem?, hv'], hr⟩
  | cell t ty =>
    simp only [resA] at h
    split at h
    · rename_i id off hx
      obtain ⟨v, hv, hr⟩ := hS.frame.get? hx
      obtain ⟨b, hb, rfl⟩ := hr
      have hv' : a.tmps[t]? = some (.pointer (some ⟨b.1, off, none⟩)) := by simpa using hv
      obtain ⟨z, hz, hrz⟩ := rdA_sound (P := P) (w := w) hS.mem hb h
      exact ⟨z, by simp [resOne, Array.getD_eq_getD_getElem?, hv', asAddr, hz], hrz⟩
    · cases h

theorem results_sound {P : Program} {σ : List (Nat × Nat)} {n0 : Nat} {w0 : Base} {F : List AV} {M : List (List AC)} {a : Act} {w : World} (hS : St σ n0 w0 F M a w) {fn : Func} {r : AV} (h : resultA P fn F M = some r) :
    ∃ v, (results fn a.tmps).run P w = .ok v w ∧ Rep σ r v := by
  have many : ∀ (l : List ResultVar) (rs : List AC), (l.mapM fun x => (resA P F M x).bind cellA) = some rs →
      ∃ vs : List Value, (l.mapM (resOne a.tmps)).run P w = .ok vs w ∧ RepL σ rs vs := by
    intro l
    induction l with
    | nil => intro rs h; simp at h; subst h; exact ⟨[], by simp, .nil⟩
    | cons x l ih =>
      intro rs h
      cases h1 : (resA P F M x).bind cellA with
      | none => simp [h1] at h
      | some y =>
        cases h2 : (l.mapM fun x => (resA P F M x).bind cellA) with
        | none => simp [h1, h2] at h
        | some ys =>
          simp [h1, h2] at h
          subst h
          obtain ⟨vs, hvs, hr⟩ := ih ys h2
          cases h3 : resA P F M x with
          | none => simp [h3] at h1
          | some z =>
            simp only [h3, Option.bind_some] at h1
            cases z with
            | c z =>
              simp only [cellA, Option.some.injEq] at h1
              subst h1
              obtain ⟨v, hv, hz⟩ := resA_sound (P := P) hS h3
              refine ⟨v :: vs, ?_, .cons hz hr⟩
              simp [List.mapM_cons, hv, hvs]
            | agg z => cases h1
            | tup z => cases h1
  unfold resultA at h
  split at h
  · rename_i x hx
    obtain ⟨v, hv, hr⟩ := resA_sound (P := P) hS h
    refine ⟨v, ?_, hr⟩
    rw [results_eq, Array.mapM_eq_mapM_toList, hx]
    simp [hv]
  · rename_i l hl
    cases hm : (fn.results.toList.mapM fun x => (resA P F M x).bind cellA) with
    | none => simp [hm] at h
    | some rs =>
      simp only [hm, Option.map_some, Option.some.injEq] at h
      subst h
      obtain ⟨vs, hvs, hr⟩ := many _ _ hm
      refine ⟨.tuple vs.toArray, ?_, vs.toArray, rfl, hr⟩
      have hlen : vs.length ≠ 1 := by
        intro h1
        have h2 : rs.length = 1 := by rw [hr.length]; exact h1
        have h3 : ∀ (l : List ResultVar) (rs : List AC), (l.mapM fun x => (resA P F M x).bind cellA) = some rs → rs.length = l.length := by
          intro l
          induction l with
          | nil => intro rs h; simp at h; subst h; rfl
          | cons x l ih =>
            intro rs h
            cases h1 : (resA P F M x).bind cellA with
            | none => simp [h1] at h
            | some y =>
              cases h2 : (l.mapM fun x => (resA P F M x).bind cellA) with
              | none => simp [h1, h2] at h
              | some ys =>
                simp [h1, h2] at h
                subst h
                simp [ih ys h2]
        have h4 := h3 _ _ hm
        match h5 : fn.results.toList with
        | [] => rw [h5, h2] at h4; cases h4
        | [x] => exact hl x h5
        | x :: y :: l => rw [h5, h2] at h4; simp at h4
      rw [results_eq, Array.mapM_eq_mapM_toList]
      simp [hvs, hlen]

/-- THE EXECUTOR IS RIGHT: from a function's answer to what its call does. -/
theorem run_sound {P : Program} {E : List (Entry P)} {f : FuncId} {fn : Func} (hf : P.funcs[f]? = some fn) {args : List AV} {M : List (List AC)} {r : AV} (h : run P E fn args M = some r)
    {σ : List (Nat × Nat)} {vs : List Value} {w : World} (hM : MemOk σ M w) (ha : RepF σ args vs) :
    Calls P f vs.toArray w fun e w' => ∃ v, e = .returned v ∧ Rep σ r v ∧ Ext w w' := by
  unfold run at h
  split at h
  · cases h
  · rename_i c hb
    obtain ⟨o, F', M', hK, hc⟩ := (exC_sound ⟨w, σ⟩ 4000).1 c _ M _ r h
    have fin : ∀ (hK' : (match resultA P fn F' M' with | some v => cond (plainA v) (some v) none | none => none) = some r) {σ' : List (Nat × Nat)} {a' : Act} {w' : World} (hs : St σ' M.length ⟨w, σ⟩ F' M' a' w'),
        a'.defers = [] ∧ ∃ v, (results fn a'.tmps).run P w' = .ok v w' ∧ ∃ u, (Ending.returned v) = .returned u ∧ Rep σ r u ∧ Ext w w' := by
      intro hK' σ' a' w' hs
      cases hr : resultA P fn F' M' with
      | none => simp [hr] at hK'
      | some v =>
        simp only [hr] at hK'
        cases hp : plainA v with
        | false => simp [hp] at hK'
        | true =>
          simp only [hp, cond_true, Option.some.injEq] at hK'
          subst hK'
          obtain ⟨z, hz, hrz⟩ := results_sound (P := P) hs hr
          exact ⟨hs.defers, z, hz, z, rfl, plain_rep hp hrz, hs.ext⟩
    refine calls_of_wp hf hb (hc σ _ w ⟨rfl, ?_, hM, Ext.refl _, fun id b hid hbb => ?_, List.prefix_refl _⟩ _ fun σ' a' w' hs => ?_)
    · have hlen := ha.length
      have h1 : ∀ (n : Nat), RepF σ (List.replicate n undefA) (List.replicate n undef) := by
        intro n
        induction n with
        | zero => exact .nil
        | succ n ih => exact .cons rfl ih
      have h2 : ∀ {l l' : List AV} {us us' : List Value}, RepF σ l us → RepF σ l' us' → RepF σ (l ++ l') (us ++ us') := by
        intro l l' us us' h h'
        induction h with
        | nil => exact h'
        | cons h _ ih => exact .cons h ih
      simpa [hlen] using h2 ha (h1 (fn.ntmps - vs.length))
    · have := (List.getElem?_eq_some_iff.1 hbb).1
      rw [hM.len] at this
      omega
    · cases o with
      | norm => exact fin hK hs
      | ret => exact fin hK hs
      | exit id => cases hK

/-- A function with a body, as an entry: what the executor answers of it is what is said. -/
theorem gives_of_run {P : Program} {E : List (Entry P)} {f : FuncId} {fn : Func} (hf : P.funcs[f]? = some fn) (hn : (fn.name == "runtime.NumGoroutine") = false) {args : List AV} {M : List (List AC)} {r : AV} (h : run P E fn args M = some r)
    {σ : List (Nat × Nat)} {vs : List Value} {w : World} (hM : MemOk σ M w) (ha : RepF σ args vs) : Gives P f vs.toArray w fun v w' => Rep σ r v ∧ Ext w w' := by
  refine .inr ⟨?_, run_sound hf h hM ha⟩
  have hb : fn.body.isNone = false := by
    unfold run at h
    split at h
    · cases h
    · rename_i c hb; rw [hb]; rfl
  have hn' : fn.name ≠ "runtime.NumGoroutine" := by simpa using hn
  have hb' : fn.body ≠ none := by intro e; rw [e] at hb; cases hb
  simp [callFunc, hf, hn', hb']

end Go.Proofs.Ytlpahmefebgdlaa.Fx
