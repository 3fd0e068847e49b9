/- The executor, second part: what the operations that only read answer. No condition. -/
import Derived.Test.YtlpahmefebgdlaaEx
namespace Go.Proofs.Ytlpahmefebgdlaa.Fx
open Go Go.RowKit

theorem RepL.append {σ : List (Nat × Nat)} {l l' : List AC} {vs vs' : List Value} (h : RepL σ l vs) (h' : RepL σ l' vs') : RepL σ (l ++ l') (vs ++ vs') := by
  induction h with
  | nil => exact h'
  | cons h _ ih => exact .cons h ih

theorem RepL.take {σ : List (Nat × Nat)} {l : List AC} {vs : List Value} (h : RepL σ l vs) (n : Nat) : RepL σ (l.take n) (vs.take n) := by
  induction h generalizing n with
  | nil => cases n <;> exact .nil
  | cons h _ ih => cases n with
    | zero => exact .nil
    | succ n => exact .cons h (ih n)

theorem RepL.drop {σ : List (Nat × Nat)} {l : List AC} {vs : List Value} (h : RepL σ l vs) (n : Nat) : RepL σ (l.drop n) (vs.drop n) := by
  induction h generalizing n with
  | nil => cases n <;> exact .nil
  | cons h t ih => cases n with
    | zero => exact .cons h t
    | succ n => exact ih n

theorem RepL.set {σ : List (Nat × Nat)} {F : List AC} {vs : List Value} (h : RepL σ F vs) (i : Nat) {x : AC} {v : Value} (hx : RepC σ x v) : RepL σ (F.set i x) (vs.set i v) := by
  induction h generalizing i with
  | nil => exact .nil
  | cons h t ih => cases i with
    | zero => exact .cons hx t
    | succ i => exact .cons h (ih i)

/-- The cells of a block that the executor knows. -/
theorem cell_of {σ : List (Nat × Nat)} {M : List (List AC)} {w : World} (hM : MemOk σ M w) {id o : Nat} {b : Nat × Nat} {cs : List AC} {x : AC} (hb : σ[id]? = some b) (hc : M[id]? = some cs) (hx : cs[o]? = some x) :
    ∃ v, w.cell? ⟨b.1, o, none⟩ = some v ∧ RepC σ x v := by
  obtain ⟨vs, e, hw, hl, _⟩ := hM.at_ id b cs hb hc
  obtain ⟨v, hv, hr⟩ := hl.get? hx
  exact ⟨v, by simp only [World.cell?, hw]; simpa using hv, hr⟩

theorem add_off (b o n : Nat) : (⟨b, o, none⟩ : Addr).add n = ⟨b, o + n, none⟩ := by
  unfold Addr.add; split <;> simp_all

/-- What a load answers. -/
def rdA (P : Program) (M : List (List AC)) (t : TypeId) (id off : Nat) : Option AV :=
  match M[id]? with
  | none => none
  | some cs =>
    match P.underlying t, P.info? t with
    | some (.struct _), some i => if off + i.size ≤ cs.length then some (.agg ((cs.drop off).take i.size)) else none
    | some (.array _ _), some i => if off + i.size ≤ cs.length then some (.agg ((cs.drop off).take i.size)) else none
    | some (.float _), _ => (cs[off]?).map .c
    | some (.complex _), _ => (cs[off]?).map .c
    | some .bool, _ => (cs[off]?).map .c
    | some (.int _), _ => (cs[off]?).map .c
    | _, _ => none

theorem rdA_sound {P : Program} {w : World} {σ : List (Nat × Nat)} {M : List (List AC)} {t : TypeId} {id off : Nat} {b : Nat × Nat} {r : AV} (hM : MemOk σ M w) (hb : σ[id]? = some b) (h : rdA P M t id off = some r) :
    ∃ v, (loadVar t ⟨b.1, off, none⟩).run P w = .ok v w ∧ Rep σ r v := by
  unfold rdA at h
  cases hc : M[id]? with
  | none => simp [hc] at h
  | some cs =>
    simp only [hc] at h
    obtain ⟨vs, e, hw, hP, _⟩ := hM.at_ id b cs hb hc
    have hPl := hP.le
    obtain ⟨kk, hl⟩ := hP
    have many : ∀ i : TypeInfo, P.info? t = some i → (isAgg t).run P w = .ok true w → (if off + i.size ≤ cs.length then some (AV.agg ((cs.drop off).take i.size)) else none) = some r →
        ∃ v, (loadVar t ⟨b.1, off, none⟩).run P w = .ok v w ∧ Rep σ r v := by
      intro i hi ha h
      split at h
      · rename_i hle
        cases h
        have hcells : ((vs.toList.drop off).take i.size).length = i.size := by simp; simp at hPl; omega
        have hld := run_loadCells_list (P := P) w ⟨b.1, off, none⟩ ((vs.toList.drop off).take i.size) (fun j v hj => by
          rw [add_off]
          have hj' : j < i.size := by
            have := (List.getElem?_eq_some_iff.1 hj).1
            rw [hcells] at this; exact this
          rw [List.getElem?_take_of_lt hj', List.getElem?_drop] at hj
          simp only [World.cell?, hw]
          simpa using hj)
        rw [hcells] at hld
        refine ⟨.agg ((vs.toList.drop off).take i.size).toArray, ?_, _, rfl, ?_⟩
        · simp [loadVar, ha, sizeOf, typeInfo, hi, hld]
        · have h9 := (hl.drop off).take i.size
          rw [List.drop_append_of_le_length (by omega), List.take_append_of_le_length (by simp; omega)] at h9
          simpa using h9
      · cases h
    have one : (isAgg t).run P w = .ok false w → (cs[off]?).map AV.c = some r → ∃ v, (loadVar t ⟨b.1, off, none⟩).run P w = .ok v w ∧ Rep σ r v := by
      intro ha h
      cases hx : cs[off]? with
      | none => simp [hx] at h
      | some x =>
        simp only [hx, Option.map_some, Option.some.injEq] at h
        subst h
        obtain ⟨v, hv, hr⟩ := cell_of hM hb hc hx
        exact ⟨v, by simp [loadVar, ha, run_load, hv], hr⟩
    split at h
    · rename_i hu hi; exact many _ hi (by simp [isAgg, run_underlying hu]) h
    · rename_i hu hi; exact many _ hi (by simp [isAgg, run_underlying hu]) h
    · rename_i hu; exact one (by simp [isAgg, run_underlying hu]) h
    · rename_i hu; exact one (by simp [isAgg, run_underlying hu]) h
    · rename_i hu; exact one (by simp [isAgg, run_underlying hu]) h
    · rename_i hu; exact one (by simp [isAgg, run_underlying hu]) h
    · cases h

/-- A field's address. -/
def fldA (P : Program) (s : TypeId) (f : Nat) (x : AV) : Option AV :=
  match x, P.underlying s with
  | .c (.ptr id off), some (.struct fields) =>
    match fields[f]? with
    | some fd => match P.info? fd.type with
      | some i => if i.size = 0 then none else some (.c (.ptr id (off + fd.offset)))
      | none => none
    | none => none
  | _, _ => none

theorem fldA_sound {P : Program} {w : World} {σ : List (Nat × Nat)} {s : TypeId} {f : Nat} {x r : AV} {u : Value} (h : fldA P s f x = some r) (hu : Rep σ x u) :
    ∃ v, (Instr.fieldAt s u f).run P w = .ok v w ∧ Rep σ r v := by
  unfold fldA at h
  split at h
  · rename_i id off fields hs
    obtain ⟨b, hb, rfl⟩ := hu
    split at h
    · rename_i fd hf
      split at h
      · rename_i i hi
        split at h
        · cases h
        · rename_i hz
          cases h
          refine ⟨.pointer (some ⟨b.1, off + fd.offset, none⟩), ?_, b, hb, rfl⟩
          simp [Instr.fieldAt, run_underlying hs, hf, Instr.sureAddr, fieldPlace, sizeOf, typeInfo, hi, hz, add_off]
      · cases h
    · cases h
  · cases h

/-- An element's address. -/
def ixA (P : Program) (t : TypeId) (x y : AV) : Option AV :=
  match x, y, P.underlying t with
  | .c (.ptr id off), .c (.val (.int .i64 n)), some (.array len elem) =>
    match P.info? elem with
    | some i => if 0 ≤ n ∧ n < len then some (.c (.ptr id (off + n.toNat * i.size))) else none
    | none => none
  | .c (.slc id len), .c (.val (.int .i64 n)), some (.slice elem) =>
    match P.info? elem with
    | some i => if 0 ≤ n ∧ n < len then some (.c (.ptr id (n.toNat * i.size))) else none
    | none => none
  | .c (.sub id off len), .c (.val (.int .i64 n)), some (.slice elem) =>
    match P.info? elem with
    | some i => if 0 ≤ n ∧ n < len then some (.c (.ptr id (off + n.toNat * i.size))) else none
    | none => none
  | _, _, _ => none

theorem ixA_sound {P : Program} {w : World} {σ : List (Nat × Nat)} {t : TypeId} {x y r : AV} {u v : Value} (h : ixA P t x y = some r) (hu : Rep σ x u) (hv : Rep σ y v) :
    ∃ z, (Instr.indexAt t u v).run P w = .ok z w ∧ Rep σ r z := by
  unfold ixA at h
  split at h
  · rename_i id off n len elem ht
    obtain ⟨b, hb, rfl⟩ := hu
    cases hv
    split at h
    · rename_i i hi
      split at h
      · rename_i hn
        cases h
        refine ⟨.pointer (some ⟨b.1, off + n.toNat * i.size, none⟩), ?_, b, hb, rfl⟩
        simp [Instr.indexAt, asIntOf, run_underlying ht, Instr.sureAddr, hn.1, hn.2, sizeOf, typeInfo, hi, add_off]
      · cases h
    · cases h
  · rename_i id len n elem ht
    obtain ⟨b, hb, _, rfl⟩ := hu
    cases hv
    split at h
    · rename_i i hi
      split at h
      · rename_i hn
        cases h
        refine ⟨.pointer (some ⟨b.1, n.toNat * i.size, none⟩), ?_, b, hb, rfl⟩
        simp [Instr.indexAt, asIntOf, run_underlying ht, hn.1, hn.2, sizeOf, typeInfo, hi, add_off]
      · cases h
    · cases h
  · rename_i id off len n elem ht
    obtain ⟨b, a, c, hb, rfl, ha⟩ := hu
    cases hv
    split at h
    · rename_i i hi
      split at h
      · rename_i hn
        cases h
        have ha' := ha (by omega)
        subst ha'
        refine ⟨.pointer (some ⟨b.1, off + n.toNat * i.size, none⟩), ?_, b, hb, rfl⟩
        simp [Instr.indexAt, asIntOf, run_underlying ht, hn.1, hn.2, sizeOf, typeInfo, hi, add_off]
      · cases h
    · cases h
  · cases h

/-- What is left of a slice from an index on. -/
def slA (P : Program) (t : TypeId) (x y : AV) : Option AV :=
  match x, y, P.underlying t with
  | .c (.slc id len), .c (.val (.int .i64 n)), some (.slice elem) =>
    match P.info? elem with
    | some i => if 0 ≤ n ∧ n ≤ len then some (.c (.sub id (n.toNat * i.size) (len - n.toNat))) else none
    | none => none
  | _, _, _ => none
theorem slA_sound {P : Program} {w : World} {σ : List (Nat × Nat)} {t : TypeId} {x y r : AV} {u v : Value} (h : slA P t x y = some r) (hu : Rep σ x u) (hv : Rep σ y v) :
    ∃ z, (Instr.sliceAt t u (some v) none none).run P w = .ok z w ∧ Rep σ r z := by
  unfold slA at h
  split at h
  · rename_i id len n elem ht
    obtain ⟨b, hb, hle, rfl⟩ := hu
    cases hv
    split at h
    · rename_i i hi
      split at h
      · rename_i hn
        cases h
        have he : P.elem t = elem := by simp [Program.elem, ht]
        have ht' : P.underlying t = some (.slice (P.elem t)) := by rw [he]; exact ht
        refine ⟨sliced (some ⟨b.1, 0, none⟩) n.toNat len b.2 i.size, ?_, b, _, _, hb, rfl, fun h0 => ?_⟩
        · rw [run_sliceAt_slice w t _ _ _ _ ht', run_slice_l w t _ _ _ ht' .i64 n hn.1 hn.2]
          simp [sizeOf, typeInfo, he, hi, Result.andThen]
        · rw [if_neg (by omega)]
          simp [add_off]
      · cases h
    · cases h
  · cases h

/-- An element of an array that is a value, of one cell. -/
def elA (P : Program) (t : TypeId) (x y : AV) : Option AV :=
  match x, y, P.underlying t with
  | .agg l, .c (.val (.int .i64 n)), some (.array len elem) =>
    match P.underlying elem, P.info? elem with
    | some (.float _), some i => if 0 ≤ n ∧ n < len ∧ i.size = 1 then (l[n.toNat]?).map .c else none
    | _, _ => none
  | _, _, _ => none

theorem elA_sound {P : Program} {w : World} {σ : List (Nat × Nat)} {t : TypeId} {x y r : AV} {u v : Value} (h : elA P t x y = some r) (hu : Rep σ x u) (hv : Rep σ y v) :
    ∃ z, (Instr.index t u v).run P w = .ok z w ∧ Rep σ r z := by
  unfold elA at h
  split at h
  · rename_i l n len elem ht
    obtain ⟨vs, rfl, hl⟩ := hu
    cases hv
    split at h
    · rename_i i hk hi
      split at h
      · rename_i hn
        cases hx : l[n.toNat]? with
        | none => simp [hx] at h
        | some x =>
          simp only [hx, Option.map_some, Option.some.injEq] at h
          subst h
          obtain ⟨z, hz, hr⟩ := hl.get? hx
          have hz' : vs[n.toNat]? = some z := by simpa using hz
          refine ⟨z, ?_, hr⟩
          simp [Instr.index, asIntOf, run_underlying ht, hn.1, hn.2.1, sizeOf, typeInfo, hi, hn.2.2, part, isAgg, run_underlying hk, hz']
      · cases h
    · cases h
  · cases h

/-- The cells of a value. -/
def cellsA : AV → Option (List AC)
  | .c x => some [x]
  | .agg l => some l
  | .tup _ => none

theorem cells_one {σ : List (Nat × Nat)} {x : AC} {v : Value} (h : RepC σ x v) (hx : ∀ u, x = .val u → u.cells = #[u]) (hany : x ≠ .any) : v.cells = #[v] := by
  cases x with
  | fl k x => obtain ⟨t, rfl, _⟩ := h; rfl
  | cx k x y => obtain ⟨t, s, rfl, _, _⟩ := h; rfl
  | sb b => cases h; rfl
  | val u => cases h; exact hx _ rfl
  | ptr id off => obtain ⟨b, _, rfl⟩ := h; rfl
  | slc id n => obtain ⟨b, _, _, rfl⟩ := h; rfl
  | sub id off n => obtain ⟨b, a, c, _, rfl, _⟩ := h; rfl
  | any => exact (hany rfl).elim

/-- Is this surely one cell? -/
def oneA : AC → Bool
  | .fl _ _ | .cx _ _ _ | .sb _ | .ptr _ _ | .slc _ _ | .sub _ _ _ => true
  | .val (.int _ _) | .val (.float _ _) => true
  | _ => false

theorem oneA_cells {σ : List (Nat × Nat)} {x : AC} {v : Value} (h : RepC σ x v) (ho : oneA x = true) : v.cells = #[v] ∧ v.oneCell' = true := by
  cases x with
  | fl k x => obtain ⟨t, rfl, _⟩ := h; exact ⟨rfl, rfl⟩
  | cx k x y => obtain ⟨t, s, rfl, _, _⟩ := h; exact ⟨rfl, rfl⟩
  | sb b => cases h; exact ⟨rfl, rfl⟩
  | val u => cases h; cases v <;> first | exact ⟨rfl, rfl⟩ | cases ho
  | ptr id off => obtain ⟨b, _, rfl⟩ := h; exact ⟨rfl, rfl⟩
  | slc id n => obtain ⟨b, _, _, rfl⟩ := h; exact ⟨rfl, rfl⟩
  | sub id off n => obtain ⟨b, a, c, _, rfl, _⟩ := h; exact ⟨rfl, rfl⟩
  | any => cases ho

def cellsOk : AV → Option (List AC)
  | .c x => if oneA x then some [x] else none
  | .agg l => if l.all oneA then some l else none
  | .tup _ => none

theorem cellsOk_sound {σ : List (Nat × Nat)} {x : AV} {l : List AC} {v : Value} (h : cellsOk x = some l) (hv : Rep σ x v) : RepL σ l v.cells.toList ∧ ∀ u ∈ v.cells.toList, u.oneCell' = true := by
  have many : ∀ {l : List AC} {vs : List Value}, RepL σ l vs → l.all oneA = true → ∀ u ∈ vs, u.oneCell' = true := by
    intro l vs hl
    induction hl with
    | nil => intro _ u hu; cases hu
    | cons h _ ih =>
      intro ha u hu
      simp only [List.all_cons, Bool.and_eq_true] at ha
      rcases List.mem_cons.1 hu with rfl | hu
      · exact (oneA_cells h ha.1).2
      · exact ih ha.2 u hu
  cases x with
  | c x =>
    simp only [cellsOk] at h
    split at h
    · rename_i ho
      cases h
      have := oneA_cells hv ho
      rw [this.1]
      exact ⟨.cons hv .nil, fun u hu => by simp at hu; subst hu; exact this.2⟩
    · cases h
  | agg l' =>
    simp only [cellsOk] at h
    split at h
    · rename_i ho
      cases h
      obtain ⟨vs, rfl, hl⟩ := hv
      exact ⟨hl, many hl ho⟩
    · cases h
  | tup l => cases h

/-- Cells put over others. -/
def setAt (cs : List AC) (off : Nat) (l : List AC) : List AC := (l.zipIdx 0).foldl (fun cs x => cs.set (off + x.2) x.1) cs

theorem setAt_sound {σ : List (Nat × Nat)} (off : Nat) {l : List AC} {vs : List Value} (hl : RepL σ l vs) : ∀ (i : Nat) {cs : List AC} {zs : Array Value}, RepL σ cs zs.toList →
    RepL σ ((l.zipIdx i).foldl (fun cs x => cs.set (off + x.2) x.1) cs) ((vs.zipIdx i).foldl (fun cs x => cs.setIfInBounds (off + x.2) x.1) zs).toList := by
  induction hl with
  | nil => intro i cs zs h; exact h
  | cons h _ ih =>
    intro i cs zs hz
    simp only [List.zipIdx_cons, List.foldl_cons]
    refine ih (i + 1) ?_
    rw [Array.toList_setIfInBounds]
    exact hz.set _ h

/-- A value built of parts. -/
def fillA (place : Nat → Option (Nat × Nat)) : List AC → List (Nat × List AC) → Option (List AC)
  | cs, [] => some cs
  | cs, (i, l) :: rest =>
    match place i with
    | none => none
    | some (off, size) => if l.length ≠ size || off + l.length > cs.length then none else fillA place (setAt cs off l) rest

theorem fillA_sound {σ : List (Nat × Nat)} (place : Nat → Option (Nat × Nat)) : ∀ (parts : List (Nat × List AC)) (parts' : List (Nat × Value)) (cs : List AC) (zs : Array Value) (r : List AC),
    parts.length = parts'.length → (∀ (j i : Nat) (l : List AC), parts[j]? = some (i, l) → ∃ v : Value, parts'[j]? = some (i, v) ∧ RepL σ l v.cells.toList) →
    RepL σ cs zs.toList → fillA place cs parts = some r → ∃ zs', Instr.fill place zs parts' = some zs' ∧ RepL σ r zs'.toList
  | [], [], cs, zs, r, _, _, hz, h => by cases h; exact ⟨zs, rfl, hz⟩
  | (i, l) :: rest, (i', v) :: rest', cs, zs, r, hlen, hp, hz, h => by
    obtain ⟨v', hv', hl⟩ := hp 0 i l rfl
    simp only [List.getElem?_cons_zero, Option.some.injEq, Prod.mk.injEq] at hv'
    obtain ⟨rfl, rfl⟩ := hv'
    simp only [fillA] at h
    simp only [Instr.fill]
    cases hpl : place i' with
    | none => simp [hpl] at h
    | some os =>
      obtain ⟨off, size⟩ := os
      simp only [hpl] at h ⊢
      have e1 : l.length = v.cells.size := by simpa using hl.length
      have e2 : cs.length = zs.size := by simpa using hz.length
      rw [e1, e2] at h
      split at h
      · cases h
      · rename_i hc
        rw [if_neg hc]
        refine fillA_sound place rest rest' _ _ r (by simpa using hlen) (fun j i l hj => hp (j + 1) i l hj) ?_ h
        have := setAt_sound off hl 0 hz
        have e : v.cells.zipIdx.foldl (fun cs x => cs.setIfInBounds (off + x.2) x.1) zs = (v.cells.toList.zipIdx 0).foldl (fun cs x => cs.setIfInBounds (off + x.2) x.1) zs := by
          rw [← Array.foldl_toList, Array.toList_zipIdx]
        rw [← e] at this
        exact this

/-- The parts of a literal. -/
def partsA (F : List AV) : List (Nat × Operand) → Option (List (Nat × List AC))
  | [] => some []
  | (i, x) :: rest =>
    match cellsOk (evA F x), partsA F rest with
    | some l, some r => some ((i, l) :: r)
    | _, _ => none

theorem partsA_sound {σ : List (Nat × Nat)} {F : List AV} {a : Act} (hF : RepF σ F a.tmps.toList) : ∀ (ps : List (Nat × Operand)) (qs : List (Nat × List AC)), partsA F ps = some qs →
    qs.length = (ps.map fun x => (x.1, a.eval x.2)).length ∧
    ∀ (j i : Nat) (l : List AC), qs[j]? = some (i, l) → ∃ v : Value, (ps.map fun x => (x.1, a.eval x.2))[j]? = some (i, v) ∧ RepL σ l v.cells.toList
  | [], qs, h => by cases h; exact ⟨rfl, fun j i l hj => by cases hj⟩
  | (i, x) :: rest, qs, h => by
    simp only [partsA] at h
    split at h
    · rename_i l r hl hr
      cases h
      obtain ⟨h1, h2⟩ := partsA_sound hF rest r hr
      refine ⟨by simpa using h1, fun j i' l' hj => ?_⟩
      cases j with
      | zero =>
        cases hj
        exact ⟨a.eval x, rfl, (cellsOk_sound hl (rep_ev hF x)).1⟩
      | succ j => exact h2 j i' l' hj
    · cases h

/-- What a literal of a struct or an array answers. -/
def builtA (P : Program) (t : TypeId) (parts : List (Nat × List AC)) : Option (List AC) :=
  match P.info? t, P.underlying t with
  | some it, some (.array _ e) =>
    match it.zero, P.info? e with
    | some z, some ie => fillA (fun i => some (i * ie.size, ie.size)) (z.cells.toList.map toC) parts
    | _, _ => none
  | some it, some (.struct fields) =>
    match it.zero, fields.toList.mapM (fun f => (P.info? f.type).map fun i => (f.offset, i.size)) with
    | some z, some places => fillA (places.toArray[·]?) (z.cells.toList.map toC) parts
    | _, _ => none
  | _, _ => none

theorem rep_map_toC (σ : List (Nat × Nat)) (vs : List Value) : RepL σ (vs.map toC) vs := by
  induction vs with
  | nil => exact .nil
  | cons v vs ih => exact .cons (rep_toC σ v) ih

theorem builtA_sound {P : Program} {σ : List (Nat × Nat)} {t : TypeId} {parts : List (Nat × List AC)} {parts' : List (Nat × Value)} {r : List AC} (hlen : parts.length = parts'.length)
    (hp : ∀ (j i : Nat) (l : List AC), parts[j]? = some (i, l) → ∃ v : Value, parts'[j]? = some (i, v) ∧ RepL σ l v.cells.toList) (h : builtA P t parts = some r) :
    ∃ zs, P.built t parts' = some zs ∧ RepL σ r zs.toList := by
  unfold builtA at h
  unfold Program.built
  split at h
  · rename_i it e hi hu
    split at h
    · rename_i z ie hz hie
      simp only [hi, hu, hz, hie]
      exact fillA_sound _ _ _ _ z.cells _ hlen hp (rep_map_toC σ _) h
    · cases h
  · rename_i it fields hi hu
    split at h
    · rename_i z places hz hpl
      simp only [hi, hu, hz, hpl]
      exact fillA_sound _ _ _ _ z.cells _ hlen hp (rep_map_toC σ _) h
    · cases h
  · cases h

/-- The lesser and the greater of two floats. -/
def pmin (k : FloatKind) (a b : Nat) : Ordering → Nat
  | .lt => a
  | .gt => b
  | .eq => if (k.decode a).neg then a else b
def fmin {k : FloatKind} (x y : Fl k) : Fl k :=
  match x, y with
  | some a, some b => (k.format.order a b).map (pmin k a b)
  | _, _ => none
theorem fmin_some {k : FloatKind} (a b : Nat) : @fmin k (some a) (some b) = (k.format.order a b).map (pmin k a b) := by unfold fmin; rfl
def pmax (k : FloatKind) (a b : Nat) : Ordering → Nat
  | .lt => b
  | .gt => a
  | .eq => if (k.decode a).neg then b else a
def fmax {k : FloatKind} (x y : Fl k) : Fl k :=
  match x, y with
  | some a, some b => (k.format.order a b).map (pmax k a b)
  | _, _ => none
theorem fmax_some {k : FloatKind} (a b : Nat) : @fmax k (some a) (some b) = (k.format.order a b).map (pmax k a b) := by unfold fmax; rfl
theorem ord_two {k : FloatKind} (a b : Nat) : @ord k (some a) (some b) = k.format.order a b := by unfold ord; rfl
theorem mm_cut (k : FloatKind) (m : Bool) (x y t : Nat) : Question.cut (.nanMinMax k m x y) t = nanW k t := by cases k <;> rfl
theorem run_min {P : Program} {k : FloatKind} {x y : Fl k} {t s : Nat} (hx : Wd k (B x t)) (hy : Wd k (B y s)) (w : World) : ∃ u n, (Builtin.min2 (.float k (B x t)) (.float k (B y s))).run P w = .ok (.float k (B (fmin x y) u)) (w.drewN n) ∧ Wd k (B (fmin x y) u) := by
  have ho := order_B x y t s
  have hn := mm_cut k false (B x t) (B y s)
  have no : ord x y = none → fmin x y = none → ∃ u n, (Builtin.min2 (.float k (B x t)) (.float k (B y s))).run P w = .ok (.float k (B (fmin x y) u)) (w.drewN n) ∧ Wd k (B (fmin x y) u) := by
    intro h1 h2
    rw [h2]
    refine ⟨w.tape w.drawn (.nanMinMax k false (B x t) (B y s)), 1, ?_, wd_none _ _⟩
    rw [h1] at ho
    simp only [Builtin.min2, ho, bind, pure, Sem.bind, choose, Sem.run, Question.forced, hn]
    rfl
  cases x with
  | none => exact no (by cases y <;> rfl) (by cases y <;> rfl)
  | some a => cases y with
    | none => exact no (by unfold ord; rfl) (by unfold fmin; rfl)
    | some b =>
      cases hab : k.format.order a b with
      | none => exact no ((ord_two a b).trans hab) (by rw [fmin_some, hab]; rfl)
      | some o =>
        have ho' : k.format.order (@B k (some a) t) (@B k (some b) s) = some o := ho.trans ((ord_two a b).trans hab)
        refine ⟨0, 0, ?_, ?_⟩
        · rw [fmin_some, hab]
          show _ = Result.ok (Value.float k (pmin k a b o)) w
          simp only [Builtin.min2, ho']
          cases o <;> rfl
        · rw [fmin_some, hab]
          cases o
          · exact hx
          · show Wd k (if (k.decode a).neg then a else b)
            split
            · exact hx
            · exact hy
          · exact hy
theorem run_max {P : Program} {k : FloatKind} {x y : Fl k} {t s : Nat} (hx : Wd k (B x t)) (hy : Wd k (B y s)) (w : World) : ∃ u n, (Builtin.max2 (.float k (B x t)) (.float k (B y s))).run P w = .ok (.float k (B (fmax x y) u)) (w.drewN n) ∧ Wd k (B (fmax x y) u) := by
  have ho := order_B x y t s
  have hn := mm_cut k true (B x t) (B y s)
  have no : ord x y = none → fmax x y = none → ∃ u n, (Builtin.max2 (.float k (B x t)) (.float k (B y s))).run P w = .ok (.float k (B (fmax x y) u)) (w.drewN n) ∧ Wd k (B (fmax x y) u) := by
    intro h1 h2
    rw [h2]
    refine ⟨w.tape w.drawn (.nanMinMax k true (B x t) (B y s)), 1, ?_, wd_none _ _⟩
    rw [h1] at ho
    simp only [Builtin.max2, ho, bind, pure, Sem.bind, choose, Sem.run, Question.forced, hn]
    rfl
  cases x with
  | none => exact no (by cases y <;> rfl) (by cases y <;> rfl)
  | some a => cases y with
    | none => exact no (by unfold ord; rfl) (by unfold fmax; rfl)
    | some b =>
      cases hab : k.format.order a b with
      | none => exact no ((ord_two a b).trans hab) (by rw [fmax_some, hab]; rfl)
      | some o =>
        have ho' : k.format.order (@B k (some a) t) (@B k (some b) s) = some o := ho.trans ((ord_two a b).trans hab)
        refine ⟨0, 0, ?_, ?_⟩
        · rw [fmax_some, hab]
          show _ = Result.ok (Value.float k (pmax k a b o)) w
          simp only [Builtin.max2, ho']
          cases o <;> rfl
        · rw [fmax_some, hab]
          cases o
          · exact hy
          · show Wd k (if (k.decode a).neg then b else a)
            split
            · exact hy
            · exact hx
          · exact hx

def mmA (F : List AV) (b : Builtin) (args : List Operand) : Option AV :=
  match b, args with
  | .min, [x, y] => match evA F x, evA F y with
    | .c (.fl .f64 u), .c (.fl .f64 v) => some (.c (.fl .f64 (fmin u v)))
    | .c (.fl .f32 u), .c (.fl .f32 v) => some (.c (.fl .f32 (fmin u v)))
    | _, _ => none
  | .max, [x, y] => match evA F x, evA F y with
    | .c (.fl .f64 u), .c (.fl .f64 v) => some (.c (.fl .f64 (fmax u v)))
    | .c (.fl .f32 u), .c (.fl .f32 v) => some (.c (.fl .f32 (fmax u v)))
    | _, _ => none
  | _, _ => none
theorem mmA_sound {P : Program} {w : World} {σ : List (Nat × Nat)} {F : List AV} {a : Act} {b : Builtin} {ats : Array TypeId} {args : List Operand} {r : AV} {ty : TypeId} (hF : RepF σ F a.tmps.toList) (h : mmA F b args = some r) :
    ∃ v w', (∀ cs : Array Bool, (builtin b ats ty cs (args.map a.eval).toArray).run P w = .ok (.value v) w') ∧ Rep σ r v ∧ Ext w w' := by
  have mn : ∀ {k : FloatKind} {u v : Fl k} {x y : Operand}, evA F x = .c (.fl k u) → evA F y = .c (.fl k v) → ∃ z w', (∀ cs : Array Bool, (builtin .min ats ty cs #[a.eval x, a.eval y]).run P w = .ok (.value z) w') ∧ Rep σ (.c (.fl k (fmin u v))) z ∧ Ext w w' := by
    intro k u v x y ex ey
    have hx := rep_ev hF x
    have hy := rep_ev hF y
    rw [ex] at hx; rw [ey] at hy
    obtain ⟨t, ht, hw1⟩ := hx
    obtain ⟨s, hs, hw2⟩ := hy
    obtain ⟨z, n, hr, hz⟩ := run_min (P := P) hw1 hw2 w
    refine ⟨_, _, fun _ => ?_, ⟨z, rfl, hz⟩, Ext.drewN w n⟩
    simp [builtin, Builtin.min_, ht, hs, hr]
  have mx : ∀ {k : FloatKind} {u v : Fl k} {x y : Operand}, evA F x = .c (.fl k u) → evA F y = .c (.fl k v) → ∃ z w', (∀ cs : Array Bool, (builtin .max ats ty cs #[a.eval x, a.eval y]).run P w = .ok (.value z) w') ∧ Rep σ (.c (.fl k (fmax u v))) z ∧ Ext w w' := by
    intro k u v x y ex ey
    have hx := rep_ev hF x
    have hy := rep_ev hF y
    rw [ex] at hx; rw [ey] at hy
    obtain ⟨t, ht, hw1⟩ := hx
    obtain ⟨s, hs, hw2⟩ := hy
    obtain ⟨z, n, hr, hz⟩ := run_max (P := P) hw1 hw2 w
    refine ⟨_, _, fun _ => ?_, ⟨z, rfl, hz⟩, Ext.drewN w n⟩
    simp [builtin, Builtin.max_, ht, hs, hr]
  unfold mmA at h
  split at h
  · rename_i x y
    split at h
    · rename_i u v ex ey; cases h; exact mn ex ey
    · rename_i u v ex ey; cases h; exact mn ex ey
    · cases h
  · rename_i x y
    split at h
    · rename_i u v ex ey; cases h; exact mx ex ey
    · rename_i u v ex ey; cases h; exact mx ex ey
    · cases h
  · cases h

def biA (F : List AV) (b : Builtin) (argTypes : Array TypeId) (P : Program) (args : List Operand) : Option AV :=
  match b, args with
  | .complex, [x, y] => match evA F x, evA F y with
    | .c (.fl .f32 u), .c (.fl .f32 v) => some (.c (.cx .f32 u v))
    | .c (.fl .f64 u), .c (.fl .f64 v) => some (.c (.cx .f64 u v))
    | _, _ => none
  | .real, [x] => match evA F x with
    | .c (.cx k u _) => some (.c (.fl k u))
    | _ => none
  | .imag, [x] => match evA F x with
    | .c (.cx k _ v) => some (.c (.fl k v))
    | _ => none
  | .len, [x] => match evA F x, argTypes[0]? with
    | .c (.slc _ n), some t => match P.underlying t with
      | some (.slice _) => some (.c (.val (.int .i64 n)))
      | _ => none
    | .c (.val (.slice none 0 0)), some t => match P.underlying t with
      | some (.slice _) => some (.c (.val (.int .i64 0)))
      | _ => none
    | .c (.sub _ _ n), some t => match P.underlying t with
      | some (.slice _) => some (.c (.val (.int .i64 n)))
      | _ => none
    | _, _ => none
  | _, _ => none

theorem biA_sound {P : Program} {w : World} {σ : List (Nat × Nat)} {F : List AV} {a : Act} {b : Builtin} {ats : Array TypeId} {args : List Operand} {r : AV} {ty : TypeId} (hF : RepF σ F a.tmps.toList) (h : biA F b ats P args = some r) :
    ∃ v, (∀ cs : Array Bool, (builtin b ats ty cs (args.map a.eval).toArray).run P w = .ok (.value v) w) ∧ Rep σ r v := by
  unfold biA at h
  split at h
  · rename_i x y
    have hx := rep_ev hF x
    have hy := rep_ev hF y
    split at h
    · rename_i u v ex ey
      cases h
      rw [ex] at hx; rw [ey] at hy
      obtain ⟨t, ht, hw1⟩ := hx
      obtain ⟨s, hs, hw2⟩ := hy
      exact ⟨_, fun _ => by simp [builtin, ht, hs, run_complex], t, s, rfl, hw1, hw2⟩
    · rename_i u v ex ey
      cases h
      rw [ex] at hx; rw [ey] at hy
      obtain ⟨t, ht, hw1⟩ := hx
      obtain ⟨s, hs, hw2⟩ := hy
      exact ⟨_, fun _ => by simp [builtin, ht, hs, run_complex], t, s, rfl, hw1, hw2⟩
    · cases h
  · rename_i x
    have hx := rep_ev hF x
    split at h
    · rename_i k u v ex
      cases h
      rw [ex] at hx
      obtain ⟨t, s, ht, hw1, hw2⟩ := hx
      exact ⟨_, fun _ => by simp [builtin, ht, run_real], t, rfl, hw1⟩
    · cases h
  · rename_i x
    have hx := rep_ev hF x
    split at h
    · rename_i k u v ex
      cases h
      rw [ex] at hx
      obtain ⟨t, s, ht, hw1, hw2⟩ := hx
      exact ⟨_, fun _ => by simp [builtin, ht, run_imag], s, rfl, hw2⟩
    · cases h
  · rename_i x
    have hx := rep_ev hF x
    split at h
    · rename_i id n t ex ht
      split at h
      · rename_i e hu
        cases h
        rw [ex] at hx
        obtain ⟨b, hb, _, hv⟩ := hx
        refine ⟨.int .i64 n, fun _ => ?_, rfl⟩
        have hl : (Builtin.len_ ats ty #[a.eval x]).run P w = .ok (.int .i64 n) w := by
          rw [hv]
          simp [Builtin.len_, ht, run_underlying hu, goInt]
        simp [builtin, hl]
      · cases h
    · rename_i t ex ht
      split at h
      · rename_i e hu
        cases h
        rw [ex] at hx
        have hv : a.eval x = .slice none 0 0 := hx
        refine ⟨.int .i64 0, fun _ => ?_, rfl⟩
        have hl : (Builtin.len_ ats ty #[a.eval x]).run P w = .ok (.int .i64 0) w := by
          rw [hv]
          simp [Builtin.len_, ht, run_underlying hu, goInt]
        simp [builtin, hl]
      · cases h
    · rename_i id off n t ex ht
      split at h
      · rename_i e hu
        cases h
        rw [ex] at hx
        obtain ⟨b, a', c', hb, hv, _⟩ := hx
        refine ⟨.int .i64 n, fun _ => ?_, rfl⟩
        have hl : (Builtin.len_ ats ty #[a.eval x]).run P w = .ok (.int .i64 n) w := by
          rw [hv]
          simp [Builtin.len_, ht, run_underlying hu, goInt]
        simp [builtin, hl]
      · cases h
    · cases h
  · cases h

/-- A part of a tuple; a struct that is known bit for bit is laid out. -/
def spread : AC → AV
  | .val (.agg ⟨vs⟩) => .agg (vs.map .val)
  | c => .c c
theorem spread_list {σ : List (Nat × Nat)} : ∀ vs : List Value, RepL σ (vs.map .val) vs
  | [] => .nil
  | _ :: vs => .cons rfl (spread_list vs)
theorem spread_rep {σ : List (Nat × Nat)} {c : AC} {z : Value} (h : RepC σ c z) : Rep σ (spread c) z := by
  unfold spread
  split
  · rename_i vs
    have hz : z = .agg ⟨vs⟩ := h
    exact ⟨⟨vs⟩, hz, spread_list vs⟩
  · exact h

/-- What an operation that only reads answers; under a condition. -/
def opA (P : Program) (E : List (Entry P)) (F : List AV) (M : List (List AC)) (op : Op) : Option (Bool × AV) :=
  match op with
  | .move x | .assign x => some (true, evA F x)
  | .binOp op t x y _ => match evA F x, evA F y with
    | .c a, .c b => (opBin P t op a b).map fun r => (true, .c r)
    | _, _ => none
  | .unOp op _ x => match evA F x with
    | .c a => (opUn op a).map fun r => (true, .c r)
    | _ => none
  | .convert src dst x => match evA F x with
    | .c a => (opConv P src dst a).map fun r => (r.1, .c r.2)
    | _ => none
  | .extract x i => match evA F x with
    | .tup l => (l[i]?).map fun r => (true, spread r)
    | _ => none
  | .load t x => match evA F x with
    | .c (.ptr id off) => (rdA P M t id off).map fun r => (true, r)
    | _ => none
  | .fieldAddr s x f => (fldA P s f (evA F x)).map fun r => (true, r)
  | .nilCheck x => match evA F x with
    | .c (.ptr id off) => some (true, .c (.ptr id off))
    | _ => none
  | .indexAddr t x i => (ixA P t (evA F x) (evA F i)).map fun r => (true, r)
  | .index t x i => (elA P t (evA F x) (evA F i)).map fun r => (true, r)
  | .slice t x (some lo) none none => (slA P t (evA F x) (evA F lo)).map fun r => (true, r)
  | .build t parts => match partsA F parts.toList with
    | some ps => (builtA P t ps).map fun r => (true, .agg r)
    | none => none
  | .call c => match c.callee with
    | .value f => match evA F f with
      | .c (.val (.func (.func id) ⟨[]⟩ ⟨[]⟩)) => match find E id with
        | some e => e.fn (c.args.toList.map (evA F)) M
        | none => none
      | _ => none
    | .builtin b => match mmA F b c.args.toList with
      | some r => some (true, r)
      | none => (biA F b c.argTypes P c.args.toList).map fun r => (true, r)
    | _ => none
  | _ => none

theorem repF_map {σ : List (Nat × Nat)} {F : List AV} {a : Act} (hF : RepF σ F a.tmps.toList) (l : List Operand) : RepF σ (l.map (evA F)) (l.map a.eval) := by
  induction l with
  | nil => exact .nil
  | cons x l ih => exact .cons (rep_ev hF x) ih

theorem run_v {P : Program} {w w' : World} {s : Sem Value} {z : Value} (h : s.run P w = .ok z w') : (s >>= fun v => pure (Next.value v)).run P w = .ok (.value z) w' := by
  simp [h]

/-- What is known where an operation runs. -/
theorem opA_sound {P : Program} {E : List (Entry P)} {F : List AV} {M : List (List AC)} {op : Op} {r : AV} {σ : List (Nat × Nat)} {a : Act} {w : World}
    (h : opA P E F M op = some (true, r)) (hF : RepF σ F a.tmps.toList) (hM : MemOk σ M w)
    {dst : Option Tmp} {ty : TypeId} {pos : String} {after : Array Edge} {gd : Option (Nat × Bool)} {next : Act → World → Prop} {Q : Exit → Act → World → Prop}
    (hn : ∀ v w', Rep σ r v → Ext w w' → next (a.put dst v) w') : Oper.wp P ⟨dst, op, ty, pos, after, gd⟩ a w next Q := by
  have val : ∀ {v w'}, (execOp a.eval ⟨dst, op, ty, pos, after, gd⟩).run P w = .ok (.value v) w' → Rep σ r v → Ext w w' → Oper.wp P ⟨dst, op, ty, pos, after, gd⟩ a w next Q := by
    intro v w' he hr hx
    unfold Oper.wp
    rw [he]
    exact hn v w' hr hx
  have map1 : ∀ {α : Type} {o : Option α} {f : α → Bool × AV}, o.map f = some (true, r) → ∃ x, o = some x ∧ f x = (true, r) := by
    intro α o f h
    cases o with
    | none => cases h
    | some x => exact ⟨x, rfl, by simpa using h⟩
  unfold opA at h
  split at h
  · rename_i x; cases h; exact val rfl (rep_ev hF x) (Ext.refl _)
  · rename_i x; cases h; exact val rfl (rep_ev hF x) (Ext.refl _)
  · rename_i bop t x y t'
    have hx := rep_ev hF x
    have hy := rep_ev hF y
    split at h
    · rename_i u v ex ey
      obtain ⟨c, hc, he⟩ := map1 h
      cases he
      rw [ex] at hx; rw [ey] at hy
      obtain ⟨z, w', hr, hz, hw⟩ := opBin_sound (P := P) (w := w) (x := x) (y := y) hc hx hy
      exact val (run_v hr) hz hw
    · cases h
  · rename_i uop t x
    have hx := rep_ev hF x
    split at h
    · rename_i u ex
      obtain ⟨c, hc, he⟩ := map1 h
      cases he
      rw [ex] at hx
      obtain ⟨z, hr, hz⟩ := opUn_sound (P := P) (w := w) hc hx
      exact val (run_v hr) hz (Ext.refl _)
    · cases h
  · rename_i src dst' x
    have hx := rep_ev hF x
    split at h
    · rename_i u ex
      obtain ⟨⟨c1, c2⟩, hc, he⟩ := map1 h
      cases he
      rw [ex] at hx
      obtain ⟨z, w', hr, hz, hw⟩ := opConv_sound (P := P) (w := w) hc hx
      exact val (run_v hr) hz hw
    · cases h
  · rename_i x i
    have hx := rep_ev hF x
    split at h
    · rename_i l ex
      obtain ⟨c, hc, he⟩ := map1 h
      cases he
      rw [ex] at hx
      obtain ⟨vs, hv, hl⟩ := hx
      obtain ⟨z, hz, hr⟩ := hl.get? hc
      have hz' : vs[i]? = some z := by simpa using hz
      have hrun : (Instr.extract (a.eval x) i).run P w = .ok z w := by rw [hv]; simp [Instr.extract, hz']
      exact val (run_v hrun) (spread_rep hr) (Ext.refl _)
    · cases h
  · rename_i t x
    have hx := rep_ev hF x
    split at h
    · rename_i id off ex
      obtain ⟨c, hc, he⟩ := map1 h
      cases he
      rw [ex] at hx
      obtain ⟨b, hb, hv⟩ := hx
      obtain ⟨z, hr, hz⟩ := rdA_sound (P := P) (w := w) hM hb hc
      have hrun : (Instr.loadAt t (a.eval x)).run P w = .ok z w := by rw [hv]; simp [Instr.loadAt, Instr.sureAddr, hr]
      exact val (run_v hrun) hz (Ext.refl _)
    · cases h
  · rename_i s x f
    obtain ⟨c, hc, he⟩ := map1 h
    cases he
    obtain ⟨z, hr, hz⟩ := fldA_sound (P := P) (w := w) hc (rep_ev hF x)
    exact val (run_v hr) hz (Ext.refl _)
  · rename_i x
    have hx := rep_ev hF x
    split at h
    · rename_i id off ex
      cases h
      rw [ex] at hx
      obtain ⟨b, hb, hv⟩ := hx
      refine val (v := .pointer (some ⟨b.1, off, none⟩)) (w' := w) ?_ ⟨b, hb, rfl⟩ (Ext.refl _)
      simp only [execOp, hv]; rfl
    · cases h
  · rename_i t x i
    obtain ⟨c, hc, he⟩ := map1 h
    cases he
    obtain ⟨z, hr, hz⟩ := ixA_sound (P := P) (w := w) hc (rep_ev hF x) (rep_ev hF i)
    exact val (run_v hr) hz (Ext.refl _)
  · rename_i t x i
    obtain ⟨c, hc, he⟩ := map1 h
    cases he
    obtain ⟨z, hr, hz⟩ := elA_sound (P := P) (w := w) hc (rep_ev hF x) (rep_ev hF i)
    exact val (run_v hr) hz (Ext.refl _)
  · rename_i t x lo
    obtain ⟨c, hc, he⟩ := map1 h
    cases he
    obtain ⟨z, hr, hz⟩ := slA_sound (P := P) (w := w) hc (rep_ev hF x) (rep_ev hF lo)
    exact val (run_v hr) hz (Ext.refl _)
  · rename_i t parts
    split at h
    · rename_i ps hp
      obtain ⟨c, hc, he⟩ := map1 h
      cases he
      obtain ⟨h1, h2⟩ := partsA_sound hF _ _ hp
      obtain ⟨zs, hb, hz⟩ := builtA_sound (P := P) h1 h2 hc
      have hb' : P.built t (parts.map fun (i, x) => (i, a.eval x)).toList = some zs := by rw [Array.toList_map]; exact hb
      exact val (run_v (run_build w t _ _ hb')) ⟨zs, rfl, hz⟩ (Ext.refl _)
    · cases h
  · rename_i c
    split at h
    · rename_i f hcal
      have hf := rep_ev hF f
      split at h
      · rename_i id ef
        rw [ef] at hf
        have hf' : a.eval f = .func (.func id) #[] #[] := hf
        split at h
        · rename_i e hfind
          have hid := find_f hfind
          have hg := e.ok _ _ _ h σ (c.args.toList.map a.eval) w hM (repF_map hF _)
          rw [hid] at hg
          have hargs : (c.args.toList.map a.eval).toArray = c.args.map a.eval := by rw [← Array.toList_map, Array.toArray_toList]
          rw [hargs] at hg
          have hres : ∀ X, (execOp a.eval ⟨dst, .call c, ty, pos, after, gd⟩).run P w = X ↔ (callFunc id (c.args.map a.eval)).run P w = X := by
            intro X
            have : (execOp a.eval ⟨dst, .call c, ty, pos, after, gd⟩).run P w = (callFunc id (c.args.map a.eval)).run P w := by
              simp only [execOp, Go.resolve, hcal, hf', Deferred.ofValue]
              simp [invoke]
            rw [this]
          rcases hg with ⟨v, w', hr, hv, hw⟩ | ⟨hr, hcalls⟩
          · exact val ((hres _).2 hr) hv hw
          · unfold Oper.wp
            rw [(hres _).2 hr]
            exact hcalls.mono fun e w' ⟨v, he, hv, hw⟩ => by subst he; exact hn v w' hv hw
        · cases h
      · cases h
    · rename_i b hcal
      have hargs : (c.args.toList.map a.eval).toArray = c.args.map a.eval := by rw [← Array.toList_map, Array.toArray_toList]
      split at h
      · rename_i r' hmm
        cases h
        obtain ⟨v, w', hr, hz, hx⟩ := mmA_sound (P := P) (w := w) (ats := c.argTypes) (ty := ty) hF hmm
        rw [hargs] at hr
        refine val (v := v) (w' := w') ?_ hz hx
        simp only [execOp, Go.resolve, hcal]
        simp [invoke, hr]
      · obtain ⟨r', hc, he⟩ := map1 h
        cases he
        obtain ⟨v, hr, hz⟩ := biA_sound (P := P) (w := w) (ty := ty) hF hc
        rw [hargs] at hr
        refine val (v := v) (w' := w) ?_ hz (Ext.refl _)
        simp only [execOp, Go.resolve, hcal]
        simp [invoke, hr]
    · cases h
  · cases h

end Go.Proofs.Ytlpahmefebgdlaa.Fx
