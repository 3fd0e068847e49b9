/- The executor, seventh part: regions whose order is drawn and that store. No condition. -/
import Derived.Test.YtlpahmefebgdlaaEp
namespace Go.Proofs.Ytlpahmefebgdlaa.Fx
open Go Go.RowKit

/-- The effect of a store on the known blocks. -/
def stoA (P : Program) (n0 : Nat) (t : TypeId) (x y : AV) (M : List (List AC)) : Option (List (List AC)) :=
  match x, cellsOk y, P.info? t with
  | .c (.ptr id off), some l, some i => match M[id]? with
    | some cs => if n0 ≤ id ∧ l.length = i.size ∧ off + l.length ≤ cs.length then some (M.set id (overA cs off l)) else none
    | none => none
  | _, _, _ => none

/-- The value and the memory of an operation that makes no block. -/
def valM (P : Program) (E : List (Entry P)) (n0 : Nat) (F : List AV) (M : List (List AC)) (op : Op) : Option (AV × List (List AC)) :=
  match op with
  | .store t x y => (stoA P n0 t (evA F x) (evA F y) M).map fun M' => (undefA, M')
  | op => (valA P E F M op).map fun v => (v, M)

def stepM (P : Program) (E : List (Entry P)) (n0 : Nat) (ops : Array Oper) (o : Oper) (F : List AV) (M : List (List AC)) : Option (AV × List (List AC)) :=
  match o.guard with
  | none => valM P E n0 F M o.op
  | some (j, want) =>
    match (ops[j]?).bind (·.dst) with
    | none => none
    | some d =>
      match F[d]? with
      | some (.c (.sb b)) => cond (b == want) (valM P E n0 F M o.op) (some (undefA, M))
      | some (.c (.val (.tuple _))) => some (undefA, M)
      | _ => none

/-- Operations that do not look at the memory. -/
def blindOp : Op → Bool
  | .move _ | .assign _ | .binOp .. | .unOp .. | .convert .. | .extract .. | .fieldAddr .. | .nilCheck _ | .indexAddr .. | .index .. | .build .. | .pick .. => true
  | .call c => match c.callee with
    | .builtin _ => true
    | _ => false
  | _ => false
def noStore : Op → Bool
  | .store .. => false
  | _ => true
/-- Their memories do not meet. -/
def memApart (x y : Oper) : Bool := blindOp x.op || blindOp y.op || (noStore x.op && noStore y.op)

theorem valM_congr {P : Program} {E : List (Entry P)} {n0 : Nat} {F F' : List AV} {M : List (List AC)} (op : Op) (h : ∀ x ∈ op.operands, evA F x = evA F' x) : valM P E n0 F M op = valM P E n0 F' M op := by
  have hv := valA_congr (P := P) (E := E) (M := M) op h
  cases op <;> simp only [valM, hv]
  case store t x y =>
    simp only [Op.operands] at h
    rw [h x (by simp), h y (by simp)]

theorem stepM_put {P : Program} {E : List (Entry P)} {n0 : Nat} {ops : Array Oper} {M : List (List AC)} {o : Oper} {F : List AV} {dst : Option Tmp} {v : AV} (h : ∀ d, dst = some d → d ∉ o.looksAt ops) : stepM P E n0 ops o (putA F dst v) M = stepM P E n0 ops o F M := by
  have hv : valM P E n0 (putA F dst v) M o.op = valM P E n0 F M o.op := valM_congr o.op fun x hx => evA_put fun d hd hxd => h d hd (by
    subst hxd
    exact List.mem_append_left _ (List.mem_filterMap.2 ⟨.tmp d, by simpa using hx, rfl⟩))
  unfold stepM
  rw [hv]
  cases hg : o.guard with
  | none => rfl
  | some gw =>
    obtain ⟨j, want⟩ := gw
    cases ht : (ops[j]?).bind (·.dst) with
    | none => simp only [ht]
    | some t =>
      have he : (putA F dst v)[t]? = F[t]? := by
        cases dst with
        | none => rfl
        | some d =>
          have hne : d ≠ t := fun e => h d rfl (by subst e; simp [Oper.looksAt, hg, ht])
          simp only [putA, List.getElem?_set_ne hne]
      simp only [ht, he]

theorem blind_opA {P : Program} {E : List (Entry P)} {F : List AV} {M M' : List (List AC)} {op : Op} (h : blindOp op = true) : opA P E F M op = opA P E F M' op := by
  cases op <;> first | rfl | (cases h; done) | skip
  case call c =>
    simp only [blindOp] at h
    cases hc : c.callee with
    | builtin b => simp only [opA, hc]
    | value f => simp only [hc] at h; cases h
    | invoke r m => simp only [hc] at h; cases h

theorem blind_valM {P : Program} {E : List (Entry P)} {n0 : Nat} {F : List AV} {M : List (List AC)} {op : Op} (h : blindOp op = true) (M' : List (List AC)) : valM P E n0 F M' op = (valM P E n0 F M op).map fun r => (r.1, M') := by
  have ho := blind_opA (P := P) (E := E) (F := F) (M := M') (M' := M) h
  have hA : valA P E F M' op = valA P E F M op := by
    cases op <;> simp only [valA, ho]
  cases op <;> first | (cases h; done) | skip
  all_goals
    simp only [valM, hA]
    generalize valA P E F M _ = r
    cases r <;> rfl

theorem blind_stepM {P : Program} {E : List (Entry P)} {n0 : Nat} {ops : Array Oper} {F : List AV} {M : List (List AC)} {o : Oper} (h : blindOp o.op = true) (M' : List (List AC)) : stepM P E n0 ops o F M' = (stepM P E n0 ops o F M).map fun r => (r.1, M') := by
  have hv := blind_valM (P := P) (E := E) (n0 := n0) (F := F) (M := M) h M'
  unfold stepM
  rw [hv]
  split
  · rfl
  · split
    · rfl
    · split
      · rename_i b _
        cases b == _ <;> rfl
      · rfl
      · rfl

theorem noStore_stepM {P : Program} {E : List (Entry P)} {n0 : Nat} {ops : Array Oper} {F : List AV} {M M' : List (List AC)} {o : Oper} {v : AV} (h : noStore o.op = true) (hs : stepM P E n0 ops o F M = some (v, M')) : M' = M := by
  have hv : ∀ {v M'}, valM P E n0 F M o.op = some (v, M') → M' = M := by
    intro v M' hv
    unfold valM at hv
    split at hv
    · rename_i h1; rw [h1] at h; cases h
    · cases hr : valA P E F M o.op with
      | none => simp [hr] at hv
      | some r => simp [hr] at hv; exact hv.2.symm
  unfold stepM at hs
  split at hs
  · exact hv hs
  · split at hs
    · cases hs
    · split at hs
      · rename_i b _
        cases hb : (b == _) with
        | true => rw [hb] at hs; exact hv hs
        | false => rw [hb] at hs; cases hs; rfl
      · cases hs; rfl
      · cases hs

/-- Two operations whose memories do not meet may change places. -/
theorem stepM_swap {P : Program} {E : List (Entry P)} {n0 : Nat} {ops : Array Oper} {F : List AV} {M M1 M2 : List (List AC)} {x y : Oper} {v u : AV} (hm : memApart x y = true)
    (hx : stepM P E n0 ops x F M = some (v, M1)) (hy : stepM P E n0 ops y F M1 = some (u, M2)) : ∃ M3, stepM P E n0 ops y F M = some (u, M3) ∧ stepM P E n0 ops x F M3 = some (v, M2) := by
  simp only [memApart, Bool.or_eq_true, Bool.and_eq_true] at hm
  rcases hm with (hb | hb) | ⟨h1, h2⟩
  · have e1 : M1 = M := noStore_stepM (by cases h : x.op <;> simp only [h, blindOp] at hb <;> first | rfl | cases hb) hx
    subst e1
    exact ⟨M2, hy, by rw [blind_stepM hb M2, hx]; rfl⟩
  · have hn : noStore y.op = true := by cases h : y.op <;> simp only [h, blindOp] at hb <;> first | rfl | cases hb
    have e1 : M2 = M1 := noStore_stepM hn hy
    subst e1
    have h3 := blind_stepM (P := P) (E := E) (n0 := n0) (ops := ops) (F := F) (M := M2) (o := y) hb M
    rw [hy] at h3
    exact ⟨M, h3, hx⟩
  · have e1 : M1 = M := noStore_stepM h1 hx
    subst e1
    have e2 : M2 = M1 := noStore_stepM h2 hy
    subst e2
    exact ⟨_, hy, hx⟩

/-- Whatever the order, this is the end. -/
def anyM (P : Program) (E : List (Entry P)) (n0 : Nat) (md : Region.Mode) (ops : Array Oper) (F' : List AV) (M' : List (List AC)) : Nat → Array Bool → List AV → List (List AC) → Prop
  | 0, listed, F, M => Region.ready md ops listed = [] ∧ F = F' ∧ M = M'
  | fuel + 1, listed, F, M =>
    (Region.ready md ops listed = [] → F = F' ∧ M = M') ∧
    ∀ i ∈ Region.ready md ops listed, ∃ o v M1, ops[i]? = some o ∧ stepM P E n0 ops o F M = some (v, M1) ∧ anyM P E n0 md ops F' M' fuel (listed.setIfInBounds i true) (putA F o.dst v) M1

theorem anyM_first {P : Program} {E : List (Entry P)} {n0 : Nat} {md : Region.Mode} {ops : Array Oper} {F' : List AV} {M' : List (List AC)} {i : Nat} {oi : Oper} {v : AV} (hi : ops[i]? = some oi) :
    ∀ (fuel : Nat) (listed : Array Bool) (F : List AV) (M M1 : List (List AC)),
      (∀ j oj, ops[j]? = some oj → j ≠ i → listed.getD j true = false → (∀ e ∈ oj.after, Region.binds md e = true → e.on ≠ i) → oi.apart ops oj = true ∧ memApart oi oj = true) →
      i ∈ Region.ready md ops listed → stepM P E n0 ops oi F M = some (v, M1) →
      anyM P E n0 md ops F' M' fuel (listed.setIfInBounds i true) (putA F oi.dst v) M1 → anyM P E n0 md ops F' M' (fuel + 1) listed F M := by
  intro fuel
  induction fuel with
  | zero =>
    intro listed F M M1 _ hr hy H
    refine ⟨fun h => (by rw [h] at hr; cases hr), fun j hj => ?_⟩
    by_cases hji : j = i
    · subst hji; exact ⟨oi, v, M1, hi, hy, H⟩
    · have := ready_mono hj hji
      rw [H.1] at this
      cases this
  | succ fuel ih =>
    intro listed F M M1 hfree hr hy H
    refine ⟨fun h => (by rw [h] at hr; cases hr), fun j hj => ?_⟩
    by_cases hji : j = i
    · subst hji; exact ⟨oi, v, M1, hi, hy, H⟩
    · obtain ⟨oj', u, M2, hoj', hu, hK⟩ := H.2 j (ready_mono hj hji)
      obtain ⟨hjun, oj, hoj, hall⟩ := mem_ready.1 hj
      rw [hoj] at hoj'
      have eo := Option.some.inj hoj'
      subst eo
      have hnot : ∀ e ∈ oj.after, Region.binds md e = true → e.on ≠ i := fun e he hb heq => by
        have h1 := hall e he hb
        have h0 := (mem_ready.1 hr).1
        rw [heq] at h1
        rcases Nat.lt_or_ge i listed.size with h' | h'
        · simp [h'] at h0 h1; rw [h0] at h1; cases h1
        · simp [Array.getElem?_eq_none h'] at h1
      obtain ⟨hap, hma⟩ := hfree j oj hoj hji hjun hnot
      obtain ⟨h1, h2, h3⟩ := Oper.apart_spec hap
      rw [stepM_put h1] at hu
      obtain ⟨M3, hu3, hy3⟩ := stepM_swap hma hy hu
      refine ⟨oj, u, M3, hoj, hu3, ih (listed.setIfInBounds j true) (putA F oj.dst u) M3 M2 (fun k ok hk hki hun hno => ?_) (ready_mono hr (Ne.symm hji)) ?_ ?_⟩
      · refine hfree k ok hk hki ?_ hno
        by_cases hjk : j = k
        · subst hjk; exact hjun
        · rw [getD_set_ne true hjk] at hun; exact hun
      · rw [stepM_put h3]; exact hy3
      · rw [Array.setIfInBounds_comm _ _ hji, ← putA_comm F v u h2]
        exact hK

def runM (P : Program) (E : List (Entry P)) (n0 : Nat) (ops : Array Oper) : List Oper → List AV → List (List AC) → Option (List AV × List (List AC))
  | [], F, M => some (F, M)
  | o :: l, F, M => match stepM P E n0 ops o F M with
    | some (v, M1) => runM P E n0 ops l (putA F o.dst v) M1
    | none => none

/-- The memories of an operation and of those that need not wait for it do not meet. -/
def memFree (md : Region.Mode) (ops : Array Oper) (listed : Array Bool) (i : Nat) : Bool :=
  match ops[i]? with
  | none => false
  | some oi => (List.range ops.size).all fun j => j == i || listed.getD j true || match ops[j]? with
      | some oj => oj.after.any (fun e => Region.binds md e && e.on == i) || memApart oi oj
      | none => true
def memLexFrom (md : Region.Mode) (ops : Array Oper) : Nat → Nat → Array Bool → Bool
  | 0, _, _ => true
  | fuel + 1, k, listed => memFree md ops listed k && memLexFrom md ops fuel (k + 1) (listed.setIfInBounds k true)
def memLexB (md : Region.Mode) (ops : Array Oper) : Bool := memLexFrom md ops ops.size 0 (Array.replicate ops.size false)

theorem memFree_spec {md : Region.Mode} {ops : Array Oper} {i : Nat} {oi : Oper} {listed : Array Bool} (hi : ops[i]? = some oi) (h : memFree md ops listed i = true) (j : Nat) (oj : Oper)
    (hj : ops[j]? = some oj) (hne : j ≠ i) (hun : listed.getD j true = false) (hno : ∀ e ∈ oj.after, Region.binds md e = true → e.on ≠ i) : memApart oi oj = true := by
  simp only [memFree, hi, List.all_eq_true, List.mem_range] at h
  have h1 := h j (Array.getElem?_eq_some_iff.1 hj).1
  simp only [hj, hun, Bool.or_false, Bool.or_eq_true, beq_iff_eq] at h1
  rcases h1 with h1 | h1 | h1
  · exact (hne h1).elim
  · obtain ⟨e, he, hb⟩ := Array.any_eq_true'.1 h1
    simp only [Bool.and_eq_true, beq_iff_eq] at hb
    exact (hno e he hb.1 hb.2).elim
  · exact h1

theorem anyM_lex {P : Program} {E : List (Entry P)} {n0 : Nat} {md : Region.Mode} {ops : Array Oper} {F' : List AV} {M' : List (List AC)} : ∀ (l : List Oper) (k : Nat) (listed : Array Bool) (F : List AV) (M : List (List AC)), (∀ j, l[j]? = ops[k + j]?) →
    Region.lexFrom md ops l.length k listed = true → memLexFrom md ops l.length k listed = true → runM P E n0 ops l F M = some (F', M') → anyM P E n0 md ops F' M' l.length listed F M
  | [], _, _, _, _, _, hB, _, h => by
    cases h
    exact ⟨by simpa [Region.lexFrom] using hB, rfl, rfl⟩
  | o :: l, k, listed, F, M, hl, hB, hC, h => by
    have h0 : ops[k]? = some o := by simpa using (hl 0).symm
    simp only [List.length_cons, Region.lexFrom, memLexFrom, Bool.and_eq_true] at hB hC
    obtain ⟨⟨hr, hf⟩, hB'⟩ := hB
    simp only [runM] at h
    split at h
    · rename_i v M1 hv
      exact anyM_first h0 l.length listed F M M1 (fun j oj hj hne hun hno => ⟨Region.free_spec h0 hf j oj hj hne hun hno, memFree_spec h0 hC.1 j oj hj hne hun hno⟩) (by simpa using hr) hv
        (anyM_lex l (k + 1) _ _ _ (fun j => by have := hl (j + 1); simpa [Nat.add_assoc, Nat.add_comm 1 j] using this) hB' hC.2 h)
    · cases h

theorem sto_sound {P : Program} {E : List (Entry P)} {n0 : Nat} {w0 : Base} {F : List AV} {M M' : List (List AC)} {t : TypeId} {x y : Operand} (h : stoA P n0 t (evA F x) (evA F y) M = some M') (dst : Option Tmp) :
    OpGoes P n0 w0 (.store t x y) dst F M (putA F dst undefA) M' := by
  have hs : stA (R := List AV × List (List AC)) P E n0 (.store t x y) dst F M (fun F M => some (F, M)) = some (putA F dst undefA, M') := by
    unfold stoA at h
    split at h
    · rename_i id off l i ex hl hi
      split at h
      · rename_i cs hcs
        split at h
        · rename_i hc
          cases h
          simp only [stA, ex, hl, hi, hcs, if_pos hc]
        · cases h
      · cases h
    · cases h
  obtain ⟨F1, M1, hK, hg⟩ := stA_sound w0 hs
  cases hK
  exact hg

theorem anyM_sound {P : Program} {E : List (Entry P)} {n0 : Nat} {md : Region.Mode} {ops : Array Oper} {F' : List AV} {M' : List (List AC)} {w0 : Base} {Q : Exit → Act → World → Prop} :
    ∀ (fuel : Nat) (listed : Array Bool) (F : List AV) (M : List (List AC)) (σ : List (Nat × Nat)) (a : Act) (w : World), anyM P E n0 md ops F' M' fuel listed F M → St σ n0 w0 F M a w → (∀ σ' a' w', St σ' n0 w0 F' M' a' w' → Q .normal a' w') →
    wpAny P md ops Q fuel listed a w
  | 0, listed, F, M, σ, a, w, h, hS, hQ => by
    obtain ⟨h1, rfl, rfl⟩ := h
    exact ⟨h1, hQ σ a w hS⟩
  | fuel + 1, listed, F, M, σ, a, w, h, hS, hQ => by
    refine ⟨fun h0 => ?_, fun i hi => ?_⟩
    · obtain ⟨rfl, rfl⟩ := h.1 h0
      exact hQ σ a w hS
    · obtain ⟨o, v, M1, ho, hv, hK⟩ := h.2 i hi
      have skip : Region.wanted o (yielded ops a.tmps) = false → (v, M1) = (undefA, M) → wpOp P ops Q i (wpAny P md ops Q fuel (listed.setIfInBounds i true)) a w := by
        intro hw he
        cases he
        unfold wpOp
        simp only [ho]
        rw [if_neg (by rw [hw]; decide)]
        exact anyM_sound fuel _ _ _ σ _ w hK (hS.put o.dst (x := undefA) (v := undef) rfl (Ext.refl _)) hQ
      have go : Region.wanted o (yielded ops a.tmps) = true → valM P E n0 F M o.op = some (v, M1) → wpOp P ops Q i (wpAny P md ops Q fuel (listed.setIfInBounds i true)) a w := by
        intro hw he
        unfold wpOp
        simp only [ho]
        rw [if_pos hw]
        refine .inl ?_
        obtain ⟨dst, op, ty, pos, after, gd⟩ := o
        unfold valM at he
        split at he
        · rename_i t x y heq
          simp only at heq
          subst heq
          cases hr : stoA P n0 t (evA F x) (evA F y) M with
          | none => simp [hr] at he
          | some r =>
            simp only [hr, Option.map_some, Option.some.injEq, Prod.mk.injEq] at he
            obtain ⟨rfl, rfl⟩ := he
            exact sto_sound (E := E) hr dst σ a w hS ty pos after gd _ _ fun σ' a' w' hs => anyM_sound fuel _ _ _ σ' a' w' hK hs hQ
        · cases hr : valA P E F M op with
          | none => simp [hr] at he
          | some r =>
            simp only [hr, Option.map_some, Option.some.injEq, Prod.mk.injEq] at he
            obtain ⟨rfl, rfl⟩ := he
            exact valA_sound hr hS.frame hS.mem fun u w' hu hx => anyM_sound fuel _ _ _ σ _ w' hK (hS.put dst hu hx) hQ
      unfold stepM at hv
      split at hv
      · rename_i hg
        exact go (by simp [Region.wanted, hg]) hv
      · rename_i j want hg
        split at hv
        · cases hv
        · rename_i d hd
          split at hv
          · rename_i b hb
            have hy := (yielded_of hS hd).1 b hb
            cases hbw : (b == want) with
            | true => rw [hbw] at hv; exact go (by simp [Region.wanted, hg, hy]; simpa using hbw) hv
            | false => rw [hbw] at hv; exact skip (by simp [Region.wanted, hg, hy]; simpa using hbw) (Option.some.inj hv).symm
          · rename_i vs hb
            exact skip (by simp [Region.wanted, hg, (yielded_of hS hd).2 vs hb]) (Option.some.inj hv).symm
          · cases hv

variable {R : Type}

/-- Operations that make no block. -/
def stillOps (l : List Oper) : Bool := l.all fun o => match o.op with
  | .box .. | .alloc .. | .buildSlice .. => false
  | _ => true

theorem stA_valM {P : Program} {E : List (Entry P)} {n0 : Nat} {op : Op} {dst : Option Tmp} {F : List AV} {M : List (List AC)} {K : List AV → List (List AC) → Option R} {r : R}
    (hp : (match op with | .box .. | .alloc .. | .buildSlice .. => false | _ => true) = true) (h : stA P E n0 op dst F M K = some r) : ∃ v M1, valM P E n0 F M op = some (v, M1) ∧ K (putA F dst v) M1 = some r := by
  cases op
  case store t x y =>
    simp only [stA] at h
    split at h
    · rename_i id off l i ex hl hi
      split at h
      · rename_i cs hcs
        split at h
        · rename_i hc
          exact ⟨undefA, _, by simp only [valM, stoA, ex, hl, hi, hcs, if_pos hc]; rfl, h⟩
        · cases h
      · cases h
    · cases h
  case box => cases hp
  case alloc => cases hp
  case buildSlice => cases hp
  all_goals
    obtain ⟨v, hv, hK⟩ := stA_valA (by rfl) h
    exact ⟨v, M, by simp only [valM, hv, Option.map_some], hK⟩

theorem regA_runM {P : Program} {E : List (Entry P)} {n0 : Nat} {ops : Array Oper} {K : List AV → List (List AC) → Option R} {r : R} : ∀ (l : List Oper) {F : List AV} {M : List (List AC)}, stillOps l = true →
    regA P E n0 ops l F M K = some r → ∃ F' M', runM P E n0 ops l F M = some (F', M') ∧ K F' M' = some r
  | [], F, M, _, h => ⟨F, M, rfl, h⟩
  | o :: rest, F, M, hp, h => by
    simp only [stillOps, List.all_cons, Bool.and_eq_true] at hp
    have same : ∀ {d : Nat} {b : Bool}, F[d]? = some (.c (.sb b)) → F.set d (.c (.sb b)) = F := by
      intro d b hd
      apply List.ext_getElem?
      intro i
      by_cases hi : d = i
      · subst hi
        rw [List.getElem?_set_self (List.getElem?_eq_some_iff.1 hd).1, hd]
      · rw [List.getElem?_set_ne hi]
    have go : stepM P E n0 ops o F M = valM P E n0 F M o.op → (stA P E n0 o.op o.dst F M fun F M => regA P E n0 ops rest F M K) = some r → ∃ F' M', runM P E n0 ops (o :: rest) F M = some (F', M') ∧ K F' M' = some r := by
      intro hs h1
      obtain ⟨v, M1, hv, hK⟩ := stA_valM hp.1 h1
      obtain ⟨F', M', h2, h3⟩ := regA_runM rest hp.2 hK
      exact ⟨F', M', by simp only [runM, hs, hv]; exact h2, h3⟩
    have skip : stepM P E n0 ops o F M = some (undefA, M) → regA P E n0 ops rest (putA F o.dst undefA) M K = some r → ∃ F' M', runM P E n0 ops (o :: rest) F M = some (F', M') ∧ K F' M' = some r := by
      intro hs h1
      obtain ⟨F', M', h2, h3⟩ := regA_runM rest hp.2 h1
      exact ⟨F', M', by simp only [runM, hs]; exact h2, h3⟩
    simp only [regA] at h
    split at h
    · rename_i hg
      exact go (by unfold stepM; rw [hg]) h
    · rename_i j want hg
      split at h
      · cases h
      · rename_i d hd
        split at h
        · rename_i b hb
          cases b with
          | true =>
            rw [same hb] at h
            cases want with
            | true => exact go (by unfold stepM; simp only [hg, hd, hb]; rfl) h
            | false => exact skip (by unfold stepM; simp only [hg, hd, hb]; rfl) h
          | false =>
            rw [same hb] at h
            cases want with
            | true => exact skip (by unfold stepM; simp only [hg, hd, hb]; rfl) h
            | false => exact go (by unfold stepM; simp only [hg, hd, hb]; rfl) h
        · rename_i vs hb
          exact skip (by unfold stepM; simp only [hg, hd, hb]) h
        · cases h

/-- A region whose order is drawn goes as in the text's order. -/
theorem regM_sound {P : Program} {E : List (Entry P)} {n0 : Nat} {id : Nat} {ops : Array Oper} {K : List AV → List (List AC) → Option R} {r : R} (w0 : Base) (hm : P.follows .mixedOrders = true) {F : List AV} {M : List (List AC)}
    (hp : stillOps ops.toList = true) (hB : Region.lexB .any ops = true) (hC : memLexB .any ops = true) (h : regA P E n0 ops ops.toList F M K = some r) : ∃ F' M', K F' M' = some r ∧ CodeGoes P n0 w0 (.region id ops true) F M .norm F' M' := by
  obtain ⟨F', M', hr, hK⟩ := regA_runM ops.toList hp h
  simp only [Region.lexB, Bool.and_eq_true] at hB
  refine ⟨F', M', hK, fun σ a w hS Q hQ => wp_region_any hm ?_⟩
  have := anyM_lex (md := .any) ops.toList 0 (Array.replicate ops.size false) F M (by simp) (by simpa using hB.2) (by simpa [memLexB] using hC) hr
  exact anyM_sound ops.size _ F M σ a _ (by simpa using this) hS.drew hQ

end Go.Proofs.Ytlpahmefebgdlaa.Fx
