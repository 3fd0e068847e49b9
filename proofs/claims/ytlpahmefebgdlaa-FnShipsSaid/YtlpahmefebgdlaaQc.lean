/- Texts put together: Eq, Er, Cb, Cc, Ns, Nt, Nu, Nv. No condition. -/
import Derived.Test.YtlpahmefebgdlaaQb
import Derived.Test.YtlpahmefebgdlaaQa
import Derived.KernelRfl
/- The executor, seventh part: regions whose order is drawn and that store. No condition. -/
namespace Go.Proofs.Ytlpahmefebgdlaa.Fx
open Go Go.RowKit

/-- The effect of a store on the known blocks. -/
def stoA (P : Program) (n0 : Nat) (t : TypeId) (x y : AV) (M : List (List AC)) : Option (List (List AC)) :=
  match x, cellsOk y, P.info? t with
  | .c (.ptr id off), some l, some i => match M[id]? with
    | some cs => if n0 ≤ id ∧ l.length = i.size ∧ off + l.length ≤ cs.length then some (M.set id (overA cs off l)) else none
    | none => none
  | _, _, _ => none

/-- The value and the memory of an operation that makes no block. -/
def valM (P : Program) (E : List (Entry P)) (n0 : Nat) (F : List AV) (M : List (List AC)) (op : Op) : Option (AV × List (List AC)) :=
  match op with
  | .store t x y => (stoA P n0 t (evA F x) (evA F y) M).map fun M' => (undefA, M')
  | op => (valA P E F M op).map fun v => (v, M)

def stepM (P : Program) (E : List (Entry P)) (n0 : Nat) (ops : Array Oper) (o : Oper) (F : List AV) (M : List (List AC)) : Option (AV × List (List AC)) :=
  match o.guard with
  | none => valM P E n0 F M o.op
  | some (j, want) =>
    match (ops[j]?).bind (·.dst) with
    | none => none
    | some d =>
      match F[d]? with
      | some (.c (.sb b)) => cond (b == want) (valM P E n0 F M o.op) (some (undefA, M))
      | some (.c (.val (.tuple _))) => some (undefA, M)
      | _ => none

/-- Operations that do not look at the memory. -/
def blindOp : Op → Bool
  | .move _ | .assign _ | .binOp .. | .unOp .. | .convert .. | .extract .. | .fieldAddr .. | .nilCheck _ | .indexAddr .. | .index .. | .build .. | .pick .. => true
  | .call c => match c.callee with
    | .builtin _ => true
    | _ => false
  | _ => false
def noStore : Op → Bool
  | .store .. => false
  | _ => true
/-- Their memories do not meet. -/
def memApart (x y : Oper) : Bool := blindOp x.op || blindOp y.op || (noStore x.op && noStore y.op)

theorem valM_congr {P : Program} {E : List (Entry P)} {n0 : Nat} {F F' : List AV} {M : List (List AC)} (op : Op) (h : ∀ x ∈ op.operands, evA F x = evA F' x) : valM P E n0 F M op = valM P E n0 F' M op := by
  have hv := valA_congr (P := P) (E := E) (M := M) op h
  cases op <;> simp only [valM, hv]
  case store t x y =>
    simp only [Op.operands] at h
    rw [h x (by simp), h y (by simp)]

theorem stepM_put {P : Program} {E : List (Entry P)} {n0 : Nat} {ops : Array Oper} {M : List (List AC)} {o : Oper} {F : List AV} {dst : Option Tmp} {v : AV} (h : ∀ d, dst = some d → d ∉ o.looksAt ops) : stepM P E n0 ops o (putA F dst v) M = stepM P E n0 ops o F M := by
  have hv : valM P E n0 (putA F dst v) M o.op = valM P E n0 F M o.op := valM_congr o.op fun x hx => evA_put fun d hd hxd => h d hd (by
    subst hxd
    exact List.mem_append_left _ (List.mem_filterMap.2 ⟨.tmp d, by simpa using hx, rfl⟩))
  unfold stepM
  rw [hv]
  cases hg : o.guard with
  | none => rfl
  | some gw =>
    obtain ⟨j, want⟩ := gw
    cases ht : (ops[j]?).bind (·.dst) with
    | none => simp only [ht]
    | some t =>
      have he : (putA F dst v)[t]? = F[t]? := by
        cases dst with
        | none => rfl
        | some d =>
          have hne : d ≠ t := fun e => h d rfl (by subst e; simp [Oper.looksAt, hg, ht])
          simp only [putA, List.getElem?_set_ne hne]
      simp only [ht, he]

theorem blind_opA {P : Program} {E : List (Entry P)} {F : List AV} {M M' : List (List AC)} {op : Op} (h : blindOp op = true) : opA P E F M op = opA P E F M' op := by
  cases op <;> first | rfl | (cases h; done) | skip
  case call c =>
    simp only [blindOp] at h
    cases hc : c.callee with
    | builtin b => simp only [opA, hc]
    | value f => simp only [hc] at h; cases h
    | invoke r m => simp only [hc] at h; cases h

theorem blind_valM {P : Program} {E : List (Entry P)} {n0 : Nat} {F : List AV} {M : List (List AC)} {op : Op} (h : blindOp op = true) (M' : List (List AC)) : valM P E n0 F M' op = (valM P E n0 F M op).map fun r => (r.1, M') := by
  have ho := blind_opA (P := P) (E := E) (F := F) (M := M') (M' := M) h
  have hA : valA P E F M' op = valA P E F M op := by
    cases op <;> simp only [valA, ho]
  cases op <;> first | (cases h; done) | skip
  all_goals
    simp only [valM, hA]
    generalize valA P E F M _ = r
    cases r <;> rfl

theorem blind_stepM {P : Program} {E : List (Entry P)} {n0 : Nat} {ops : Array Oper} {F : List AV} {M : List (List AC)} {o : Oper} (h : blindOp o.op = true) (M' : List (List AC)) : stepM P E n0 ops o F M' = (stepM P E n0 ops o F M).map fun r => (r.1, M') := by
  have hv := blind_valM (P := P) (E := E) (n0 := n0) (F := F) (M := M) h M'
  unfold stepM
  rw [hv]
  split
  · rfl
  · split
    · rfl
    · split
      · rename_i b _
        cases b == _ <;> rfl
      · rfl
      · rfl

theorem noStore_stepM {P : Program} {E : List (Entry P)} {n0 : Nat} {ops : Array Oper} {F : List AV} {M M' : List (List AC)} {o : Oper} {v : AV} (h : noStore o.op = true) (hs : stepM P E n0 ops o F M = some (v, M')) : M' = M := by
  have hv : ∀ {v M'}, valM P E n0 F M o.op = some (v, M') → M' = M := by
    intro v M' hv
    unfold valM at hv
    split at hv
    · rename_i h1; rw [h1] at h; cases h
    · cases hr : valA P E F M o.op with
      | none => simp [hr] at hv
      | some r => simp [hr] at hv; exact hv.2.symm
  unfold stepM at hs
  split at hs
  · exact hv hs
  · split at hs
    · cases hs
    · split at hs
      · rename_i b _
        cases hb : (b == _) with
        | true => rw [hb] at hs; exact hv hs
        | false => rw [hb] at hs; cases hs; rfl
      · cases hs; rfl
      · cases hs

/-- Two operations whose memories do not meet may change places. -/
theorem stepM_swap {P : Program} {E : List (Entry P)} {n0 : Nat} {ops : Array Oper} {F : List AV} {M M1 M2 : List (List AC)} {x y : Oper} {v u : AV} (hm : memApart x y = true)
    (hx : stepM P E n0 ops x F M = some (v, M1)) (hy : stepM P E n0 ops y F M1 = some (u, M2)) : ∃ M3, stepM P E n0 ops y F M = some (u, M3) ∧ stepM P E n0 ops x F M3 = some (v, M2) := by
  simp only [memApart, Bool.or_eq_true, Bool.and_eq_true] at hm
  rcases hm with (hb | hb) | ⟨h1, h2⟩
  · have e1 : M1 = M := noStore_stepM (by cases h : x.op <;> simp only [h, blindOp] at hb <;> first | rfl | cases hb) hx
    subst e1
    exact ⟨M2, hy, by rw [blind_stepM hb M2, hx]; rfl⟩
  · have hn : noStore y.op = true := by cases h : y.op <;> simp only [h, blindOp] at hb <;> first | rfl | cases hb
    have e1 : M2 = M1 := noStore_stepM hn hy
    subst e1
    have h3 := blind_stepM (P := P) (E := E) (n0 := n0) (ops := ops) (F := F) (M := M2) (o := y) hb M
    rw [hy] at h3
    exact ⟨M, h3, hx⟩
  · have e1 : M1 = M := noStore_stepM h1 hx
    subst e1
    have e2 : M2 = M1 := noStore_stepM h2 hy
    subst e2
    exact ⟨_, hy, hx⟩

/-- Whatever the order, this is the end. -/
def anyM (P : Program) (E : List (Entry P)) (n0 : Nat) (md : Region.Mode) (ops : Array Oper) (F' : List AV) (M' : List (List AC)) : Nat → Array Bool → List AV → List (List AC) → Prop
  | 0, listed, F, M => Region.ready md ops listed = [] ∧ F = F' ∧ M = M'
  | fuel + 1, listed, F, M =>
    (Region.ready md ops listed = [] → F = F' ∧ M = M') ∧
    ∀ i ∈ Region.ready md ops listed, ∃ o v M1, ops[i]? = some o ∧ stepM P E n0 ops o F M = some (v, M1) ∧ anyM P E n0 md ops F' M' fuel (listed.setIfInBounds i true) (putA F o.dst v) M1

theorem anyM_first {P : Program} {E : List (Entry P)} {n0 : Nat} {md : Region.Mode} {ops : Array Oper} {F' : List AV} {M' : List (List AC)} {i : Nat} {oi : Oper} {v : AV} (hi : ops[i]? = some oi) :
    ∀ (fuel : Nat) (listed : Array Bool) (F : List AV) (M M1 : List (List AC)),
      (∀ j oj, ops[j]? = some oj → j ≠ i → listed.getD j true = false → (∀ e ∈ oj.after, Region.binds md e = true → e.on ≠ i) → oi.apart ops oj = true ∧ memApart oi oj = true) →
      i ∈ Region.ready md ops listed → stepM P E n0 ops oi F M = some (v, M1) →
      anyM P E n0 md ops F' M' fuel (listed.setIfInBounds i true) (putA F oi.dst v) M1 → anyM P E n0 md ops F' M' (fuel + 1) listed F M := by
  intro fuel
  induction fuel with
  | zero =>
    intro listed F M M1 _ hr hy H
    refine ⟨fun h => (by rw [h] at hr; cases hr), fun j hj => ?_⟩
    by_cases hji : j = i
    · subst hji; exact ⟨oi, v, M1, hi, hy, H⟩
    · have := ready_mono hj hji
      rw [H.1] at this
      cases this
  | succ fuel ih =>
    intro listed F M M1 hfree hr hy H
    refine ⟨fun h => (by rw [h] at hr; cases hr), fun j hj => ?_⟩
    by_cases hji : j = i
    · subst hji; exact ⟨oi, v, M1, hi, hy, H⟩
    · obtain ⟨oj', u, M2, hoj', hu, hK⟩ := H.2 j (ready_mono hj hji)
      obtain ⟨hjun, oj, hoj, hall⟩ := mem_ready.1 hj
      rw [hoj] at hoj'
      have eo := Option.some.inj hoj'
      subst eo
      have hnot : ∀ e ∈ oj.after, Region.binds md e = true → e.on ≠ i := fun e he hb heq => by
        have h1 := hall e he hb
        have h0 := (mem_ready.1 hr).1
        rw [heq] at h1
        rcases Nat.lt_or_ge i listed.size with h' | h'
        · simp [h'] at h0 h1; rw [h0] at h1; cases h1
        · simp [Array.getElem?_eq_none h'] at h1
      obtain ⟨hap, hma⟩ := hfree j oj hoj hji hjun hnot
      obtain ⟨h1, h2, h3⟩ := Oper.apart_spec hap
      rw [stepM_put h1] at hu
      obtain ⟨M3, hu3, hy3⟩ := stepM_swap hma hy hu
      refine ⟨oj, u, M3, hoj, hu3, ih (listed.setIfInBounds j true) (putA F oj.dst u) M3 M2 (fun k ok hk hki hun hno => ?_) (ready_mono hr (Ne.symm hji)) ?_ ?_⟩
      · refine hfree k ok hk hki ?_ hno
        by_cases hjk : j = k
        · subst hjk; exact hjun
        · rw [getD_set_ne true hjk] at hun; exact hun
      · rw [stepM_put h3]; exact hy3
      · rw [Array.setIfInBounds_comm _ _ hji, ← putA_comm F v u h2]
        exact hK

def runM (P : Program) (E : List (Entry P)) (n0 : Nat) (ops : Array Oper) : List Oper → List AV → List (List AC) → Option (List AV × List (List AC))
  | [], F, M => some (F, M)
  | o :: l, F, M => match stepM P E n0 ops o F M with
    | some (v, M1) => runM P E n0 ops l (putA F o.dst v) M1
    | none => none

/-- The memories of an operation and of those that need not wait for it do not meet. -/
def memFree (md : Region.Mode) (ops : Array Oper) (listed : Array Bool) (i : Nat) : Bool :=
  match ops[i]? with
  | none => false
  | some oi => (List.range ops.size).all fun j => j == i || listed.getD j true || match ops[j]? with
      | some oj => oj.after.any (fun e => Region.binds md e && e.on == i) || memApart oi oj
      | none => true
def memLexFrom (md : Region.Mode) (ops : Array Oper) : Nat → Nat → Array Bool → Bool
  | 0, _, _ => true
  | fuel + 1, k, listed => memFree md ops listed k && memLexFrom md ops fuel (k + 1) (listed.setIfInBounds k true)
def memLexB (md : Region.Mode) (ops : Array Oper) : Bool := memLexFrom md ops ops.size 0 (Array.replicate ops.size false)

theorem memFree_spec {md : Region.Mode} {ops : Array Oper} {i : Nat} {oi : Oper} {listed : Array Bool} (hi : ops[i]? = some oi) (h : memFree md ops listed i = true) (j : Nat) (oj : Oper)
    (hj : ops[j]? = some oj) (hne : j ≠ i) (hun : listed.getD j true = false) (hno : ∀ e ∈ oj.after, Region.binds md e = true → e.on ≠ i) : memApart oi oj = true := by
  simp only [memFree, hi, List.all_eq_true, List.mem_range] at h
  have h1 := h j (Array.getElem?_eq_some_iff.1 hj).1
  simp only [hj, hun, Bool.or_false, Bool.or_eq_true, beq_iff_eq] at h1
  rcases h1 with h1 | h1 | h1
  · exact (hne h1).elim
  · obtain ⟨e, he, hb⟩ := Array.any_eq_true'.1 h1
    simp only [Bool.and_eq_true, beq_iff_eq] at hb
    exact (hno e he hb.1 hb.2).elim
  · exact h1

theorem anyM_lex {P : Program} {E : List (Entry P)} {n0 : Nat} {md : Region.Mode} {ops : Array Oper} {F' : List AV} {M' : List (List AC)} : ∀ (l : List Oper) (k : Nat) (listed : Array Bool) (F : List AV) (M : List (List AC)), (∀ j, l[j]? = ops[k + j]?) →
    Region.lexFrom md ops l.length k listed = true → memLexFrom md ops l.length k listed = true → runM P E n0 ops l F M = some (F', M') → anyM P E n0 md ops F' M' l.length listed F M
  | [], _, _, _, _, _, hB, _, h => by
    cases h
    exact ⟨by simpa [Region.lexFrom] using hB, rfl, rfl⟩
  | o :: l, k, listed, F, M, hl, hB, hC, h => by
    have h0 : ops[k]? = some o := by simpa using (hl 0).symm
    simp only [List.length_cons, Region.lexFrom, memLexFrom, Bool.and_eq_true] at hB hC
    obtain ⟨⟨hr, hf⟩, hB'⟩ := hB
    simp only [runM] at h
    split at h
    · rename_i v M1 hv
      exact anyM_first h0 l.length listed F M M1 (fun j oj hj hne hun hno => ⟨Region.free_spec h0 hf j oj hj hne hun hno, memFree_spec h0 hC.1 j oj hj hne hun hno⟩) (by simpa using hr) hv
        (anyM_lex l (k + 1) _ _ _ (fun j => by have := hl (j + 1); simpa [Nat.add_assoc, Nat.add_comm 1 j] using this) hB' hC.2 h)
    · cases h

theorem sto_sound {P : Program} {E : List (Entry P)} {n0 : Nat} {w0 : Base} {F : List AV} {M M' : List (List AC)} {t : TypeId} {x y : Operand} (h : stoA P n0 t (evA F x) (evA F y) M = some M') (dst : Option Tmp) :
    OpGoes P n0 w0 (.store t x y) dst F M (putA F dst undefA) M' := by
  have hs : stA (R := List AV × List (List AC)) P E n0 (.store t x y) dst F M (fun F M => some (F, M)) = some (putA F dst undefA, M') := by
    unfold stoA at h
    split at h
    · rename_i id off l i ex hl hi
      split at h
      · rename_i cs hcs
        split at h
        · rename_i hc
          cases h
          simp only [stA, ex, hl, hi, hcs, if_pos hc]
        · cases h
      · cases h
    · cases h
  obtain ⟨F1, M1, hK, hg⟩ := stA_sound w0 hs
  cases hK
  exact hg

theorem anyM_sound {P : Program} {E : List (Entry P)} {n0 : Nat} {md : Region.Mode} {ops : Array Oper} {F' : List AV} {M' : List (List AC)} {w0 : Base} {Q : Exit → Act → World → Prop} :
    ∀ (fuel : Nat) (listed : Array Bool) (F : List AV) (M : List (List AC)) (σ : List (Nat × Nat)) (a : Act) (w : World), anyM P E n0 md ops F' M' fuel listed F M → St σ n0 w0 F M a w → (∀ σ' a' w', St σ' n0 w0 F' M' a' w' → Q .normal a' w') →
    wpAny P md ops Q fuel listed a w
  | 0, listed, F, M, σ, a, w, h, hS, hQ => by
    obtain ⟨h1, rfl, rfl⟩ := h
    exact ⟨h1, hQ σ a w hS⟩
  | fuel + 1, listed, F, M, σ, a, w, h, hS, hQ => by
    refine ⟨fun h0 => ?_, fun i hi => ?_⟩
    · obtain ⟨rfl, rfl⟩ := h.1 h0
      exact hQ σ a w hS
    · obtain ⟨o, v, M1, ho, hv, hK⟩ := h.2 i hi
      have skip : Region.wanted o (yielded ops a.tmps) = false → (v, M1) = (undefA, M) → wpOp P ops Q i (wpAny P md ops Q fuel (listed.setIfInBounds i true)) a w := by
        intro hw he
        cases he
        unfold wpOp
        simp only [ho]
        rw [if_neg (by rw [hw]; decide)]
        exact anyM_sound fuel _ _ _ σ _ w hK (hS.put o.dst (x := undefA) (v := undef) rfl (Ext.refl _)) hQ
      have go : Region.wanted o (yielded ops a.tmps) = true → valM P E n0 F M o.op = some (v, M1) → wpOp P ops Q i (wpAny P md ops Q fuel (listed.setIfInBounds i true)) a w := by
        intro hw he
        unfold wpOp
        simp only [ho]
        rw [if_pos hw]
        refine .inl ?_
        obtain ⟨dst, op, ty, pos, after, gd⟩ := o
        unfold valM at he
        split at he
        · rename_i t x y heq
          simp only at heq
          subst heq
          cases hr : stoA P n0 t (evA F x) (evA F y) M with
          | none => simp [hr] at he
          | some r =>
            simp only [hr, Option.map_some, Option.some.injEq, Prod.mk.injEq] at he
            obtain ⟨rfl, rfl⟩ := he
            exact sto_sound (E := E) hr dst σ a w hS ty pos after gd _ _ fun σ' a' w' hs => anyM_sound fuel _ _ _ σ' a' w' hK hs hQ
        · cases hr : valA P E F M op with
          | none => simp [hr] at he
          | some r =>
            simp only [hr, Option.map_some, Option.some.injEq, Prod.mk.injEq] at he
            obtain ⟨rfl, rfl⟩ := he
            exact valA_sound hr hS.frame hS.mem fun u w' hu hx => anyM_sound fuel _ _ _ σ _ w' hK (hS.put dst hu hx) hQ
      unfold stepM at hv
      split at hv
      · rename_i hg
        exact go (by simp [Region.wanted, hg]) hv
      · rename_i j want hg
        split at hv
        · cases hv
        · rename_i d hd
          split at hv
          · rename_i b hb
            have hy := (yielded_of hS hd).1 b hb
            cases hbw : (b == want) with
            | true => rw [hbw] at hv; exact go (by simp [Region.wanted, hg, hy]; simpa using hbw) hv
            | false => rw [hbw] at hv; exact skip (by simp [Region.wanted, hg, hy]; simpa using hbw) (Option.some.inj hv).symm
          · rename_i vs hb
            exact skip (by simp [Region.wanted, hg, (yielded_of hS hd).2 vs hb]) (Option.some.inj hv).symm
          · cases hv

variable {R : Type}

/-- Operations that make no block. -/
def stillOps (l : List Oper) : Bool := l.all fun o => match o.op with
  | .box .. | .alloc .. | .buildSlice .. => false
  | _ => true

theorem stA_valM {P : Program} {E : List (Entry P)} {n0 : Nat} {op : Op} {dst : Option Tmp} {F : List AV} {M : List (List AC)} {K : List AV → List (List AC) → Option R} {r : R}
    (hp : (match op with | .box .. | .alloc .. | .buildSlice .. => false | _ => true) = true) (h : stA P E n0 op dst F M K = some r) : ∃ v M1, valM P E n0 F M op = some (v, M1) ∧ K (putA F dst v) M1 = some r := by
  cases op
  case store t x y =>
    simp only [stA] at h
    split at h
    · rename_i id off l i ex hl hi
      split at h
      · rename_i cs hcs
        split at h
        · rename_i hc
          exact ⟨undefA, _, by simp only [valM, stoA, ex, hl, hi, hcs, if_pos hc]; rfl, h⟩
        · cases h
      · cases h
    · cases h
  case box => cases hp
  case alloc => cases hp
  case buildSlice => cases hp
  all_goals
    obtain ⟨v, hv, hK⟩ := stA_valA (by rfl) h
    exact ⟨v, M, by simp only [valM, hv, Option.map_some], hK⟩

theorem regA_runM {P : Program} {E : List (Entry P)} {n0 : Nat} {ops : Array Oper} {K : List AV → List (List AC) → Option R} {r : R} : ∀ (l : List Oper) {F : List AV} {M : List (List AC)}, stillOps l = true →
    regA P E n0 ops l F M K = some r → ∃ F' M', runM P E n0 ops l F M = some (F', M') ∧ K F' M' = some r
  | [], F, M, _, h => ⟨F, M, rfl, h⟩
  | o :: rest, F, M, hp, h => by
    simp only [stillOps, List.all_cons, Bool.and_eq_true] at hp
    have same : ∀ {d : Nat} {b : Bool}, F[d]? = some (.c (.sb b)) → F.set d (.c (.sb b)) = F := by
      intro d b hd
      apply List.ext_getElem?
      intro i
      by_cases hi : d = i
      · subst hi
        rw [List.getElem?_set_self (List.getElem?_eq_some_iff.1 hd).1, hd]
      · rw [List.getElem?_set_ne hi]
    have go : stepM P E n0 ops o F M = valM P E n0 F M o.op → (stA P E n0 o.op o.dst F M fun F M => regA P E n0 ops rest F M K) = some r → ∃ F' M', runM P E n0 ops (o :: rest) F M = some (F', M') ∧ K F' M' = some r := by
      intro hs h1
      obtain ⟨v, M1, hv, hK⟩ := stA_valM hp.1 h1
      obtain ⟨F', M', h2, h3⟩ := regA_runM rest hp.2 hK
      exact ⟨F', M', by simp only [runM, hs, hv]; exact h2, h3⟩
    have skip : stepM P E n0 ops o F M = some (undefA, M) → regA P E n0 ops rest (putA F o.dst undefA) M K = some r → ∃ F' M', runM P E n0 ops (o :: rest) F M = some (F', M') ∧ K F' M' = some r := by
      intro hs h1
      obtain ⟨F', M', h2, h3⟩ := regA_runM rest hp.2 h1
      exact ⟨F', M', by simp only [runM, hs]; exact h2, h3⟩
    simp only [regA] at h
    split at h
    · rename_i hg
      exact go (by unfold stepM; rw [hg]) h
    · rename_i j want hg
      split at h
      · cases h
      · rename_i d hd
        split at h
        · rename_i b hb
          cases b with
          | true =>
            rw [same hb] at h
            cases want with
            | true => exact go (by unfold stepM; simp only [hg, hd, hb]; rfl) h
            | false => exact skip (by unfold stepM; simp only [hg, hd, hb]; rfl) h
          | false =>
            rw [same hb] at h
            cases want with
            | true => exact skip (by unfold stepM; simp only [hg, hd, hb]; rfl) h
            | false => exact go (by unfold stepM; simp only [hg, hd, hb]; rfl) h
        · rename_i vs hb
          exact skip (by unfold stepM; simp only [hg, hd, hb]) h
        · cases h

/-- A region whose order is drawn goes as in the text's order. -/
theorem regM_sound {P : Program} {E : List (Entry P)} {n0 : Nat} {id : Nat} {ops : Array Oper} {K : List AV → List (List AC) → Option R} {r : R} (w0 : Base) (hm : P.follows .mixedOrders = true) {F : List AV} {M : List (List AC)}
    (hp : stillOps ops.toList = true) (hB : Region.lexB .any ops = true) (hC : memLexB .any ops = true) (h : regA P E n0 ops ops.toList F M K = some r) : ∃ F' M', K F' M' = some r ∧ CodeGoes P n0 w0 (.region id ops true) F M .norm F' M' := by
  obtain ⟨F', M', hr, hK⟩ := regA_runM ops.toList hp h
  simp only [Region.lexB, Bool.and_eq_true] at hB
  refine ⟨F', M', hK, fun σ a w hS Q hQ => wp_region_any hm ?_⟩
  have := anyM_lex (md := .any) ops.toList 0 (Array.replicate ops.size false) F M (by simp) (by simpa using hB.2) (by simpa [memLexB] using hC) hr
  exact anyM_sound ops.size _ F M σ a _ (by simpa using this) hS.drew hQ

end Go.Proofs.Ytlpahmefebgdlaa.Fx
/- The executor, eighth part: functions with regions whose order is drawn and that store. No condition. -/
namespace Go.Proofs.Ytlpahmefebgdlaa.Fx
open Go Go.RowKit

variable {R : Type}

/-- Code; n rounds deep at most. -/
def exP (P : Program) (E : List (Entry P)) (n0 : Nat) : Nat → Code → List AV → List (List AC) → (Out → List AV → List (List AC) → Option R) → Option R
  | 0, _, _, _, _ => none
  | n + 1, c, F, M, K =>
    match c with
    | .skip => K .norm F M
    | .region _ ops draw => cond draw (cond (P.follows .mixedOrders && (stillOps ops.toList && (Region.lexB .any ops && memLexB .any ops))) (regA P E n0 ops ops.toList F M fun F M => K .norm F M) none) (regA P E n0 ops ops.toList F M fun F M => K .norm F M)
    | .seq x y => exP P E n0 n x F M fun o F M =>
      match o with
      | .norm => exP P E n0 n y F M K
      | .exit id => K (.exit id) F M
      | .ret => K .ret F M
    | .cond (.tmp t) x y =>
      match F[t]? with
      | some (.c (.sb b)) => cond b (exP P E n0 n x (F.set t (.c (.sb true))) M K) (exP P E n0 n y (F.set t (.c (.sb false))) M K)
      | _ => none
    | .cond (.const (.bool b)) x y => cond b (exP P E n0 n x F M K) (exP P E n0 n y F M K)
    | .block id x => exP P E n0 n x F M fun o F M =>
      match o with
      | .norm => K .norm F M
      | .exit i => cond (i == id) (K .norm F M) (K (.exit i) F M)
      | .ret => K .ret F M
    | .loop x => exP P E n0 n x F M fun o F M =>
      match o with
      | .norm => exP P E n0 n (.loop x) F M K
      | .exit id => K (.exit id) F M
      | .ret => K .ret F M
    | .exit id => K (.exit id) F M
    | .ret => K .ret F M
    | _ => none

theorem exP_sound {P : Program} {E : List (Entry P)} {n0 : Nat} (w0 : Base) : ∀ (n : Nat),
    (∀ (c : Code) (F : List AV) (M : List (List AC)) (K : Out → List AV → List (List AC) → Option R) (r : R), exP P E n0 n c F M K = some r → ∃ o F' M', K o F' M' = some r ∧ CodeGoes P n0 w0 c F M o F' M') ∧
    (∀ (x : Code) (F : List AV) (M : List (List AC)) (K : Out → List AV → List (List AC) → Option R) (r : R), exP P E n0 n (.loop x) F M K = some r → ∃ o F' M', K o F' M' = some r ∧ ∃ N, ∀ (σ : List (Nat × Nat)) (a : Act) (w : World), St σ n0 w0 F M a w →
      ∀ (Q : Exit → Act → World → Prop), (∀ σ' a' w', St σ' n0 w0 F' M' a' w' → Q o.toExit a' w') → Code.rounds P x Q N a w)
  | 0 => ⟨(fun _ _ _ _ _ h => by cases h), (fun _ _ _ _ _ h => by cases h)⟩
  | n + 1 => by
    obtain ⟨ih1, ih2⟩ := exP_sound w0 n
    have hloop : ∀ (x : Code) (F : List AV) (M : List (List AC)) (K : Out → List AV → List (List AC) → Option R) (r : R), exP P E n0 (n + 1) (.loop x) F M K = some r → ∃ o F' M', K o F' M' = some r ∧ ∃ N, ∀ (σ : List (Nat × Nat)) (a : Act) (w : World), St σ n0 w0 F M a w →
      ∀ (Q : Exit → Act → World → Prop), (∀ σ' a' w', St σ' n0 w0 F' M' a' w' → Q o.toExit a' w') → Code.rounds P x Q N a w := by
      intro x F M K r h
      simp only [exP] at h
      obtain ⟨o, F1, M1, hK1, hx⟩ := ih1 x F M _ r h
      cases o with
      | norm =>
        obtain ⟨o, F', M', hK, N, hN⟩ := ih2 x F1 M1 K r hK1
        refine ⟨o, F', M', hK, N + 1, fun σ a w hS Q hQ => ?_⟩
        exact hx σ a w hS _ fun σ' a' w' hs => hN σ' a' w' hs Q hQ
      | exit id => exact ⟨.exit id, F1, M1, hK1, 1, fun σ a w hS Q hQ => hx σ a w hS _ fun σ' a' w' hs => hQ σ' a' w' hs⟩
      | ret => exact ⟨.ret, F1, M1, hK1, 1, fun σ a w hS Q hQ => hx σ a w hS _ fun σ' a' w' hs => hQ σ' a' w' hs⟩
    refine ⟨fun c F M K r h => ?_, hloop⟩
    cases c with
    | skip => exact ⟨.norm, F, M, h, fun σ a w hS Q hQ => wp_skip (hQ σ a w hS)⟩
    | region id ops draw =>
      simp only [exP] at h
      cases draw with
      | true =>
        cases hp : (P.follows .mixedOrders && (stillOps ops.toList && (Region.lexB .any ops && memLexB .any ops))) with
        | false => simp only [hp, cond_true, cond_false] at h; cases h
        | true =>
          simp only [hp, cond_true] at h
          simp only [Bool.and_eq_true] at hp
          obtain ⟨F', M', hK, hg⟩ := regM_sound w0 hp.1 hp.2.1 hp.2.2.1 hp.2.2.2 h
          exact ⟨.norm, F', M', hK, hg⟩
      | false =>
        obtain ⟨F', M', hK, hl⟩ := regA_sound w0 ops.toList h
        exact ⟨.norm, F', M', hK, fun σ a w hS Q hQ => wp_region_list (hl σ a w hS Q hQ)⟩
    | seq x y =>
      simp only [exP] at h
      obtain ⟨o, F1, M1, hK1, hx⟩ := ih1 x F M _ r h
      cases o with
      | norm =>
        obtain ⟨o, F', M', hK, hy⟩ := ih1 y F1 M1 K r hK1
        exact ⟨o, F', M', hK, fun σ a w hS Q hQ => wp_seq (hx σ a w hS _ fun σ' a' w' hs => hy σ' a' w' hs Q hQ)⟩
      | exit id => exact ⟨.exit id, F1, M1, hK1, fun σ a w hS Q hQ => wp_seq (hx σ a w hS _ fun σ' a' w' hs => hQ σ' a' w' hs)⟩
      | ret => exact ⟨.ret, F1, M1, hK1, fun σ a w hS Q hQ => wp_seq (hx σ a w hS _ fun σ' a' w' hs => hQ σ' a' w' hs)⟩
    | cond c x y =>
      cases c with
      | tmp t =>
        simp only [exP] at h
        split at h
        · rename_i b hb
          have hev : ∀ σ a w, St σ n0 w0 F M a w → a.eval (.tmp t) = .bool b := by
            intro σ a w hS
            obtain ⟨v, hv, hr⟩ := hS.frame.get? hb
            have hr' : v = .bool b := hr
            subst hr'
            have hv' : a.tmps[t]? = some (.bool b) := by simpa using hv
            simp [Act.eval, Array.getD_eq_getD_getElem?, hv']
          cases b with
          | true =>
            obtain ⟨o, F', M', hK, hx⟩ := ih1 x _ M K r h
            exact ⟨o, F', M', hK, fun σ a w hS Q hQ => wp_cond_true (hev σ a w hS) (hx σ a w (hS.know hb) Q hQ)⟩
          | false =>
            obtain ⟨o, F', M', hK, hx⟩ := ih1 y _ M K r h
            exact ⟨o, F', M', hK, fun σ a w hS Q hQ => wp_cond_false (hev σ a w hS) (hx σ a w (hS.know hb) Q hQ)⟩
        · cases h
      | const v =>
        cases v with
        | bool b =>
          simp only [exP] at h
          cases b with
          | true =>
            obtain ⟨o, F', M', hK, hx⟩ := ih1 x _ M K r h
            exact ⟨o, F', M', hK, fun σ a w hS Q hQ => wp_cond_true rfl (hx σ a w hS Q hQ)⟩
          | false =>
            obtain ⟨o, F', M', hK, hx⟩ := ih1 y _ M K r h
            exact ⟨o, F', M', hK, fun σ a w hS Q hQ => wp_cond_false rfl (hx σ a w hS Q hQ)⟩
        | _ => cases h
      | global g => cases h
      | func f => cases h
    | block id x =>
      simp only [exP] at h
      obtain ⟨o, F1, M1, hK1, hx⟩ := ih1 x F M _ r h
      cases o with
      | norm => exact ⟨.norm, F1, M1, hK1, fun σ a w hS Q hQ => wp_block (hx σ a w hS _ fun σ' a' w' hs => hQ σ' a' w' hs)⟩
      | exit i =>
        by_cases hi : i = id
        · subst hi
          simp only [beq_self_eq_true, cond_true] at hK1
          exact ⟨.norm, F1, M1, hK1, fun σ a w hS Q hQ => wp_block (hx σ a w hS _ fun σ' a' w' hs => by simp only [Out.toExit, Exit.inBlock, if_true]; exact hQ σ' a' w' hs)⟩
        · have hb : (i == id) = false := by simpa using hi
          simp only [hb, cond_false] at hK1
          exact ⟨.exit i, F1, M1, hK1, fun σ a w hS Q hQ => wp_block (hx σ a w hS _ fun σ' a' w' hs => by simp only [Out.toExit, Exit.inBlock, hi, if_false]; exact hQ σ' a' w' hs)⟩
      | ret => exact ⟨.ret, F1, M1, hK1, fun σ a w hS Q hQ => wp_block (hx σ a w hS _ fun σ' a' w' hs => hQ σ' a' w' hs)⟩
    | loop x =>
      obtain ⟨o, F', M', hK, N, hN⟩ := hloop x F M K r h
      exact ⟨o, F', M', hK, fun σ a w hS Q hQ => wp_loop_rounds N (hN σ a w hS Q hQ)⟩
    | exit id => exact ⟨.exit id, F, M, h, fun σ a w hS Q hQ => wp_exit (hQ σ a w hS)⟩
    | ret => exact ⟨.ret, F, M, h, fun σ a w hS Q hQ => wp_ret (hQ σ a w hS)⟩
    | _ => cases h

/-- A function's answer: its body, run. -/
def runP (P : Program) (E : List (Entry P)) (fn : Func) (args : List AV) (M : List (List AC)) : Option AV :=
  match fn.body with
  | none => none
  | some c => exP P E M.length 4000 c (args ++ List.replicate (fn.ntmps - args.length) undefA) M fun o F M =>
    match o with
    | .exit _ => none
    | _ => match resultA P fn F M with
      | some v => cond (plainA v) (some v) none
      | none => none

/-- THE EXECUTOR IS RIGHT: from a function's answer to what its call does. -/
theorem runP_sound {P : Program} {E : List (Entry P)} {f : FuncId} {fn : Func} (hf : P.funcs[f]? = some fn) {args : List AV} {M : List (List AC)} {r : AV} (h : runP P E fn args M = some r)
    {σ : List (Nat × Nat)} {vs : List Value} {w : World} (hM : MemOk σ M w) (ha : RepF σ args vs) :
    Calls P f vs.toArray w fun e w' => ∃ v, e = .returned v ∧ Rep σ r v ∧ Ext w w' := by
  unfold runP at h
  split at h
  · cases h
  · rename_i c hb
    obtain ⟨o, F', M', hK, hc⟩ := (exP_sound ⟨w, σ⟩ 4000).1 c _ M _ r h
    have fin : ∀ (hK' : (match resultA P fn F' M' with | some v => cond (plainA v) (some v) none | none => none) = some r) {σ' : List (Nat × Nat)} {a' : Act} {w' : World} (hs : St σ' M.length ⟨w, σ⟩ F' M' a' w'),
        a'.defers = [] ∧ ∃ v, (results fn a'.tmps).run P w' = .ok v w' ∧ ∃ u, (Ending.returned v) = .returned u ∧ Rep σ r u ∧ Ext w w' := by
      intro hK' σ' a' w' hs
      cases hr : resultA P fn F' M' with
      | none => simp [hr] at hK'
      | some v =>
        simp only [hr] at hK'
        cases hp : plainA v with
        | false => simp [hp] at hK'
        | true =>
          simp only [hp, cond_true, Option.some.injEq] at hK'
          subst hK'
          obtain ⟨z, hz, hrz⟩ := results_sound (P := P) hs hr
          exact ⟨hs.defers, z, hz, z, rfl, plain_rep hp hrz, hs.ext⟩
    refine calls_of_wp hf hb (hc σ _ w ⟨rfl, ?_, hM, Ext.refl _, fun id b hid hbb => ?_, List.prefix_refl _⟩ _ fun σ' a' w' hs => ?_)
    · have hlen := ha.length
      have h1 : ∀ (n : Nat), RepF σ (List.replicate n undefA) (List.replicate n undef) := by
        intro n
        induction n with
        | zero => exact .nil
        | succ n ih => exact .cons rfl ih
      have h2 : ∀ {l l' : List AV} {us us' : List Value}, RepF σ l us → RepF σ l' us' → RepF σ (l ++ l') (us ++ us') := by
        intro l l' us us' h h'
        induction h with
        | nil => exact h'
        | cons h _ ih => exact .cons h ih
      simpa [hlen] using h2 ha (h1 (fn.ntmps - vs.length))
    · have := (List.getElem?_eq_some_iff.1 hbb).1
      rw [hM.len] at this
      omega
    · cases o with
      | norm => exact fin hK hs
      | ret => exact fin hK hs
      | exit id => cases hK

/-- A function with a body, as an entry: what the executor answers of it is what is said. -/
theorem gives_of_runP {P : Program} {E : List (Entry P)} {f : FuncId} {fn : Func} (hf : P.funcs[f]? = some fn) (hn : (fn.name == "runtime.NumGoroutine") = false) {args : List AV} {M : List (List AC)} {r : AV} (h : runP P E fn args M = some r)
    {σ : List (Nat × Nat)} {vs : List Value} {w : World} (hM : MemOk σ M w) (ha : RepF σ args vs) : Gives P f vs.toArray w fun v w' => Rep σ r v ∧ Ext w w' := by
  refine .inr ⟨?_, runP_sound hf h hM ha⟩
  have hb : fn.body.isNone = false := by
    unfold runP at h
    split at h
    · cases h
    · rename_i c hb; rw [hb]; rfl
  have hn' : fn.name ≠ "runtime.NumGoroutine" := by simpa using hn
  have hb' : fn.body ≠ none := by intro e; rw [e] at hb; cases hb
  simp [callFunc, hf, hn', hb']

theorem runP_plain {P : Program} {E : List (Entry P)} {fn : Func} {args : List AV} {M : List (List AC)} {r : AV} (h : runP P E fn args M = some r) : plainA r = true := by
  unfold runP at h
  split at h
  · cases h
  · obtain ⟨o, F', M', hK, _⟩ := (exP_sound ⟨default, []⟩ 4000).1 _ _ _ _ _ h
    have fin : (match resultA P fn F' M' with | some v => cond (plainA v) (some v) none | none => none) = some r → plainA r = true := by
      intro hK
      cases hr : resultA P fn F' M' with
      | none => simp [hr] at hK
      | some v =>
        simp only [hr] at hK
        cases hp : plainA v with
        | false => simp [hp] at hK
        | true => simp only [hp, cond_true, Option.some.injEq] at hK; subst hK; exact hp
    cases o with
    | norm => exact fin hK
    | ret => exact fin hK
    | exit id => cases hK

/-- An entry's proof, for arguments without pointers. -/
theorem gives0P {P : Program} {E : List (Entry P)} {f : FuncId} {fn : Func} (hf : P.funcs[f]? = some fn) (hn : (fn.name == "runtime.NumGoroutine") = false) {args : List AV} {r : AV} (hp : args.all plainA = true)
    (h : runP P E fn args [] = some r) {σ : List (Nat × Nat)} {vs : List Value} {w : World} (ha : RepF σ args vs) : Gives P f vs.toArray w fun v w' => Rep σ r v ∧ Ext w w' := by
  have hr := runP_plain h
  rcases gives_of_runP hf hn h (MemOk.nil w) (plainF (τ := []) hp ha) with ⟨v, w', h1, h2, h3⟩ | ⟨h1, h2⟩
  · exact .inl ⟨v, w', h1, plain_rep hr h2, h3⟩
  · exact .inr ⟨h1, h2.mono fun e w' ⟨v, he, hv, hw⟩ => ⟨v, he, plain_rep hr hv, hw⟩⟩


/-- An entry's proof, for one pointer and arguments without pointers. -/
theorem gives_ptrP {P : Program} {E : List (Entry P)} {f : FuncId} {fn : Func} (hf : P.funcs[f]? = some fn) (hn : (fn.name == "runtime.NumGoroutine") = false) {cs : List AC} {rest : List AV} {r : AV}
    (h : runP P E fn (.c (.ptr 0 0) :: rest) [cs] = some r) (hp : rest.all plainA = true) (hc : cs.all plainC = true) {σ : List (Nat × Nat)} {M : List (List AC)} {id : Nat} {vs : List Value} {w : World}
    (hM : MemOk σ M w) (hid : M[id]? = some cs) (ha : RepF σ (.c (.ptr id 0) :: rest) vs) : Gives P f vs.toArray w fun v w' => Rep σ r v ∧ Ext w w' := by
  have hr := runP_plain h
  cases ha with
  | cons h1 h2 =>
    obtain ⟨b, hb, hv⟩ := h1
    have hM' : MemOk [b] [cs] w := ⟨rfl, by simp, fun i b' cs' hb' hc' => by
      cases i with
      | zero =>
        cases hb'; cases hc'
        obtain ⟨vs, e, hw, ⟨k, hl⟩, hs⟩ := hM.at_ id b cs hb hid
        exact ⟨vs, e, hw, ⟨k, plainL_rep (by simp [hc]; right; rfl) hl⟩, hs⟩
      | succ i => cases hb'⟩
    have ha' : RepF [b] (.c (.ptr 0 0) :: rest) _ := .cons ⟨b, rfl, hv⟩ (plainF hp h2)
    rcases gives_of_runP hf hn h hM' ha' with ⟨v, w', h3, h4, h5⟩ | ⟨h3, h4⟩
    · exact .inl ⟨v, w', h3, plain_rep hr h4, h5⟩
    · exact .inr ⟨h3, h4.mono fun e w' ⟨v, he, hv, hw⟩ => ⟨v, he, plain_rep hr hv, hw⟩⟩

end Go.Proofs.Ytlpahmefebgdlaa.Fx
/- Contracts: sines, exponentials, angles, roundings, conversions. No condition. -/
namespace Go.Proofs.Ytlpahmefebgdlaa.Fx
open Go Go.RowKit

def half : F64 := c64 4602678819172646912
def quarter : F64 := c64 4598175219545276416
def one : F64 := c64 4607182418800017408
def two : F64 := c64 4611686018427387904
def full : F64 := c64 4618760256179416344
def pi : F64 := c64 4614256656552045848
def eight : F64 := c64 4620693217682128896
def h200 : F64 := c64 4641240890982006784
def m200 : F64 := c64 13864612927836782592
def k256 : F64 := c64 4643211215818981376
def six52 : F64 := c64 4841369599423283200
def m52 : F64 := c64 14064741636278059008
def ten : F64 := c64 4621819117588971520
def mten : F64 := c64 13845191154443747328
def zero : F64 := c64 0
def ki (k : Int) : F64 := lit .f64 (floatOfInt .f64 k)

-- finite numbers
def eIsNaN : Entry Try.prog := { f := 120, fn := shD fun x => rB (ne x x), ok := okD (E := []) Try.func120 (by kernel_rfl) fun x _ => by kernel_rfl }

def isInf (x : F64) : Bool := gt (fabs x) (c64 9218868437227405311)
def shDI (g : F64 → Bool × AV) : List AV → List (List AC) → Option (Bool × AV)
  | [.c (.fl .f64 x0), .c (.val (.int .i64 0))], _ => some (g x0)
  | _, _ => none
theorem eIsInf_ok : EOk Try.prog 122 (shDI fun x => rB (isInf x)) := by
  intro args M r hr σ vs w _ ha
  unfold shDI at hr
  split at hr
  · cases hr
    rename_i x
    exact gives0 (E := [eAbs]) Try.func122 (by kernel_rfl) rfl (show run Try.prog [eAbs] Try.f122 [.c (.fl .f64 x), .c (.val (.int .i64 0))] [] = some (.c (.sb (isInf x))) by kernel_rfl) ha
  · cases hr
def eIsInf : Entry Try.prog := { f := 122, fn := shDI fun x => rB (isInf x), ok := eIsInf_ok }

def finite (x : F64) : Bool := !(ne x x) && !(isInf x)
def eFinite : Entry Try.prog := { f := 113, fn := shD fun x => rB (finite x), ok := okD (E := [eIsNaN, eIsInf]) Try.func113 (by kernel_rfl) fun x _ => by show _ = some (AV.c (.sb (finite x))); unfold finite; rw [push_and]; kernel_rfl }
def isFinite (x : F32) : Bool := finite (widen x)
def eIsFinite : Entry Try.prog := { f := 58, fn := shS fun x => rB (isFinite x), ok := okS (E := [eFinite]) Try.func58 (by kernel_rfl) fun x _ => by kernel_rfl }
def aMass (x : F32) : Bool := isFinite x && ge x (c32 0)
def eAMass : Entry Try.prog := { f := 76, fn := shS fun x => rB (aMass x), ok := okS (E := [eIsFinite]) Try.func76 (by kernel_rfl) fun x _ => by show _ = some (AV.c (.sb (aMass x))); unfold aMass; rw [push_and]; kernel_rfl }
def aLength (x : F32) : Bool := isFinite x && gt x (c32 0)
def eALength : Entry Try.prog := { f := 82, fn := shS fun x => rB (aLength x), ok := okS (E := [eIsFinite]) Try.func82 (by kernel_rfl) fun x _ => by show _ = some (AV.c (.sb (aLength x))); unfold aLength; rw [push_and]; kernel_rfl }
def isTurn (x : F32) : Bool := ge x (c32 0) && lt x (c32 1065353216)
def eIsTurn : Entry Try.prog := { f := 94, fn := shS fun x => rB (isTurn x), ok := okS (E := []) Try.func94 (by kernel_rfl) fun x _ => by show _ = some (AV.c (.sb (isTurn x))); unfold isTurn; rw [push_and]; kernel_rfl }
def sTurn : Entry Try.prog := { f := 141, fn := shS fun x => rB (isTurn x), ok := okS (E := []) Try.func141 (by kernel_rfl) fun x _ => by show _ = some (AV.c (.sb (isTurn x))); unfold isTurn; rw [push_and]; kernel_rfl }
def finS (x : F32) : Bool := eq (x - x) (c32 0)
def sFinite : Entry Try.prog := { f := 130, fn := shS fun x => rB (finS x), ok := okS (E := []) Try.func130 (by kernel_rfl) fun x _ => by kernel_rfl }
def leastS (x : F32) : Bool := finS x && ge x (c32 0)
def aboveS (x : F32) : Bool := finS x && gt x (c32 0)
def sAbove : Entry Try.prog := { f := 89, fn := shS fun x => rB (aboveS x), ok := okS (E := [sFinite]) Try.func89 (by kernel_rfl) fun x _ => by show _ = some (AV.c (.sb (aboveS x))); unfold aboveS; rw [push_and]; kernel_rfl }
def isShare (x : F32) : Bool := gt x (c32 0) && le x (c32 1056964608)
def eIsShare : Entry Try.prog := { f := 56, fn := shS fun x => rB (isShare x), ok := okS (E := []) Try.func56 (by kernel_rfl) fun x _ => by show _ = some (AV.c (.sb (isShare x))); unfold isShare; rw [push_and]; kernel_rfl }
-- numbers that are told
theorem push_sb2 (c : Bool) (a b : F32) (d e : Bool) : some (AV.tup [.fl .f32 (bif c then a else b), .sb (bif c then d else e)]) = bif c then some (.tup [.fl .f32 a, .sb d]) else some (.tup [.fl .f32 b, .sb e]) := by cases c <;> rfl
def toldV (x : F32) : F32 := bif !(isFinite x) then c32 0 else x
def toldB (x : F32) : Bool := bif !(isFinite x) then false else true
def eTold : Entry Try.prog := { f := 62, fn := shS fun x => rSB (toldV x) (toldB x), ok := okS (E := [eIsFinite]) Try.func62 (by kernel_rfl) fun x _ => by show _ = some (AV.tup [.fl .f32 (toldV x), .sb (toldB x)]); unfold toldV toldB; rw [push_sb2]; kernel_rfl }
theorem eNarrowed_run (x : F64) (hx : ((fun x : F64 => ((fits x, .tup [.fl .f32 (toldV (narrow x)), .sb (toldB (narrow x))]) : Bool × AV)) x).1 = true) : run Try.prog [eTold] Try.f77 [.c (.fl .f64 x)] [] = some ((fun x : F64 => ((fits x, .tup [.fl .f32 (toldV (narrow x)), .sb (toldB (narrow x))]) : Bool × AV)) x).2 := by
  have h : run Try.prog [eTold] Try.f77 [.c (.fl .f64 x)] [] = bif fits x then some (.tup [.fl .f32 (toldV (narrow x)), .sb (toldB (narrow x))]) else none := by kernel_rfl
  rw [h, show fits x = true from hx]; rfl
def eNarrowed : Entry Try.prog := { f := 77, fn := shD (fun x : F64 => ((fits x, .tup [.fl .f32 (toldV (narrow x)), .sb (toldB (narrow x))]) : Bool × AV)), ok := okD (E := [eTold]) Try.func77 (by kernel_rfl) fun x hx => eNarrowed_run x hx }
theorem sNarrow_run (x : F64) (hx : ((fun x : F64 => ((fits x, .c (.fl .f32 (narrow x))) : Bool × AV)) x).1 = true) : run Try.prog [] Try.f132 [.c (.fl .f64 x)] [] = some ((fun x : F64 => ((fits x, .c (.fl .f32 (narrow x))) : Bool × AV)) x).2 := by
  have h : run Try.prog [] Try.f132 [.c (.fl .f64 x)] [] = bif fits x then some (.c (.fl .f32 (narrow x))) else none := by kernel_rfl
  rw [h, show fits x = true from hx]; rfl
def sNarrow : Entry Try.prog := { f := 132, fn := shD (fun x : F64 => ((fits x, .c (.fl .f32 (narrow x))) : Bool × AV)), ok := okD (E := []) Try.func132 (by kernel_rfl) fun x hx => sNarrow_run x hx }
def giveV (x : F32) : F32 := bif !(finS x) then c32 0 else x
def giveB (x : F32) : Bool := bif !(finS x) then false else true
theorem sl03Narrow_run (x : F64) (hx : ((fun x : F64 => ((fits x, .tup [.fl .f32 (giveV (narrow x)), .sb (giveB (narrow x))]) : Bool × AV)) x).1 = true) : run Try.prog [sNarrow, sFinite] Try.f92 [.c (.fl .f64 x)] [] = some ((fun x : F64 => ((fits x, .tup [.fl .f32 (giveV (narrow x)), .sb (giveB (narrow x))]) : Bool × AV)) x).2 := by
  have h : run Try.prog [sNarrow, sFinite] Try.f92 [.c (.fl .f64 x)] [] = bif fits x then (bif !(finS (narrow x)) then some (.tup [.fl .f32 (c32 0), .sb false]) else some (.tup [.fl .f32 (narrow x), .sb true])) else none := by kernel_rfl
  rw [h, show fits x = true from hx]
  show _ = some (AV.tup [.fl .f32 (giveV (narrow x)), .sb (giveB (narrow x))])
  unfold giveV giveB
  rw [push_sb2]; rfl
def sl03Narrow : Entry Try.prog := { f := 92, fn := shD (fun x : F64 => ((fits x, .tup [.fl .f32 (giveV (narrow x)), .sb (giveB (narrow x))]) : Bool × AV)), ok := okD (E := [sNarrow, sFinite]) Try.func92 (by kernel_rfl) fun x hx => sl03Narrow_run x hx }

-- circles
def behind (x : F64) : F64 := bif lt (x - (whole .zero x + zero)) zero then x - (whole .zero x + zero) + one else x - (whole .zero x + zero)
def eBehind : Entry Try.prog := { f := 136, fn := shD fun x => rD (behind x), ok := okD (E := [eTrunc]) Try.func136 (by kernel_rfl) fun x _ => by show _ = some (AV.c (.fl .f64 (behind x))); unfold behind; rw [push_fl]; kernel_rfl }

def sineStep (u p : F64) (k : Int) : F64 := one - (u * p) / ki (2 * k * (2 * k + 1))
def sinePoly (u : F64) : F64 := [8, 7, 6, 5, 4, 3, 2, 1].foldl (sineStep u) one
def sineOut (f : F64) : F64 := (f * full) * sinePoly ((f * full) * (f * full))
def sineIn (f : F64) : F64 := bif gt f quarter then sineOut (half - f) else sineOut f
/-- The sine of turns from 0 on. -/
def sineF (f : F64) : F64 := bif ge f half then (bif gt (f - half) quarter then -(sineOut (half - (f - half))) else -(sineOut (f - half))) else (bif gt f quarter then sineOut (half - f) else sineOut f)
def sine (x : F64) : F64 := sineF (behind x)
def eSine : Entry Try.prog := { f := 134, fn := shD fun x => rD (sine x), ok := okD (E := [eBehind]) Try.func134 (by kernel_rfl) fun x _ => by show _ = some (AV.c (.fl .f64 (sine x))); unfold sine sineF; simp only [push_fl]; kernel_rfl }
def cosine (x : F64) : F64 := sine (x + quarter)
-- exponentials
def inf64 : F64 := c64 9218868437227405312
def shI1 (v : AV) : List AV → List (List AC) → Option (Bool × AV)
  | [.c (.val (.int .i64 1))], _ => some (true, v)
  | _, _ => none
theorem eInf_ok : EOk Try.prog 119 (shI1 (.c (.fl .f64 inf64))) := by
  intro args M r hr σ vs w _ ha
  unfold shI1 at hr
  split at hr
  · cases hr
    exact gives0 (E := [eFrombits]) Try.func119 (by kernel_rfl) rfl (show run Try.prog [eFrombits] Try.f119 [.c (.val (.int .i64 1))] [] = some (.c (.fl .f64 inf64)) by kernel_rfl) ha
  · cases hr
def eInf : Entry Try.prog := { f := 119, fn := shI1 (.c (.fl .f64 inf64)), ok := eInf_ok }
def expStep (t p : F64) (k : Int) : F64 := one + (t * p) / ki k
def expPoly (t : F64) : F64 := [12, 11, 10, 9, 8, 7, 6, 5, 4, 3, 2, 1].foldl (expStep t) one
def sq (p : F64) : F64 := p * p
def sq8 (p : F64) : F64 := sq (sq (sq (sq (sq (sq (sq (sq p)))))))
def exponential (x : F64) : F64 := bif gt x h200 then inf64 else (bif lt x m200 then zero else sq8 (expPoly (x / k256)))
def eExp : Entry Try.prog := { f := 78, fn := shD fun x => rD (exponential x), ok := okD (E := [eInf]) Try.func78 (by kernel_rfl) fun x _ => by show _ = some (AV.c (.fl .f64 (exponential x))); unfold exponential; simp only [push_fl]; kernel_rfl }
def expS (x : F64) : F64 := bif ne x x then x else (bif gt x h200 then inf64 else (bif lt x m200 then zero else sq8 (expPoly (x / k256))))
def halfDiff (x : F64) : F64 := (exponential x - exponential (-x)) / two
def halfSum (x : F64) : F64 := (exponential x + exponential (-x)) / two
def eHalfDiff : Entry Try.prog := { f := 98, fn := shD fun x => rD (halfDiff x), ok := okD (E := [eExp]) Try.func98 (by kernel_rfl) fun x _ => by kernel_rfl }
def sinhS (x : F64) : F64 := half * (expS x - expS (-x))
def coshS (x : F64) : F64 := half * (expS x + expS (-x))
def leanSizeS (e x : F64) : F64 := e * sinhS x - x
-- angles
def angT (t : F64) : F64 := t / (one + sqrt (one + t * t))
def angStep (u p : F64) (k : Int) : F64 := one / ki k - u * p
def angPoly (u : F64) : F64 := [15, 13, 11, 9, 7, 5, 3, 1].foldl (angStep u) zero
def angOut (t : F64) : F64 := (eight * (t * angPoly (t * t))) / full
def angEnd (y x out : F64) : F64 := bif lt x zero then (bif lt y zero then -(half - out) else half - out) else (bif lt y zero then -out else out)
def angle (y x : F64) : F64 := bif gt (fabs y) (fabs x) then angEnd y x (quarter - angOut (angT (angT (angT (fabs x / fabs y))))) else angEnd y x (angOut (angT (angT (angT (fabs y / fabs x)))))
theorem bif_same {α : Type} (c : Bool) (a b d e : α) : (bif c then (bif c then a else b) else (bif c then d else e)) = bif c then a else e := by cases c <;> rfl
def angleOf (y x : F64) : F64 := bif !(finite y) || !(finite x) then none else (bif eq y zero && eq x zero then zero else angle y x)
def wrap (x : F64) : F64 := x - whole .down x
def eWrap : Entry Try.prog := { f := 133, fn := shD fun x => rD (wrap x), ok := okD (E := [eFloor]) Try.func133 (by kernel_rfl) fun x _ => by kernel_rfl }
def swingPhase (e x : F64) : F64 := x - (e * sine x) / full
def ePhaseOfSwing : Entry Try.prog := { f := 96, fn := shDD fun e x => rD (swingPhase e x), ok := okDD (E := [eSine]) Try.func96 (by kernel_rfl) fun e x _ => by kernel_rfl }

end Go.Proofs.Ytlpahmefebgdlaa.Fx
/- Contracts: the laws' own comparison of floats; masses. No condition. -/
namespace Go.Proofs.Ytlpahmefebgdlaa.Fx
open Go Go.RowKit

def sameFl (x y : F64) : Bool := bif ne x x || ne y y then ne x x && ne y y else (bif eq x zero && eq y zero then gt (one / x) zero == gt (one / y) zero else eq x y)
theorem sameFl_refl (x : F64) : sameFl x x = true := by
  unfold sameFl ne eq
  cases h : ord x x == some .eq <;> simp [bne, h]
def rSSB (x y : F32) (b : Bool) : Bool × AV := (true, .tup [.fl .f32 x, .fl .f32 y, .sb b])
theorem push_ssb (c : Bool) (a b a' b' : F32) (d e : Bool) : some (AV.tup [.fl .f32 (bif c then a else b), .fl .f32 (bif c then a' else b'), .sb (bif c then d else e)]) = bif c then some (.tup [.fl .f32 a, .fl .f32 a', .sb d]) else some (.tup [.fl .f32 b, .fl .f32 b', .sb e]) := by cases c <;> rfl
def one32 : F32 := c32 1065353216
def massA (x : F32) : F32 := bif !(isShare x) then c32 0 else -x
def massB (x : F32) : F32 := bif !(isShare x) then c32 0 else one32 - x
def massC (x : F32) : Bool := bif !(isShare x) then false else true
def eMasses : Entry Try.prog := { f := 13, fn := shS fun x => rSSB (massA x) (massB x) (massC x), ok := okS (E := [eIsShare]) Try.func13 (by kernel_rfl) fun x _ => by show _ = some (AV.tup [.fl .f32 (massA x), .fl .f32 (massB x), .sb (massC x)]); unfold massA massB massC; rw [push_ssb]; kernel_rfl }
end Go.Proofs.Ytlpahmefebgdlaa.Fx
/- More of rounding: exact results, bounds by any word. No condition. -/
namespace Go.Proofs.Ytlpahmefebgdlaa.Nr
open Ieee

theorem cut_zero (way : Toward) (neg : Bool) (n : Nat) : way.cut neg n 0 = n := by
  unfold Toward.cut
  simp only [shl, Nat.zero_min, Nat.pow_zero, Nat.one_mul, Nat.div_one, Nat.mod_one]
  cases way <;> simp

theorem cut_down (neg : Bool) (n d : Nat) : Toward.zero.cut neg n d = n / 2 ^ d := by
  unfold Toward.cut
  simp only [shl, Nat.one_mul, Bool.toNat_false, Nat.add_zero]
  by_cases hg : d ≤ n.log2 + 2
  · rw [Nat.min_eq_left hg]
  · rw [Nat.min_eq_right (by omega)]
    have h1 := lt_log2 n
    have h2 : 2 ^ (n.log2 + 2) = 2 * 2 ^ (n.log2 + 1) := by rw [Nat.pow_succ]; omega
    have h3 : 2 ^ (n.log2 + 2) ≤ 2 ^ d := Nat.pow_le_pow_right (by decide) (by omega)
    rw [Nat.div_eq_of_lt (by omega), Nat.div_eq_of_lt (by omega)]

theorem cut_lt {neg : Bool} {n drop c : Nat} (h : 2 * n < (2 * c + 1) * 2 ^ drop) : Toward.even.cut neg n drop ≤ c := by
  unfold Toward.cut
  simp only [shl, Nat.one_mul]
  by_cases hg : drop ≤ n.log2 + 2
  · rw [Nat.min_eq_left hg]
    have hp : 0 < 2 ^ drop := Nat.two_pow_pos _
    have hdm := Nat.div_add_mod n (2 ^ drop)
    have hlt := Nat.mod_lt n hp
    have hle : n / 2 ^ drop < c + 1 := by
      apply (Nat.div_lt_iff_lt_mul hp).2
      have : (2 * c + 1) * 2 ^ drop ≤ 2 * ((c + 1) * 2 ^ drop) := by
        rw [← Nat.mul_assoc]; exact Nat.mul_le_mul_right _ (by omega)
      omega
    by_cases he : n / 2 ^ drop = c
    · have hr : 2 * (n % 2 ^ drop) < 2 ^ drop := by
        rw [he] at hdm
        have e1 : (2 * c + 1) * 2 ^ drop = 2 * (2 ^ drop * c) + 2 ^ drop := by
          rw [Nat.add_mul, Nat.one_mul, Nat.mul_assoc, Nat.mul_comm c]
        omega
      have h5 : decide (2 ^ drop < 2 * (n % 2 ^ drop)) = false := by simp; omega
      have h6 : (2 ^ drop == 2 * (n % 2 ^ drop)) = false := by simp; omega
      rw [h5, h6, he]; simp
    · have : n / 2 ^ drop + 1 ≤ c := by omega
      refine Nat.le_trans (Nat.add_le_add_left (Bool.toNat_le _) _) this
  · rw [Nat.min_eq_right (by omega)]
    have h1 := lt_log2 n
    have h2 : 2 ^ (n.log2 + 2) = 2 * 2 ^ (n.log2 + 1) := by rw [Nat.pow_succ]; omega
    have h3 : n / 2 ^ (n.log2 + 2) = 0 := Nat.div_eq_of_lt (by omega)
    have h4 : n % 2 ^ (n.log2 + 2) = n := Nat.mod_eq_of_lt (by omega)
    rw [h3, h4]
    have h5 : decide (2 ^ (n.log2 + 2) < 2 * n) = false := by simp; omega
    have h6 : (2 ^ (n.log2 + 2) == 2 * n) = false := by simp; omega
    rw [h5, h6]; simp

/-- What the format has is written as it is. -/
theorem nearest_exact (f : Format) (s : Bool) {m : Nat} {e : Int} (hm : m < 2 ^ (f.fractionBits + 1)) (he : f.leastPlace ≤ e) (h2 : e ≤ f.leastPlace + (2 ^ f.exponentBits - 3 : Nat)) (h3 : 3 ≤ 2 ^ f.exponentBits) :
    ∃ j : Nat, f.read (f.nearest s m e) = .number s (m * 2 ^ j) (e - j) ∧ f.leastPlace ≤ e - j := by
  have hbin : f.binade = 2 ^ f.fractionBits := rfl
  have hp : 0 < f.binade := Nat.two_pow_pos _
  have hsw : f.signWeight = 2 ^ f.exponentBits * f.binade := by rw [hbin]; exact Nat.pow_add _ _ _
  have hinf : f.infRung + f.binade = 2 ^ f.exponentBits * f.binade := by
    show (2 ^ f.exponentBits - 1) * f.binade + f.binade = _
    rw [← Nat.succ_mul]; congr 1; omega
  unfold Format.nearest
  by_cases h0 : m = 0
  · subst h0
    rw [if_pos rfl]
    have hi : 2 * f.binade ≤ 2 ^ f.exponentBits * f.binade := Nat.mul_le_mul_right _ (by omega)
    have h4 : f.read (f.word s 0) = .number s 0 f.leastPlace := by
      rw [read_word f s (by omega)]; unfold readRung; rw [if_pos (by omega)]
    obtain ⟨j, hj⟩ := Int.eq_ofNat_of_zero_le (show 0 ≤ e - f.leastPlace by omega)
    refine ⟨j, ?_, by omega⟩
    rw [h4, Nat.zero_mul]; congr 1; omega
  · rw [if_neg h0]
    dsimp only
    have hl := Nat.log2_self_le h0
    have hl2 := lt_log2 m
    have hL : m.log2 ≤ f.fractionBits := by
      have : 2 ^ m.log2 < 2 ^ (f.fractionBits + 1) := Nat.lt_of_le_of_lt hl hm
      have := (Nat.pow_lt_pow_iff_right (by decide)).1 this
      omega
    obtain ⟨last, hlast⟩ : ∃ last, last = max (e + (m.log2 : Int) - (f.fractionBits : Int)) f.leastPlace := ⟨_, rfl⟩
    rw [← hlast]
    have hle : last ≤ e := by omega
    obtain ⟨j, hj⟩ := Int.eq_ofNat_of_zero_le (show 0 ≤ e - last by omega)
    have e1 : (e - last).toNat = j := by omega
    have e2 : (last - e).toNat = 0 := by omega
    rw [e1, e2, cut_zero, shl]
    obtain ⟨K, hK⟩ := Int.eq_ofNat_of_zero_le (show 0 ≤ last - f.leastPlace by omega)
    have e3 : (last - f.leastPlace).toNat = K := by omega
    rw [e3]
    have hk : m * 2 ^ j < 2 * f.binade := by
      rw [hbin, show 2 * 2 ^ f.fractionBits = 2 ^ (m.log2 + 1) * 2 ^ (f.fractionBits - m.log2) by rw [← Nat.pow_add, Nat.mul_comm, ← Nat.pow_succ]; congr 1; omega]
      refine Nat.lt_of_lt_of_le (Nat.mul_lt_mul_of_pos_right hl2 (Nat.two_pow_pos _)) ?_
      exact Nat.mul_le_mul_left _ (Nat.pow_le_pow_right (by decide) (by omega))
    have hKb : K + 3 ≤ 2 ^ f.exponentBits := by omega
    have hKm : (K + 3) * f.binade ≤ 2 ^ f.exponentBits * f.binade := Nat.mul_le_mul_right _ hKb
    rw [Nat.add_mul] at hKm
    have hlt : K * f.binade + m * 2 ^ j < f.infRung := by omega
    rw [Nat.min_eq_left (Nat.le_of_lt hlt), read_word f s (by omega)]
    unfold readRung
    refine ⟨j, ?_, by omega⟩
    have e4 : e - (j : Int) = last := by omega
    rw [e4]
    by_cases hn : f.leastPlace < last ∨ f.fractionBits ≤ m.log2 + j
    · -- normal
      have hge : f.binade ≤ m * 2 ^ j := by
        rw [hbin]
        refine Nat.le_trans ?_ (Nat.mul_le_mul_right _ hl)
        rw [← Nat.pow_add]
        exact Nat.pow_le_pow_right (by decide) (by omega)
      rw [if_neg (by omega), if_pos hlt]
      obtain ⟨x, hx⟩ : ∃ x, m * 2 ^ j = f.binade + x := ⟨m * 2 ^ j - f.binade, by omega⟩
      have hxl : x < f.binade := by omega
      have e5 : K * f.binade + m * 2 ^ j = x + f.binade * (K + 1) := by rw [hx, Nat.mul_comm K, Nat.mul_add]; omega
      rw [e5, Nat.add_mul_mod_self_left, Nat.add_mul_div_left _ _ hp, Nat.mod_eq_of_lt hxl, Nat.div_eq_of_lt hxl, hx]
      congr 1; omega
    · have hK0 : K = 0 := by omega
      have hlt2 : m * 2 ^ j < f.binade := by
        rw [hbin]
        refine Nat.lt_of_lt_of_le (Nat.mul_lt_mul_of_pos_right hl2 (Nat.two_pow_pos _)) ?_
        rw [← Nat.pow_add]
        exact Nat.pow_le_pow_right (by decide) (by omega)
      rw [hK0, Nat.zero_mul, Nat.zero_add, if_pos hlt2]
      congr 1; omega

theorem double_exact (s : Bool) {m : Nat} {e : Int} (hm : m < 2 ^ 53) (he : -1074 ≤ e) (h2 : e ≤ 971) :
    ∃ j : Nat, double.read (double.nearest s m e) = .number s (m * 2 ^ j) (e - j) ∧ -1074 ≤ e - j :=
  have e1 : double.leastPlace = -1074 := by decide
  have e2 : (2 ^ double.exponentBits - 3 : Nat) = 2045 := by decide
  nearest_exact double s hm he (by omega) (by decide)

/-- Bounds by a word that is no power of two. -/
theorem nearest_lt (f : Format) (neg : Bool) {mag c : Nat} {place p : Int} (hc : 2 ^ f.fractionBits ≤ c) (hc2 : c < 2 ^ (f.fractionBits + 1)) (hp : f.leastPlace ≤ p)
    (h : 2 * mag * 2 ^ (place - p).toNat < (2 * c + 1) * 2 ^ (p - place).toNat) :
    ∃ r, f.nearest neg mag place = f.word neg r ∧ r ≤ (p - f.leastPlace).toNat * f.binade + c ∧ r ≤ f.infRung := by
  have hbin : f.binade = 2 ^ f.fractionBits := rfl
  by_cases hm : mag = 0
  · unfold Format.nearest
    rw [if_pos hm]; exact ⟨0, rfl, Nat.zero_le _, Nat.zero_le _⟩
  · have hl := Nat.log2_self_le hm
    have hl2 := lt_log2 mag
    by_cases hlow : place + (mag.log2 : Int) < p + f.fractionBits
    · obtain ⟨r, h1, h2, h3⟩ := nearest_le f neg (mag := mag) (place := place) (E := p + f.fractionBits) (by omega) (Or.inr ⟨by omega, by
        refine Nat.le_trans (Nat.le_of_lt hl2) (Nat.pow_le_pow_right (by decide) (by omega))⟩)
      refine ⟨r, h1, Nat.le_trans h2 ?_, h3⟩
      unfold rungPow
      have e1 : (p + (f.fractionBits : Int) - f.leastPlace - f.fractionBits + 1).toNat = (p - f.leastPlace).toNat + 1 := by omega
      rw [e1, Nat.add_mul, Nat.one_mul, hbin]
      exact Nat.add_le_add_left hc _
    · have hup : place + (mag.log2 : Int) ≤ p + f.fractionBits := by
        have h1 : 2 ^ (1 + mag.log2 + (place - p).toNat) < 2 ^ (f.fractionBits + 2 + (p - place).toNat) := by
          refine Nat.lt_of_le_of_lt ?_ (Nat.lt_of_lt_of_le h ?_)
          · rw [Nat.pow_add, Nat.pow_add, Nat.pow_one]
            exact Nat.mul_le_mul_right _ (Nat.mul_le_mul_left _ hl)
          · rw [Nat.pow_add]
            refine Nat.mul_le_mul_right _ ?_
            rw [Nat.pow_succ] at hc2
            have : 2 ^ (f.fractionBits + 2) = 4 * 2 ^ f.fractionBits := by rw [Nat.pow_succ, Nat.pow_succ]; omega
            omega
        have := (Nat.pow_lt_pow_iff_right (by decide)).1 h1
        omega
      have hlast : max (place + (mag.log2 : Int) - (f.fractionBits : Int)) f.leastPlace = p := by omega
      unfold Format.nearest
      rw [if_neg hm]
      dsimp only
      rw [hlast]
      refine ⟨_, rfl, Nat.le_trans (Nat.min_le_left _ _) (Nat.add_le_add_left (cut_lt ?_) _), Nat.min_le_right _ _⟩
      rw [shl, ← Nat.mul_assoc]; exact h

theorem readRung_lt (f : Format) (neg : Bool) {r c : Nat} {p : Int} (hc : 2 ^ f.fractionBits ≤ c) (hc2 : c < 2 ^ (f.fractionBits + 1)) (hp : f.leastPlace ≤ p)
    (h : r ≤ (p - f.leastPlace).toNat * f.binade + c) (hi : r < f.infRung) :
    ∃ m e, readRung f neg r = .number neg m e ∧ f.leastPlace ≤ e ∧ m * 2 ^ (e - p).toNat ≤ c * 2 ^ (p - e).toNat := by
  have hbin : f.binade = 2 ^ f.fractionBits := rfl
  have hpos : 0 < f.binade := Nat.two_pow_pos _
  unfold readRung
  by_cases h1 : r < f.binade
  · rw [if_pos h1]
    refine ⟨_, _, rfl, by omega, ?_⟩
    have e1 : (f.leastPlace - p).toNat = 0 := by omega
    rw [e1, Nat.pow_zero, Nat.mul_one]
    exact Nat.le_trans (by omega) (Nat.le_mul_of_pos_right _ (Nat.two_pow_pos _))
  · rw [if_neg h1, if_pos hi]
    refine ⟨_, _, rfl, by omega, ?_⟩
    obtain ⟨K, hK⟩ : ∃ K, K = (p - f.leastPlace).toNat := ⟨_, rfl⟩
    rw [← hK] at h
    have hmod := Nat.mod_lt r hpos
    have hq1 : 1 ≤ r / f.binade := (Nat.one_le_div_iff hpos).2 (by omega)
    have hdm := Nat.div_add_mod r f.binade
    have hq : r / f.binade ≤ K + 1 := by
      have : r / f.binade < K + 2 := (Nat.div_lt_iff_lt_mul hpos).2 (by rw [Nat.add_mul]; rw [Nat.pow_succ] at hc2; omega)
      omega
    generalize r / f.binade = q at hq1 hdm hq ⊢
    by_cases he : q = K + 1
    · have e1 : f.leastPlace + ((q - 1 : Nat) : Int) = p := by omega
      rw [e1, Int.sub_self, Int.toNat_zero, Nat.pow_zero, Nat.mul_one, Nat.mul_one]
      rw [he, Nat.mul_comm, Nat.add_mul, Nat.one_mul] at hdm
      omega
    · have e2 : (f.leastPlace + ((q - 1 : Nat) : Int) - p).toNat = 0 := by omega
      obtain ⟨d, hd⟩ : ∃ d, (p - (f.leastPlace + ((q - 1 : Nat) : Int))).toNat = d + 1 := ⟨(p - (f.leastPlace + ((q - 1 : Nat) : Int))).toNat - 1, by omega⟩
      rw [e2, hd, Nat.pow_zero, Nat.mul_one, Nat.pow_succ]
      have h5 : c * 2 ≤ c * (2 ^ d * 2) := Nat.mul_le_mul_left _ (by have := Nat.two_pow_pos d; omega)
      omega

end Go.Proofs.Ytlpahmefebgdlaa.Nr
/- Numbers: sums that cancel, whole numbers, halves, sines. No condition. -/
namespace Go.Proofs.Ytlpahmefebgdlaa.Fx
open Go Nr Ieee

abbrev bx (r : Nat) : F64 := some r
abbrev nn : F64 := none

/-- A 64-bit float that is a number. -/
def Num (x : F64) (s : Bool) (m : Nat) (e : Int) : Prop := ∃ r, x = bx r ∧ double.read r = .number s m e

theorem Num.bound {x : F64} {s : Bool} {m : Nat} {e : Int} (h : Num x s m e) : m < 2 ^ 53 ∧ -1074 ≤ e ∧ e ≤ 971 := by
  obtain ⟨r, rfl, hr⟩ := h
  obtain ⟨h1, h2, h3⟩ := read_number hr
  have e1 : double.leastPlace = -1074 := by decide
  have e2 : (2 ^ double.exponentBits - 3 : Nat) = 2045 := by decide
  exact ⟨h1, by omega, by omega⟩

theorem Num.normal {x : F64} {s : Bool} {m : Nat} {e : Int} (h : Num x s m e) (he : -1074 < e) : 2 ^ 52 ≤ m := by
  obtain ⟨r, rfl, hr⟩ := h
  have e1 : double.leastPlace = -1074 := by decide
  have e2 : double.binade = 2 ^ 52 := by decide
  unfold Format.read at hr
  dsimp only at hr
  split at hr
  · cases hr; omega
  · split at hr
    · cases hr; omega
    · split at hr <;> cases hr

theorem num_cases (x : F64) : (∃ s m e, Num x s m e) ∨ (∃ r s, x = bx r ∧ double.read r = .infinity s) ∨ (x = nn ∨ ∃ r s f, x = bx r ∧ double.read r = .nan s f) := by
  cases x with
  | none => exact .inr (.inr (.inl rfl))
  | some r =>
    cases h : double.read r with
    | number s m e => exact .inl ⟨s, m, e, r, rfl, h⟩
    | infinity s => exact .inr (.inl ⟨r, s, rfl, h⟩)
    | nan s f => exact .inr (.inr (.inr ⟨r, s, f, rfl, h⟩))

theorem add_some (a b : Nat) : bx a + bx b = (((double.read a).sum (double.read b)).map double.write : Option Nat) := rfl
theorem sub_some (a b : Nat) : bx a - bx b = (((double.read a).sum (double.read b).opposite).map double.write : Option Nat) := rfl
theorem mul_some (a b : Nat) : bx a * bx b = (((double.read a).product (double.read b)).map double.write : Option Nat) := rfl
theorem div_some (a b : Nat) : bx a / bx b = (((double.read a).quotient 54 (double.read b)).map double.write : Option Nat) := rfl
theorem ord_some (a b : Nat) : ord (bx a) (bx b) = (double.read a).order (double.read b) := rfl
theorem none_add (x : F64) : nn + x = nn := rfl
theorem none_sub (x : F64) : nn - x = nn := rfl
theorem none_mul (x : F64) : nn * x = nn := rfl
theorem none_div (x : F64) : nn / x = nn := rfl
theorem add_none (x : F64) : x + nn = nn := by cases x <;> rfl
theorem sub_none (x : F64) : x - nn = nn := by cases x <;> rfl
theorem mul_none (x : F64) : x * nn = nn := by cases x <;> rfl
theorem div_none (x : F64) : x / nn = nn := by cases x <;> rfl
theorem ord_none (x : F64) : ord x nn = none := by cases x <;> rfl

/-- The word of a sum. -/
def addW (s : Bool) (m : Nat) (i : Int) (t : Bool) (n : Nat) (j : Int) : Nat :=
  double.nearest (if signed s m (i - min i j).toNat + signed t n (j - min i j).toNat = 0 then s && t else signed s m (i - min i j).toNat + signed t n (j - min i j).toNat < 0)
    (signed s m (i - min i j).toNat + signed t n (j - min i j).toNat).natAbs (min i j)

theorem Num.add {x y : F64} {s t : Bool} {m n : Nat} {i j : Int} (hx : Num x s m i) (hy : Num y t n j) : x + y = bx (addW s m i t n j) := by
  obtain ⟨r, rfl, hr⟩ := hx
  obtain ⟨q, rfl, hq⟩ := hy
  rw [add_some, hr, hq]; rfl
theorem Num.sub {x y : F64} {s t : Bool} {m n : Nat} {i j : Int} (hx : Num x s m i) (hy : Num y t n j) : x - y = bx (addW s m i (!t) n j) := by
  obtain ⟨r, rfl, hr⟩ := hx
  obtain ⟨q, rfl, hq⟩ := hy
  rw [sub_some, hr, hq]; rfl

theorem nearest_zero (s : Bool) (e : Int) : double.nearest s 0 e = double.word s 0 := by unfold Format.nearest; rw [if_pos rfl]

theorem addW_cancel (s : Bool) (m j : Nat) (e : Int) : addW s m e (!s) (m * 2 ^ j) (e - j) = 0 := by
  have hb : min e (e - (j : Int)) = e - j := by omega
  have e1 : (e - (e - (j : Int))).toNat = j := by omega
  have e2 : (e - (j : Int) - (e - (j : Int))).toNat = 0 := by omega
  unfold addW
  rw [hb, e1, e2]
  have : signed s m j + signed (!s) (m * 2 ^ j) 0 = 0 := by
    cases s <;> simp [signed, Nat.shiftLeft_eq] <;> omega
  rw [this]
  cases s <;> rfl

theorem Num.sub_same {x y : F64} {s : Bool} {m j : Nat} {e : Int} (hx : Num x s m e) (hy : Num y s (m * 2 ^ j) (e - j)) : x - y = zero := by
  rw [hx.sub hy, addW_cancel]; rfl
theorem Num.sub_self {x : F64} {s : Bool} {m : Nat} {e : Int} (hx : Num x s m e) : x - x = zero := by
  refine hx.sub_same (j := 0) ?_
  simpa using hx

theorem num_zero : Num zero false 0 (-1074) := ⟨0, rfl, by decide⟩

theorem signed_natAbs (s : Bool) (m k : Nat) : (signed s m k).natAbs = m * 2 ^ k := by cases s <;> simp [signed, Nat.shiftLeft_eq, Int.natAbs_mul]
theorem signed_eq (s : Bool) (m k : Nat) : signed s m k = if s then -((m * 2 ^ k : Nat) : Int) else ((m * 2 ^ k : Nat) : Int) := by cases s <;> simp [signed, Nat.shiftLeft_eq]

theorem Num.add_zero0 {x : F64} {s : Bool} {e : Int} (hx : Num x s 0 e) : x + zero = zero := by
  rw [hx.add num_zero]
  unfold addW
  have h1 : ∀ k, signed s 0 k = 0 := by intro k; cases s <;> simp [signed]
  have h2 : ∀ k, signed false 0 k = 0 := by intro k; simp [signed]
  rw [h1, h2]
  cases s <;> rfl

theorem Num.add_zero {x : F64} {s : Bool} {m : Nat} {e : Int} (hx : Num x s m e) (hm : m ≠ 0) : x + zero = bx (double.nearest s m e) := by
  obtain ⟨h1, h2, h3⟩ := hx.bound
  rw [hx.add num_zero]
  have hb : min e (-1074) = -1074 := by omega
  unfold addW
  rw [hb]
  obtain ⟨k, hk⟩ := Int.eq_ofNat_of_zero_le (show 0 ≤ e - (-1074) by omega)
  have e1 : (e - -1074).toNat = k := by omega
  rw [e1]
  have e2 : signed false 0 (-1074 - -1074 : Int).toNat = 0 := rfl
  rw [e2, Int.add_zero]
  have hne : m * 2 ^ k ≠ 0 := Nat.mul_ne_zero hm (by have := Nat.two_pow_pos k; omega)
  have hs : ∀ b : Bool, (if signed s m k = 0 then b else decide (signed s m k < 0)) = s := by
    intro b
    rw [signed_eq]
    generalize m * 2 ^ k = z at hne
    cases s
    · rw [if_neg (by simpa using hne)]; simp
    · rw [if_neg (by simpa using hne)]; simp; omega
  rw [hs, signed_natAbs]
  have := nearest_scale double s m k e
  rw [← this]; congr 2; omega

theorem whole_num {x : F64} {s : Bool} {m : Nat} {e : Int} (h : Num x s m e) : whole .zero x = bx (double.nearest s (Toward.zero.cut s (m <<< e.toNat) (-e).toNat) 0) := by
  obtain ⟨r, rfl, hr⟩ := h
  have hd : FloatKind.f64.decode r = .number s m e := hr
  simp only [whole, hd]; rfl

theorem num_near (s : Bool) {m : Nat} {e : Int} (hm : m < 2 ^ 53) (he : -1074 ≤ e) (h2 : e ≤ 971) : ∃ j : Nat, Num (bx (double.nearest s m e)) s (m * 2 ^ j) (e - j) := by
  obtain ⟨j, hj, _⟩ := double_exact s hm he h2
  exact ⟨j, _, rfl, hj⟩

theorem near_scale (s : Bool) (m j : Nat) (e : Int) : double.nearest s (m * 2 ^ j) (e - j) = double.nearest s m e := nearest_scale double s m j e

/-- A great number is whole. -/
theorem trunc_big {x : F64} {s : Bool} {m : Nat} {e : Int} (h : Num x s m e) (he : 0 ≤ e) : x - (whole .zero x + zero) = zero := by
  obtain ⟨h1, h2, h3⟩ := h.bound
  obtain ⟨k, rfl⟩ := Int.eq_ofNat_of_zero_le he
  have hm : m ≠ 0 := by have := h.normal (by omega); have : 0 < 2 ^ 52 := by decide
                        omega
  have e1 : (-(k : Int)).toNat = 0 := by omega
  have e2 : (k : Int).toNat = k := by omega
  have hw := whole_num h
  rw [e1, e2, cut_zero, Nat.shiftLeft_eq] at hw
  have hs := near_scale s m k (k : Int)
  rw [Int.sub_self] at hs
  rw [hs] at hw
  obtain ⟨j, hj⟩ := num_near s h1 h2 h3
  rw [hw, hj.add_zero (Nat.mul_ne_zero hm (by have := Nat.two_pow_pos j; omega)), near_scale]
  exact h.sub_same hj

theorem toI_num {x : F64} {s : Bool} {m : Nat} {e : Int} (h : Num x s m e) (he : e < 0) : isI x .i64 = true ∧ toI x .i64 = signed s (m / 2 ^ (-e).toNat) 0 ∧ m / 2 ^ (-e).toNat < 2 ^ 52 := by
  obtain ⟨h1, h2, h3⟩ := h.bound
  obtain ⟨r, rfl, hr⟩ := h
  have hd : FloatKind.f64.decode r = .number s m e := hr
  have e1 : e.toNat = 0 := by omega
  have hq : m / 2 ^ (-e).toNat < 2 ^ 52 := by
    apply (Nat.div_lt_iff_lt_mul (Nat.two_pow_pos _)).2
    have : 2 ^ 1 ≤ 2 ^ (-e).toNat := Nat.pow_le_pow_right (by decide) (by omega)
    omega
  have hi : (FloatKind.f64.decode r).toInt .zero = some (signed s (m / 2 ^ (-e).toNat) 0) := by
    rw [hd]; simp only [Datum.toInt, Datum.integral, e1, Nat.shiftLeft_zero, cut_down]
  have hr2 : IntKind.i64.min ≤ signed s (m / 2 ^ (-e).toNat) 0 ∧ signed s (m / 2 ^ (-e).toNat) 0 ≤ IntKind.i64.max := by
    rw [signed_eq]
    have a1 : IntKind.i64.min = -9223372036854775808 := by decide
    have a2 : IntKind.i64.max = 9223372036854775807 := by decide
    rw [a1, a2]
    generalize m / 2 ^ (-e).toNat = z at hq
    cases s <;> simp <;> omega
  have hv : floatToIntVal .f64 r .i64 = some (signed s (m / 2 ^ (-e).toNat) 0) := by
    unfold floatToIntVal; rw [hi]; simp only; rw [if_pos hr2]
  refine ⟨?_, ?_, hq⟩
  · show (floatToIntVal .f64 r .i64).isSome = true
    rw [hv]; rfl
  · show (floatToIntVal .f64 r .i64).getD 0 = _
    rw [hv]; rfl

theorem trunc_small {x : F64} {s : Bool} {m : Nat} {e : Int} (h : Num x s m e) (he : e < 0) : whole .zero x + zero = ki (toI x .i64) := by
  obtain ⟨h1, h2, hq⟩ := toI_num h he
  have e1 : e.toNat = 0 := by omega
  have hw := whole_num h
  rw [e1, Nat.shiftLeft_zero, cut_down] at hw
  rw [hw, h2]
  generalize m / 2 ^ (-e).toNat = q at hq
  obtain ⟨j, hj⟩ := num_near s (m := q) (e := 0) (by omega) (by omega) (by omega)
  have hk : ki (signed s q 0) = bx (double.nearest (decide (signed s q 0 < 0)) (signed s q 0).natAbs 0) := rfl
  by_cases h0 : q = 0
  · subst h0
    rw [Nat.zero_mul] at hj
    rw [hj.add_zero0]
    cases s <;> rfl
  · rw [hj.add_zero (Nat.mul_ne_zero h0 (by have := Nat.two_pow_pos j; omega)), near_scale, hk, signed_natAbs]
    have : decide (signed s q 0 < 0) = s := by
      rw [signed_eq]; cases s <;> simp; omega
    rw [this, Nat.pow_zero, Nat.mul_one]

end Go.Proofs.Ytlpahmefebgdlaa.Fx
/- The sine, two ways; halves; finite numbers. No condition. -/
namespace Go.Proofs.Ytlpahmefebgdlaa.Fx
open Go Nr Ieee

theorem cmp_gt (a b : Int) : (some (compare a b) == some Ordering.gt) = decide (b < a) := by
  show (some (compareOfLessAndEq a b) == some Ordering.gt) = _
  unfold compareOfLessAndEq
  split
  · simp; omega
  · split <;> simp <;> omega
theorem cmp_lt (a b : Int) : (some (compare a b) == some Ordering.lt) = decide (a < b) := by
  show (some (compareOfLessAndEq a b) == some Ordering.lt) = _
  unfold compareOfLessAndEq
  split
  · simp; omega
  · split <;> simp <;> omega
theorem cmp_eq (a b : Int) : (some (compare a b) == some Ordering.eq) = decide (a = b) := by
  show (some (compareOfLessAndEq a b) == some Ordering.eq) = _
  unfold compareOfLessAndEq
  split
  · simp; omega
  · split <;> simp <;> omega

theorem Num.ord {x y : F64} {s t : Bool} {m n : Nat} {i j : Int} (hx : Num x s m i) (hy : Num y t n j) : Fx.ord x y = some (compare (signed s m (i - min i j).toNat) (signed t n (j - min i j).toNat)) := by
  obtain ⟨r, rfl, hr⟩ := hx
  obtain ⟨q, rfl, hq⟩ := hy
  rw [ord_some, hr, hq]; rfl

theorem num_six52 : Num six52 false (2 ^ 52) 0 := ⟨_, rfl, by decide⟩
theorem num_m52 : Num m52 true (2 ^ 52) 0 := ⟨_, rfl, by decide⟩

/-- The test for great numbers tells the place. -/
theorem test_big {x : F64} {s : Bool} {m : Nat} {e : Int} (h : Num x s m e) : (ge x six52 || le x m52) = decide (0 ≤ e) := by
  obtain ⟨h1, h2, h3⟩ := h.bound
  unfold ge le
  rw [h.ord num_six52, h.ord num_m52]
  simp only [cmp_gt, cmp_eq, cmp_lt, signed_eq]
  by_cases he : 0 ≤ e
  · obtain ⟨k, rfl⟩ := Int.eq_ofNat_of_zero_le he
    have hn := h.normal (by omega)
    have e1 : ((k : Int) - min (k : Int) 0).toNat = k := by omega
    have e2 : ((0 : Int) - min (k : Int) 0).toNat = 0 := by omega
    rw [e1, e2]
    have hz : 2 ^ 52 ≤ m * 2 ^ k := Nat.le_trans hn (Nat.le_mul_of_pos_right _ (Nat.two_pow_pos _))
    generalize m * 2 ^ k = z at hz
    cases s <;> simp <;> omega
  · have e1 : (e - min e 0).toNat = 0 := by omega
    obtain ⟨k, hk⟩ : ∃ k, ((0 : Int) - min e 0).toNat = k + 1 := ⟨(0 - min e 0).toNat - 1, by omega⟩
    rw [e1, hk]
    have hz : m < 2 ^ 52 * 2 ^ (k + 1) := by
      rw [Nat.pow_succ 2 k]
      have := Nat.two_pow_pos k
      omega
    rw [Nat.pow_zero, Nat.mul_one]
    generalize 2 ^ 52 * 2 ^ (k + 1) = z at hz
    cases s <;> simp [he] <;> omega

theorem inf_sub {r : Nat} {s : Bool} (h : double.read r = .infinity s) : bx r - bx r = nn := by
  rw [sub_some, h]; cases s <;> rfl
theorem nan_sub {r : Nat} {s : Bool} {f : Nat} (h : double.read r = .nan s f) (y : F64) : bx r - y = nn := by
  cases y with
  | none => rfl
  | some q => rw [show (some q : Option Nat) = bx q from rfl, sub_some, h]; rfl

def sineS (y : F64) : F64 := bif ne (y - y) zero then nn else bif ge y six52 || le y m52 then zero else
  sineF (bif lt (y - ki (toI y .i64)) zero then y - ki (toI y .i64) + one else y - ki (toI y .i64))

theorem sineF_none : sineF nn = nn := by kernel_rfl
theorem sineF_zero : sineF zero = zero := by kernel_rfl

/-- The two ways to a sine agree. -/
theorem sine_eq (y : F64) : sineS y = sine y := by
  have hnan : behind y = nn → y - y = nn → sineS y = sine y := by
    intro h1 h2
    unfold sineS sine
    rw [h1, h2, sineF_none]
    rfl
  rcases num_cases y with ⟨s, m, e, h⟩ | ⟨r, s, rfl, h⟩ | rfl | ⟨r, s, f, rfl, h⟩
  · unfold sineS
    rw [test_big h, h.sub_self]
    have : ne zero zero = false := by kernel_rfl
    rw [this]
    by_cases he : 0 ≤ e
    · have e1 : decide (0 ≤ e) = true := by simpa using he
      have e2 : behind y = zero := by
        unfold behind
        rw [trunc_big h he]
        kernel_rfl
      rw [e1]
      unfold sine
      rw [e2, sineF_zero]; rfl
    · have e1 : decide (0 ≤ e) = false := by simpa using he
      rw [e1]
      unfold sine behind
      rw [trunc_small h (by omega)]; rfl
  · refine hnan ?_ (inf_sub h)
    have hd : FloatKind.f64.decode r = .infinity s := h
    have hw : whole .zero (bx r) = bx (double.word s double.infRung) := by
      simp only [whole, hd]; rfl
    have hz : bx r - (whole .zero (bx r) + zero) = nn := by
      rw [hw]
      have h2 : bx (double.word s double.infRung) + zero = bx (double.word s double.infRung) := by cases s <;> kernel_rfl
      rw [h2, sub_some, h]
      have h3 : double.read (double.word s double.infRung) = .infinity s := by cases s <;> decide
      rw [h3]; cases s <;> rfl
    unfold behind
    rw [hz]; rfl
  · exact hnan rfl rfl
  · refine hnan ?_ (nan_sub h _)
    unfold behind
    rw [nan_sub h]; rfl

theorem sine_isI {y : F64} (h1 : ne (y - y) zero = false) (h2 : (ge y six52 || le y m52) = false) : isI y .i64 = true := by
  rcases num_cases y with ⟨s, m, e, h⟩ | ⟨r, s, rfl, h⟩ | rfl | ⟨r, s, f, rfl, h⟩
  · rw [test_big h] at h2
    exact (toI_num h (by simpa using h2)).1
  · rw [inf_sub h] at h1; cases h1
  · cases h1
  · rw [nan_sub h] at h1; cases h1

-- halves
theorem num_half : Num half false (2 ^ 52) (-53) := ⟨_, rfl, by decide⟩
theorem num_two : Num two false (2 ^ 52) (-51) := ⟨_, rfl, by decide⟩

theorem half_num {x : F64} {s : Bool} {m : Nat} {e : Int} (h : Num x s m e) : half * x = bx (double.nearest s m (e - 1)) := by
  obtain ⟨r, rfl, hr⟩ := h
  obtain ⟨q, hq, hq2⟩ := num_half
  rw [hq, mul_some, hq2, hr]
  have : (((Datum.number false (2 ^ 52) (-53)).product (Datum.number s m e)).map double.write : Option Nat) = some (double.nearest (false ^^ s) (2 ^ 52 * m) (-53 + e)) := rfl
  rw [this, Bool.false_xor, Nat.mul_comm]
  have h2 := near_scale s m 52 (e - 1)
  rw [← h2]; congr 2; omega

theorem over_num {x : F64} {s : Bool} {m : Nat} {e : Int} (h : Num x s m e) : x / two = bx (double.nearest s m (e - 1)) := by
  obtain ⟨h1, h2, h3⟩ := h.bound
  obtain ⟨r, rfl, hr⟩ := h
  obtain ⟨q, hq, hq2⟩ := num_two
  rw [hq, div_some, hq2, hr]
  have hl : (2 ^ 52 : Nat).log2 = 52 := by decide
  have : (((Datum.number s m e).quotient 54 (Datum.number false (2 ^ 52) (-51))).map double.write : Option Nat) =
      some (double.nearest (s ^^ false) (2 * ((m <<< (54 + 52 - m.log2)) / 2 ^ 52) + (((m <<< (54 + 52 - m.log2)) % 2 ^ 52) != 0).toNat) (e - -51 - ((54 + 52 - m.log2 : Nat) : Int) - 1)) := by
    rw [← hl]
    rfl
  rw [this, Bool.xor_false]
  by_cases hm : m = 0
  · subst hm
    simp [Nat.shiftLeft_eq, nearest_zero]
    rfl
  · have hlog : m.log2 ≤ 52 := by
      have h5 : 2 ^ m.log2 < 2 ^ 53 := Nat.lt_of_le_of_lt (Nat.log2_self_le hm) h1
      have := (Nat.pow_lt_pow_iff_right (by decide)).1 h5
      omega
    obtain ⟨k, hk⟩ : ∃ k, 54 + 52 - m.log2 = k + 52 := ⟨54 - m.log2, by omega⟩
    rw [hk, Nat.shiftLeft_eq, Nat.pow_add, ← Nat.mul_assoc, Nat.mul_div_cancel _ (by decide), Nat.mul_mod_left]
    have h5 := near_scale s m (k + 1) (e - 1)
    rw [← h5]
    have e3 : 2 * (m * 2 ^ k) + ((0 : Nat) != 0).toNat = m * 2 ^ (k + 1) := by
      have e0 : ((0 : Nat) != 0).toNat = 0 := rfl
      rw [e0, Nat.add_zero, Nat.pow_succ, ← Nat.mul_assoc m, Nat.mul_comm 2]
    rw [e3]
    have e4 : e - -51 - ((k + 52 : Nat) : Int) - 1 = e - 1 - ((k + 1 : Nat) : Int) := by omega
    rw [e4]

theorem half_eq (x : F64) : half * x = x / two := by
  rcases num_cases x with ⟨s, m, e, h⟩ | ⟨r, s, rfl, h⟩ | rfl | ⟨r, s, f, rfl, h⟩
  · rw [half_num h, over_num h]
  · obtain ⟨q, hq, hq2⟩ := num_half
    obtain ⟨q', hq', hq2'⟩ := num_two
    rw [hq, hq', mul_some, div_some, hq2, hq2', h]
    cases s <;> rfl
  · rfl
  · obtain ⟨q, hq, hq2⟩ := num_half
    obtain ⟨q', hq', hq2'⟩ := num_two
    rw [hq, hq', mul_some, div_some, hq2, hq2', h]
    rfl

end Go.Proofs.Ytlpahmefebgdlaa.Fx
/- Finite numbers of 32 bits, bounds, and narrowing. No condition. -/
namespace Go.Proofs.Ytlpahmefebgdlaa.Fx
open Go Nr Ieee

abbrev sx (r : Nat) : F32 := some r
abbrev sn : F32 := none

/-- A 32-bit float that is a number. -/
def NumS (x : F32) (s : Bool) (m : Nat) (e : Int) : Prop := ∃ r, x = sx r ∧ single.read r = .number s m e

theorem NumS.bound {x : F32} {s : Bool} {m : Nat} {e : Int} (h : NumS x s m e) : m < 2 ^ 24 ∧ -149 ≤ e ∧ e ≤ 104 := by
  obtain ⟨r, rfl, hr⟩ := h
  obtain ⟨h1, h2, h3⟩ := read_number hr
  have e1 : single.leastPlace = -149 := by decide
  have e2 : (2 ^ single.exponentBits - 3 : Nat) = 253 := by decide
  exact ⟨h1, by omega, by omega⟩

theorem numS_cases (x : F32) : (∃ s m e, NumS x s m e) ∨ (∃ r s, x = sx r ∧ single.read r = .infinity s) ∨ (x = sn ∨ ∃ r s f, x = sx r ∧ single.read r = .nan s f) := by
  cases x with
  | none => exact .inr (.inr (.inl rfl))
  | some r =>
    cases h : single.read r with
    | number s m e => exact .inl ⟨s, m, e, r, rfl, h⟩
    | infinity s => exact .inr (.inl ⟨r, s, rfl, h⟩)
    | nan s f => exact .inr (.inr (.inr ⟨r, s, f, rfl, h⟩))

theorem sub_someS (a b : Nat) : sx a - sx b = (((single.read a).sum (single.read b).opposite).map single.write : Option Nat) := rfl

theorem NumS.sub_self {x : F32} {s : Bool} {m : Nat} {e : Int} (h : NumS x s m e) : x - x = c32 0 := by
  obtain ⟨r, rfl, hr⟩ := h
  rw [sub_someS, hr]
  have : (((Datum.number s m e).sum (Datum.number s m e).opposite).map single.write : Option Nat) = some (single.nearest (if signed s m (e - min e e).toNat + signed (!s) m (e - min e e).toNat = 0 then s && !s else signed s m (e - min e e).toNat + signed (!s) m (e - min e e).toNat < 0)
    (signed s m (e - min e e).toNat + signed (!s) m (e - min e e).toNat).natAbs (min e e)) := rfl
  rw [this]
  have h0 : signed s m (e - min e e).toNat + signed (!s) m (e - min e e).toNat = 0 := by
    rw [signed_eq, signed_eq]; cases s <;> simp <;> omega
  rw [h0]
  cases s <;> rfl

theorem NumS.fin {x : F32} {s : Bool} {m : Nat} {e : Int} (h : NumS x s m e) : finS x = true := by
  unfold finS; rw [h.sub_self]; kernel_rfl

theorem widen_numS {x : F32} {s : Bool} {m : Nat} {e : Int} (h : NumS x s m e) : ∃ j : Nat, Num (widen x) s (m * 2 ^ j) (e - j) := by
  obtain ⟨h1, h2, h3⟩ := h.bound
  obtain ⟨r, rfl, hr⟩ := h
  obtain ⟨j, q, hq, hj⟩ := num_near s (m := m) (e := e) (by omega) (by omega) (by omega)
  refine ⟨j, double.nearest s m e, ?_, ?_⟩
  · have hd : FloatKind.f32.decode r = .number s m e := hr
    have hd2 : FloatKind.f64.decode (FloatKind.f64.encode (.number s m e)) = .number s (m * 2 ^ j) (e - j) := by cases hq; exact hj
    show floatToFloatBits .f32 r .f64 = _
    unfold floatToFloatBits
    rw [if_neg (by decide)]
    simp only [hd, hd2]
    rfl
  · cases hq; exact hj

theorem fabs_num {x : F64} {s : Bool} {m : Nat} {e : Int} (h : Num x s m e) : Num (fabs x) false m e := by
  obtain ⟨r, rfl, hr⟩ := h
  refine ⟨r % 2 ^ 63, rfl, ?_⟩
  have es : double.signWeight = 2 ^ 63 := by decide
  unfold Format.read at hr ⊢
  rw [es] at hr ⊢
  have e1 : r % 2 ^ 63 / 2 ^ 63 = 0 := Nat.div_eq_of_lt (Nat.mod_lt _ (by decide))
  rw [e1, Nat.mod_mod]
  dsimp only at hr ⊢
  split
  · rename_i h1; rw [if_pos h1] at hr; cases hr; rfl
  · rename_i h1
    rw [if_neg h1] at hr
    split
    · rename_i h2; rw [if_pos h2] at hr; cases hr; rfl
    · rename_i h2
      rw [if_neg h2] at hr
      split at hr <;> cases hr

theorem num_max : Num (c64 9218868437227405311) false (2 ^ 53 - 1) 971 := ⟨_, rfl, by decide⟩

theorem ne_self {x : F64} {s : Bool} {m : Nat} {e : Int} (h : Num x s m e) : ne x x = false := by
  unfold ne
  rw [h.ord h]
  show (!(_ == _)) = false
  rw [cmp_eq]; simp

theorem finite_num {x : F64} {s : Bool} {m : Nat} {e : Int} (h : Num x s m e) : finite x = true := by
  obtain ⟨h1, h2, h3⟩ := h.bound
  unfold finite isInf gt
  rw [ne_self h, (fabs_num h).ord num_max, cmp_gt, signed_eq, signed_eq]
  have e1 : (e - min e 971).toNat = 0 := by omega
  rw [e1]
  have : (2 ^ 53 - 1) * 1 ≤ (2 ^ 53 - 1) * 2 ^ ((971 : Int) - min e 971).toNat := Nat.mul_le_mul_left _ (Nat.two_pow_pos _)
  generalize (2 ^ 53 - 1) * 2 ^ ((971 : Int) - min e 971).toNat = z at this
  simp
  omega

/-- Two ways to tell a finite number. -/
theorem fin_eq (x : F32) : isFinite x = finS x := by
  rcases numS_cases x with ⟨s, m, e, h⟩ | ⟨r, s, rfl, h⟩ | rfl | ⟨r, s, f, rfl, h⟩
  · obtain ⟨j, hj⟩ := widen_numS h
    rw [h.fin]; exact finite_num hj
  · have hd : FloatKind.f32.decode r = .infinity s := h
    have hw : widen (sx r) = bx (double.word s double.infRung) := by
      show floatToFloatBits .f32 r .f64 = _
      unfold floatToFloatBits
      rw [if_neg (by decide)]
      simp only [hd]
      rfl
    have hf : finS (sx r) = false := by
      unfold finS
      rw [sub_someS, h]; cases s <;> rfl
    have hk : ∀ s, finite (bx (double.word s double.infRung)) = false := by intro s; cases s <;> kernel_rfl
    unfold isFinite
    rw [hf, hw, hk]
  · rfl
  · have hd : FloatKind.f32.decode r = .nan s f := h
    have hw : widen (sx r) = nn := by
      show floatToFloatBits .f32 r .f64 = _
      unfold floatToFloatBits
      rw [if_neg (by decide)]
      simp only [hd]
    have hf : finS (sx r) = false := by
      unfold finS
      rw [sub_someS, h]; rfl
    unfold isFinite
    rw [hf, hw]; rfl

theorem fin_num {x : F32} (h : finS x = true) : ∃ s m e, NumS x s m e := by
  rcases numS_cases x with h' | ⟨r, s, rfl, h'⟩ | rfl | ⟨r, s, f, rfl, h'⟩
  · exact h'
  · unfold finS at h; rw [sub_someS, h'] at h; cases s <;> cases h
  · cases h
  · unfold finS at h; rw [sub_someS, h'] at h; cases h

-- bounds
/-- At most a power of two. -/
def Up (E : Int) (x : F64) : Prop := ∃ s m e, Num x s m e ∧ Le2 m e E

theorem le2_mono {m : Nat} {e E F : Int} (h : Le2 m e E) (hf : E ≤ F) : Le2 m e F := by
  rcases h with h | ⟨h1, h2⟩
  · exact .inl h
  · exact .inr ⟨by omega, Nat.le_trans h2 (Nat.pow_le_pow_right (by decide) (by omega))⟩

theorem Up.mono {E F : Int} {x : F64} (h : Up E x) (hf : E ≤ F) : Up F x := by
  obtain ⟨s, m, e, h1, h2⟩ := h
  exact ⟨s, m, e, h1, le2_mono h2 hf⟩

theorem num_word (s : Bool) {m : Nat} {e E : Int} (h : Le2 m e E) (h1 : -1022 ≤ E) (h2 : E ≤ 1023) : ∃ m' e', Num (bx (double.nearest s m e)) s m' e' ∧ Le2 m' e' E := by
  have e1 : double.leastPlace = -1074 := by decide
  have e2 : double.fractionBits = 52 := rfl
  have e3 : double.infRung = 2047 * 2 ^ 52 := by decide
  have e4 : double.signWeight = 2048 * 2 ^ 52 := by decide
  have e5 : double.binade = 2 ^ 52 := by decide
  obtain ⟨r, hr, hr1, hr2⟩ := nearest_le double s (by rw [e1, e2]; omega) h
  have hlt : r < double.infRung := by
    refine Nat.lt_of_le_of_lt hr1 ?_
    unfold rungPow
    rw [e1, e2, e3, e5]
    exact Nat.mul_lt_mul_of_pos_right (by omega) (by decide)
  obtain ⟨m', e', hm, hl⟩ := readRung_le double s (by rw [e1, e2]; omega) hr1 hlt
  exact ⟨m', e', ⟨_, rfl, by rw [hr, read_word double s (by omega), hm]⟩, hl⟩

theorem addW_le {s t : Bool} {m n : Nat} {i j E : Int} (h : Le2 m i E) (k : Le2 n j E) : Le2 (signed s m (i - min i j).toNat + signed t n (j - min i j).toNat).natAbs (min i j) (E + 1) := by
  have hn : (signed s m (i - min i j).toNat + signed t n (j - min i j).toNat).natAbs ≤ m * 2 ^ (i - min i j).toNat + n * 2 ^ (j - min i j).toNat := by
    have := Int.natAbs_add_le (signed s m (i - min i j).toNat) (signed t n (j - min i j).toNat)
    rw [signed_natAbs, signed_natAbs] at this
    exact this
  have one : ∀ {m : Nat} {i b E : Int}, Le2 m i E → b ≤ i → b ≤ E → m * 2 ^ (i - b).toNat ≤ 2 ^ (E - b).toNat := by
    intro m i b E h hb hE
    rcases h with rfl | ⟨h1, h2⟩
    · simp
    · refine Nat.le_trans (Nat.mul_le_mul_right _ h2) ?_
      rw [← Nat.pow_add]
      exact Nat.pow_le_pow_right (by decide) (by omega)
  by_cases hE : min i j ≤ E
  · refine .inr ⟨by omega, Nat.le_trans hn ?_⟩
    have a := one h (Int.min_le_left i j) hE
    have b := one k (Int.min_le_right i j) hE
    have e1 : (E + 1 - min i j).toNat = (E - min i j).toNat + 1 := by omega
    rw [e1, Nat.pow_succ]
    omega
  · refine .inl ?_
    have hm : m = 0 := by rcases h with h | ⟨h1, _⟩; exact h; omega
    have hn0 : n = 0 := by rcases k with h | ⟨h1, _⟩; exact h; omega
    subst hm hn0
    omega

theorem Up.add {E : Int} {x y : F64} (hx : Up E x) (hy : Up E y) (h1 : -1023 ≤ E) (h2 : E ≤ 1022) : Up (E + 1) (x + y) := by
  obtain ⟨s, m, i, hx, hm⟩ := hx
  obtain ⟨t, n, j, hy, hn⟩ := hy
  rw [hx.add hy]
  obtain ⟨m', e', h3, h4⟩ := num_word (if signed s m (i - min i j).toNat + signed t n (j - min i j).toNat = 0 then s && t else signed s m (i - min i j).toNat + signed t n (j - min i j).toNat < 0) (addW_le (s := s) (t := t) hm hn) (by omega) (by omega)
  exact ⟨_, _, _, h3, h4⟩

theorem Up.sub {E : Int} {x y : F64} (hx : Up E x) (hy : Up E y) (h1 : -1023 ≤ E) (h2 : E ≤ 1022) : Up (E + 1) (x - y) := by
  obtain ⟨s, m, i, hx, hm⟩ := hx
  obtain ⟨t, n, j, hy, hn⟩ := hy
  rw [hx.sub hy]
  obtain ⟨m', e', h3, h4⟩ := num_word (if signed s m (i - min i j).toNat + signed (!t) n (j - min i j).toNat = 0 then s && !t else signed s m (i - min i j).toNat + signed (!t) n (j - min i j).toNat < 0) (addW_le (s := s) (t := !t) hm hn) (by omega) (by omega)
  exact ⟨_, _, _, h3, h4⟩

theorem Up.half {E : Int} {x : F64} (hx : Up E x) (h1 : -1021 ≤ E) (h2 : E ≤ 1024) : Up (E - 1) (x / two) := by
  obtain ⟨s, m, i, hx, hm⟩ := hx
  rw [over_num hx]
  obtain ⟨m', e', h3, h4⟩ := num_word s (m := m) (e := i - 1) (E := E - 1) (by
    rcases hm with h | ⟨h, h'⟩
    · exact .inl h
    · refine .inr ⟨by omega, ?_⟩
      have : (E - 1 - (i - 1)).toNat = (E - i).toNat := by omega
      rw [this]; exact h') (by omega) (by omega)
  exact ⟨_, _, _, h3, h4⟩

theorem Up.mul {E F : Int} {x y : F64} (hx : Up E x) (hy : Up F y) (h1 : -1022 ≤ E + F) (h2 : E + F ≤ 1023) : Up (E + F) (x * y) := by
  obtain ⟨s, m, i, ⟨r, rfl, hr⟩, hm⟩ := hx
  obtain ⟨t, n, j, ⟨q, rfl, hq⟩, hn⟩ := hy
  rw [mul_some, hr, hq]
  obtain ⟨m', e', h3, h4⟩ := num_word (s ^^ t) (m := m * n) (e := i + j) (E := E + F) (by
    rcases hm with h | ⟨h, h'⟩
    · exact .inl (by rw [h, Nat.zero_mul])
    · rcases hn with k | ⟨k, k'⟩
      · exact .inl (by rw [k, Nat.mul_zero])
      · refine .inr ⟨by omega, Nat.le_trans (Nat.mul_le_mul h' k') ?_⟩
        rw [← Nat.pow_add]
        exact Nat.pow_le_pow_right (by decide) (by omega)) h1 h2
  exact ⟨_, _, _, h3, h4⟩

/-- At least a power of two, of a normal number. -/
def Lo (L : Int) (y : F64) : Prop := ∃ t n j, Num y t n j ∧ 2 ^ 52 ≤ n ∧ L = j + 52

theorem Up.div {E L : Int} {x y : F64} (hx : Up E x) (hy : Lo L y) (h1 : -1022 ≤ E - L + 1) (h2 : E - L + 1 ≤ 1023) : Up (E - L + 1) (x / y) := by
  obtain ⟨s, m, i, hx, hm⟩ := hx
  obtain ⟨t, n, j, hy, hn, rfl⟩ := hy
  obtain ⟨b1, b2, b3⟩ := hx.bound
  obtain ⟨c1, c2, c3⟩ := hy.bound
  obtain ⟨r, rfl, hr⟩ := hx
  obtain ⟨q, rfl, hq⟩ := hy
  have hn0 : n ≠ 0 := by have : 0 < 2 ^ 52 := by decide
                         omega
  have hl : n.log2 = 52 := (Nat.log2_eq_iff hn0).2 ⟨hn, c1⟩
  rw [div_some, hr, hq]
  have : (((Datum.number s m i).quotient 54 (Datum.number t n j)).map double.write : Option Nat) =
      some (double.nearest (s ^^ t) (2 * ((m <<< (54 + n.log2 - m.log2)) / n) + (((m <<< (54 + n.log2 - m.log2)) % n) != 0).toNat) (i - j - ((54 + n.log2 - m.log2 : Nat) : Int) - 1)) := by
    simp only [Datum.quotient, if_neg hn0]; rfl
  rw [this, hl]
  have hle : Le2 (2 * ((m <<< (54 + 52 - m.log2)) / n) + (((m <<< (54 + 52 - m.log2)) % n) != 0).toNat) (i - j - ((54 + 52 - m.log2 : Nat) : Int) - 1) (E - (j + 52) + 1) := by
    by_cases h0 : m = 0
    · subst h0
      left; simp [Nat.shiftLeft_eq]
    · obtain ⟨g1, g2⟩ := hm.resolve_left h0
      have hlog : m.log2 ≤ 52 := by
        have h5 : 2 ^ m.log2 < 2 ^ 53 := Nat.lt_of_le_of_lt (Nat.log2_self_le h0) b1
        have := (Nat.pow_lt_pow_iff_right (by decide)).1 h5
        omega
      obtain ⟨k, hk⟩ : ∃ k, 54 + 52 - m.log2 = k + 52 := ⟨54 - m.log2, by omega⟩
      rw [hk, Nat.shiftLeft_eq]
      right
      refine ⟨by omega, ?_⟩
      have hd : m * 2 ^ (k + 52) / n ≤ 2 ^ (E - i).toNat * 2 ^ k := by
        refine Nat.div_le_of_le_mul ?_
        rw [Nat.pow_add, ← Nat.mul_assoc, Nat.mul_comm n]
        exact Nat.mul_le_mul (Nat.mul_le_mul_right _ g2) hn
      have e1 : (E - (j + 52) + 1 - (i - j - ((k + 52 : Nat) : Int) - 1)).toNat = (E - i).toNat + k + 2 := by omega
      have e6 : 2 ^ ((E - i).toNat + k + 2) = 2 ^ (E - i).toNat * 2 ^ k * 4 := by rw [Nat.pow_add, Nat.pow_add]
      rw [e1, e6]
      have hb : ((m * 2 ^ (k + 52) % n) != 0).toNat ≤ 1 := Bool.toNat_le _
      have hpos : 1 ≤ 2 ^ (E - i).toNat * 2 ^ k := Nat.mul_pos (Nat.two_pow_pos _) (Nat.two_pow_pos _)
      generalize 2 ^ (E - i).toNat * 2 ^ k = z at hd hpos ⊢
      omega
  obtain ⟨m', e', h3, h4⟩ := num_word (s ^^ t) hle h1 h2
  exact ⟨_, _, _, h3, h4⟩

theorem narrow_num {x : F64} {s : Bool} {m : Nat} {e : Int} (h : Num x s m e) {r : Nat} (hr : single.nearest s m e = single.word s r) (hi : r < single.infRung) : fits x = true ∧ finS (narrow x) = true := by
  obtain ⟨q, rfl, hq⟩ := h
  have hd : FloatKind.f64.decode q = .number s m e := hq
  have e3 : single.infRung = 255 * 2 ^ 23 := by decide
  have e4 : single.signWeight = 256 * 2 ^ 23 := by decide
  have hread : ∃ m' e', single.read (single.word s r) = .number s m' e' := by
    rw [read_word single s (by omega)]
    unfold readRung
    split
    · exact ⟨_, _, rfl⟩
    · first | exact ⟨_, _, rfl⟩ | (rw [if_pos hi]; exact ⟨_, _, rfl⟩)
  obtain ⟨m', e', hm⟩ := hread
  have hn : FloatKind.f32.encode (.number s m e) = single.word s r := hr
  have hm2 : FloatKind.f32.decode (single.word s r) = .number s m' e' := hm
  refine ⟨?_, ?_⟩
  · simp only [fits, hd, hn, hm2]; rfl
  · have : narrow (bx q) = sx (single.word s r) := by simp only [narrow, hd, hn]; rfl
    rw [this]
    exact NumS.fin ⟨_, rfl, hm⟩

/-- Numbers of a moderate size are narrowed to numbers. -/
theorem Up.narrow {x : F64} (h : Up 127 x) : fits x = true ∧ finS (Fx.narrow x) = true := by
  obtain ⟨s, m, e, hx, hm⟩ := h
  have e1 : single.leastPlace = -149 := by decide
  have e2 : single.fractionBits = 23 := rfl
  have e3 : single.infRung = 255 * 2 ^ 23 := by decide
  have e5 : single.binade = 2 ^ 23 := by decide
  obtain ⟨r, hr, hr1, _⟩ := nearest_le single s (E := 127) (by rw [e1, e2]; omega) hm
  refine narrow_num hx hr ?_
  refine Nat.lt_of_le_of_lt hr1 ?_
  unfold rungPow
  rw [e1, e2, e3, e5]
  exact Nat.mul_lt_mul_of_pos_right (by omega) (by decide)

/-- A 32-bit number less a small one is narrowed to a number. -/
theorem near_narrow {x : F32} {y : F64} (hx : finS x = true) (hy : Up 73 y) : fits (widen x - y) = true ∧ finS (narrow (widen x - y)) = true := by
  obtain ⟨s, m, e, hx⟩ := fin_num hx
  obtain ⟨b1, b2, b3⟩ := hx.bound
  obtain ⟨j, hw⟩ := widen_numS hx
  obtain ⟨t, n, i, hy, hn⟩ := hy
  obtain ⟨c1, c2, c3⟩ := hy.bound
  obtain ⟨g1, g2, g3⟩ := hw.bound
  have e1 : double.leastPlace = -1074 := by decide
  have e2 : double.fractionBits = 52 := rfl
  have e3 : double.infRung = 2047 * 2 ^ 52 := by decide
  have e4 : double.signWeight = 2048 * 2 ^ 52 := by decide
  have e5 : double.binade = 2 ^ 52 := by decide
  rw [hw.sub hy]
  unfold addW
  obtain ⟨sg, hsg⟩ : ∃ sg, sg = (if signed s (m * 2 ^ j) (e - j - min (e - j) i).toNat + signed (!t) n (i - min (e - j) i).toNat = 0 then s && !t else decide (signed s (m * 2 ^ j) (e - j - min (e - j) i).toNat + signed (!t) n (i - min (e - j) i).toNat < 0)) := ⟨_, rfl⟩
  rw [← hsg]
  have hT : (signed s (m * 2 ^ j) (e - j - min (e - j) i).toNat + signed (!t) n (i - min (e - j) i).toNat).natAbs ≤ m * 2 ^ (e - min (e - j) i).toNat + n * 2 ^ (i - min (e - j) i).toNat := by
    have := Int.natAbs_add_le (signed s (m * 2 ^ j) (e - j - min (e - j) i).toNat) (signed (!t) n (i - min (e - j) i).toNat)
    rw [signed_natAbs, signed_natAbs, Nat.mul_assoc, ← Nat.pow_add] at this
    have e9 : j + (e - j - min (e - j) i).toNat = (e - min (e - j) i).toNat := by omega
    rw [e9] at this
    exact this
  generalize (signed s (m * 2 ^ j) (e - j - min (e - j) i).toNat + signed (!t) n (i - min (e - j) i).toNat).natAbs = T at hT
  obtain ⟨b, hb⟩ : ∃ b, b = min (e - (j : Int)) i := ⟨_, rfl⟩
  rw [← hb] at hT ⊢
  have hmb : m * 2 ^ (e - b).toNat ≤ (2 ^ 24 - 1) * 2 ^ (104 - b).toNat := Nat.mul_le_mul (by omega) (Nat.pow_le_pow_right (by decide) (by omega))
  have key : 2 * T * 2 ^ (b - 75).toNat < (2 * ((2 ^ 24 - 1) * 2 ^ 29) + 1) * 2 ^ (75 - b).toNat := by
    by_cases hb75 : b ≤ 75
    · have a1 : (b - 75).toNat = 0 := by omega
      have a2 : (104 - b).toNat = 29 + (75 - b).toNat := by omega
      rw [a1, Nat.pow_zero, Nat.mul_one]
      rw [a2, Nat.pow_add, ← Nat.mul_assoc] at hmb
      have hnb : 2 * (n * 2 ^ (i - b).toNat) < 2 ^ (75 - b).toNat := by
        rcases hn with rfl | ⟨k1, k2⟩
        · rw [Nat.zero_mul]; exact Nat.two_pow_pos _
        · have a3 : (75 - b).toNat = (73 - i).toNat + (i - b).toNat + 2 := by omega
          rw [a3, Nat.pow_add, Nat.pow_add]
          have := Nat.mul_le_mul_right (2 ^ (i - b).toNat) k2
          have hp : 0 < 2 ^ (73 - i).toNat * 2 ^ (i - b).toNat := Nat.mul_pos (Nat.two_pow_pos _) (Nat.two_pow_pos _)
          generalize 2 ^ (73 - i).toNat * 2 ^ (i - b).toNat = z at this hp ⊢
          omega
      rw [Nat.add_mul, Nat.one_mul, Nat.mul_assoc 2]
      generalize (2 ^ 24 - 1) * 2 ^ 29 * 2 ^ (75 - b).toNat = z1 at hmb ⊢
      omega
    · have hn0 : n = 0 := by rcases hn with h | ⟨k1, k2⟩; exact h; omega
      subst hn0
      have a1 : (75 - b).toNat = 0 := by omega
      rw [a1, Nat.pow_zero, Nat.mul_one]
      have h5 : T * 2 ^ (b - 75).toNat ≤ (2 ^ 24 - 1) * 2 ^ 29 := by
        refine Nat.le_trans (Nat.mul_le_mul_right _ (Nat.le_trans hT (by rw [Nat.zero_mul, Nat.add_zero]; exact hmb))) ?_
        rw [Nat.mul_assoc, ← Nat.pow_add]
        exact Nat.mul_le_mul_left _ (Nat.pow_le_pow_right (by decide) (by omega))
      rw [Nat.mul_assoc]; omega
  obtain ⟨r, hr, hr1, _⟩ := nearest_lt double sg (mag := T) (c := (2 ^ 24 - 1) * 2 ^ 29) (place := b) (p := 75) (by rw [e2]; decide) (by rw [e2]; decide) (by rw [e1]; decide) key
  have hlt : r < double.infRung := by
    refine Nat.lt_of_le_of_lt hr1 ?_
    rw [e1, e3, e5]; decide
  obtain ⟨m', e', hm', he', hle⟩ := readRung_lt double sg (c := (2 ^ 24 - 1) * 2 ^ 29) (p := 75) (by rw [e2]; decide) (by rw [e2]; decide) (by rw [e1]; decide) hr1 hlt
  have hN : Num (bx (double.nearest sg T b)) sg m' e' := ⟨_, rfl, by rw [hr, read_word double sg (by omega), hm']⟩
  have f1 : single.leastPlace = -149 := by decide
  have f2 : single.fractionBits = 23 := rfl
  have f3 : single.infRung = 255 * 2 ^ 23 := by decide
  have f5 : single.binade = 2 ^ 23 := by decide
  have hle2 : m' * 2 ^ (e' - 104).toNat ≤ (2 ^ 24 - 1) * 2 ^ (104 - e').toNat := by
    by_cases h1 : e' ≤ 75
    · have a1 : (e' - 75).toNat = 0 := by omega
      have a2 : (e' - 104).toNat = 0 := by omega
      have a3 : (104 - e').toNat = 29 + (75 - e').toNat := by omega
      rw [a2, a3, Nat.pow_add, ← Nat.mul_assoc]
      rw [a1] at hle
      exact hle
    · have a1 : (75 - e').toNat = 0 := by omega
      rw [a1, Nat.pow_zero, Nat.mul_one] at hle
      by_cases h2 : e' ≤ 104
      · have a2 : (e' - 104).toNat = 0 := by omega
        rw [a2, Nat.pow_zero, Nat.mul_one]
        refine Nat.le_of_mul_le_mul_right (c := 2 ^ (e' - 75).toNat) ?_ (Nat.two_pow_pos _)
        rw [Nat.mul_assoc, ← Nat.pow_add]
        have a3 : (104 - e').toNat + (e' - 75).toNat = 29 := by omega
        rw [a3]; exact hle
      · have a2 : (104 - e').toNat = 0 := by omega
        rw [a2, Nat.pow_zero, Nat.mul_one]
        have a3 : (e' - 75).toNat = (e' - 104).toNat + 29 := by omega
        rw [a3, Nat.pow_add, ← Nat.mul_assoc] at hle
        exact Nat.le_of_mul_le_mul_right hle (by decide)
  obtain ⟨r2, hr2, hr3, _⟩ := nearest_lt single sg (mag := m') (c := 2 ^ 24 - 1) (place := e') (p := 104) (by rw [f2]; decide) (by rw [f2]; decide) (by rw [f1]; decide) (by
    rw [Nat.mul_assoc]
    have : 0 < 2 ^ (104 - e').toNat := Nat.two_pow_pos _
    rw [Nat.add_mul, Nat.mul_assoc 2]
    omega)
  refine narrow_num hN hr2 (Nat.lt_of_le_of_lt hr3 ?_)
  rw [f1, f3, f5]; decide

end Go.Proofs.Ytlpahmefebgdlaa.Fx
