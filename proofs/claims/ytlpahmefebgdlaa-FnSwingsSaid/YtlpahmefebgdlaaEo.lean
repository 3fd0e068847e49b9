/- The executor, fifth part: regions whose order is drawn. No condition. -/
import Derived.Test.YtlpahmefebgdlaaEl
import Derived.Still
namespace Go.Proofs.Ytlpahmefebgdlaa.Fx
open Go Go.RowKit

/-- The value of an operation that leaves the memory as it is. -/
def valA (P : Program) (E : List (Entry P)) (F : List AV) (M : List (List AC)) (op : Op) : Option AV :=
  match op with
  | .pick c x y => match evA F c with
    | .c (.sb b) => some (cond b (evA F x) (evA F y))
    | _ => none
  | op => match opA P E F M op with
    | some (true, v) => some v
    | _ => none

/-- What an operation of a region puts into its slot. -/
def stepV (P : Program) (E : List (Entry P)) (ops : Array Oper) (M : List (List AC)) (o : Oper) (F : List AV) : Option AV :=
  match o.guard with
  | none => valA P E F M o.op
  | some (j, want) =>
    match (ops[j]?).bind (·.dst) with
    | none => none
    | some d =>
      match F[d]? with
      | some (.c (.sb b)) => cond (b == want) (valA P E F M o.op) (some undefA)
      | some (.c (.val (.tuple _))) => some undefA
      | _ => none

theorem evA_put {F : List AV} {dst : Option Tmp} {v : AV} {x : Operand} (h : ∀ d, dst = some d → x ≠ .tmp d) : evA (putA F dst v) x = evA F x := by
  cases dst with
  | none => rfl
  | some d =>
    cases x with
    | tmp t =>
      have hne : d ≠ t := fun e => h d rfl (e ▸ rfl)
      simp only [evA, putA, List.getD_eq_getElem?_getD, List.getElem?_set_ne hne]
    | _ => rfl

theorem opA_congr {P : Program} {E : List (Entry P)} {F F' : List AV} {M : List (List AC)} (op : Op) (h : ∀ x ∈ op.operands, evA F x = evA F' x) : opA P E F M op = opA P E F' M op := by
  cases op <;> simp only [Op.operands] at h <;> simp only [opA]
  case build t ps =>
    have hp : ∀ l : List (Nat × Operand), (∀ x ∈ l, evA F x.2 = evA F' x.2) → partsA F l = partsA F' l := by
      intro l
      induction l with
      | nil => intro _; rfl
      | cons p l ih =>
        intro hl
        obtain ⟨i, x⟩ := p
        have h1 := hl (i, x) List.mem_cons_self
        have h2 := ih fun x hx => hl x (List.mem_cons_of_mem _ hx)
        simp only [partsA, h1, h2]
    rw [hp ps.toList fun x hx => h x.2 (by
      have : x ∈ ps := by simpa using hx
      simpa using ⟨x.1, this⟩)]
  case call c =>
    have hargs : c.args.toList.map (evA F) = c.args.toList.map (evA F') := List.map_congr_left fun x hx => h x (by simp [Call.operands, Array.mem_def.2 hx])
    cases hc : c.callee with
    | value f =>
      have hf : evA F f = evA F' f := h f (by simp [Call.operands, hc])
      simp only [hf, hargs]
    | invoke r m => rfl
    | builtin b =>
      have ha : ∀ x ∈ c.args.toList, evA F x = evA F' x := fun x hx => h x (by simp [Call.operands, Array.mem_def.2 hx])
      have : biA F b c.argTypes P c.args.toList = biA F' b c.argTypes P c.args.toList := by
        generalize c.args.toList = l at ha
        match l, ha with
        | [], _ => simp [biA]
        | [x], ha => have e := ha x (by simp); cases b <;> simp only [biA, e]
        | [x, y], ha => have e := ha x (by simp); have e2 := ha y (by simp); cases b <;> simp only [biA, e, e2]
        | x :: y :: z :: l, _ => simp [biA]
      have hm : mmA F b c.args.toList = mmA F' b c.args.toList := by
        clear this
        generalize c.args.toList = l at ha
        match l, ha with
        | [], _ => simp [mmA]
        | [x], _ => cases b <;> simp [mmA]
        | [x, y], ha => have e := ha x (by simp); have e2 := ha y (by simp); cases b <;> simp only [mmA, e, e2]
        | x :: y :: z :: l, _ => simp [mmA]
      simp only [this, hm]
  case slice t x lo hi mx =>
    have hx : evA F x = evA F' x := h x (by simp)
    cases lo with
    | none => rfl
    | some l =>
      have hl : evA F l = evA F' l := h l (by simp)
      cases hi with
      | some _ => rfl
      | none => cases mx with
        | some _ => rfl
        | none => simp only [hx, hl]
  all_goals (first | rfl | (simp_all; done))

theorem valA_congr {P : Program} {E : List (Entry P)} {F F' : List AV} {M : List (List AC)} (op : Op) (h : ∀ x ∈ op.operands, evA F x = evA F' x) : valA P E F M op = valA P E F' M op := by
  have ho := opA_congr (P := P) (E := E) (M := M) op h
  cases op <;> simp only [valA, ho]
  case pick c x y =>
    simp only [Op.operands] at h
    rw [h c (by simp), h x (by simp), h y (by simp)]

theorem stepV_put {P : Program} {E : List (Entry P)} {ops : Array Oper} {M : List (List AC)} {o : Oper} {F : List AV} {dst : Option Tmp} {v : AV} (h : ∀ d, dst = some d → d ∉ o.looksAt ops) : stepV P E ops M o (putA F dst v) = stepV P E ops M o F := by
  have hv : valA P E (putA F dst v) M o.op = valA P E F M o.op := valA_congr o.op fun x hx => evA_put fun d hd hxd => h d hd (by
    subst hxd
    exact List.mem_append_left _ (List.mem_filterMap.2 ⟨.tmp d, by simpa using hx, rfl⟩))
  unfold stepV
  rw [hv]
  cases hg : o.guard with
  | none => rfl
  | some gw =>
    obtain ⟨j, want⟩ := gw
    cases ht : (ops[j]?).bind (·.dst) with
    | none => simp only [ht]
    | some t =>
      have he : (putA F dst v)[t]? = F[t]? := by
        cases dst with
        | none => rfl
        | some d =>
          have hne : d ≠ t := fun e => h d rfl (by subst e; simp [Oper.looksAt, hg, ht])
          simp only [putA, List.getElem?_set_ne hne]
      simp only [ht, he]

theorem putA_comm (F : List AV) {x y : Option Tmp} (v u : AV) (h : ∀ d, x = some d → y ≠ some d) : putA (putA F x v) y u = putA (putA F y u) x v := by
  cases x with
  | none => rfl
  | some d =>
    cases y with
    | none => rfl
    | some e =>
      have hne : d ≠ e := fun he => h d rfl (he ▸ rfl)
      simp only [putA]
      exact List.set_comm _ _ hne

/-- Whatever the order, the frame is this at the end. -/
def anyV (P : Program) (E : List (Entry P)) (md : Region.Mode) (ops : Array Oper) (M : List (List AC)) (F' : List AV) : Nat → Array Bool → List AV → Prop
  | 0, listed, F => Region.ready md ops listed = [] ∧ F = F'
  | fuel + 1, listed, F =>
    (Region.ready md ops listed = [] → F = F') ∧
    ∀ i ∈ Region.ready md ops listed, ∃ o v, ops[i]? = some o ∧ stepV P E ops M o F = some v ∧ anyV P E md ops M F' fuel (listed.setIfInBounds i true) (putA F o.dst v)

theorem anyV_first {P : Program} {E : List (Entry P)} {md : Region.Mode} {ops : Array Oper} {M : List (List AC)} {F' : List AV} {i : Nat} {oi : Oper} {v : AV} (hi : ops[i]? = some oi) :
    ∀ (fuel : Nat) (listed : Array Bool) (F : List AV),
      (∀ j oj, ops[j]? = some oj → j ≠ i → listed.getD j true = false → (∀ e ∈ oj.after, Region.binds md e = true → e.on ≠ i) → oi.apart ops oj = true) →
      i ∈ Region.ready md ops listed → stepV P E ops M oi F = some v →
      anyV P E md ops M F' fuel (listed.setIfInBounds i true) (putA F oi.dst v) → anyV P E md ops M F' (fuel + 1) listed F := by
  intro fuel
  induction fuel with
  | zero =>
    intro listed F _ hr hy H
    refine ⟨fun h => (by rw [h] at hr; cases hr), fun j hj => ?_⟩
    by_cases hji : j = i
    · subst hji; exact ⟨oi, v, hi, hy, H⟩
    · have := ready_mono hj hji
      rw [H.1] at this
      cases this
  | succ fuel ih =>
    intro listed F hfree hr hy H
    refine ⟨fun h => (by rw [h] at hr; cases hr), fun j hj => ?_⟩
    by_cases hji : j = i
    · subst hji; exact ⟨oi, v, hi, hy, H⟩
    · obtain ⟨oj', u, hoj', hu, hK⟩ := H.2 j (ready_mono hj hji)
      obtain ⟨hjun, oj, hoj, hall⟩ := mem_ready.1 hj
      rw [hoj] at hoj'
      have eo := Option.some.inj hoj'
      subst eo
      have hnot : ∀ e ∈ oj.after, Region.binds md e = true → e.on ≠ i := fun e he hb heq => by
        have h1 := hall e he hb
        have h0 := (mem_ready.1 hr).1
        rw [heq] at h1
        rcases Nat.lt_or_ge i listed.size with h' | h'
        · simp [h'] at h0 h1; rw [h0] at h1; cases h1
        · simp [Array.getElem?_eq_none h'] at h1
      obtain ⟨h1, h2, h3⟩ := Oper.apart_spec (hfree j oj hoj hji hjun hnot)
      rw [stepV_put h1] at hu
      refine ⟨oj, u, hoj, hu, ih (listed.setIfInBounds j true) (putA F oj.dst u) (fun k ok hk hki hun hno => ?_) (ready_mono hr (Ne.symm hji)) ?_ ?_⟩
      · refine hfree k ok hk hki ?_ hno
        by_cases hjk : j = k
        · subst hjk; exact hjun
        · rw [getD_set_ne true hjk] at hun; exact hun
      · rw [stepV_put h3]; exact hy
      · rw [Array.setIfInBounds_comm _ _ hji, ← putA_comm F v u h2]
        exact hK

/-- In the text's order. -/
def runV (P : Program) (E : List (Entry P)) (ops : Array Oper) (M : List (List AC)) : List Oper → List AV → Option (List AV)
  | [], F => some F
  | o :: l, F => match stepV P E ops M o F with
    | some v => runV P E ops M l (putA F o.dst v)
    | none => none

theorem anyV_lex {P : Program} {E : List (Entry P)} {md : Region.Mode} {ops : Array Oper} {M : List (List AC)} {F' : List AV} : ∀ (l : List Oper) (k : Nat) (listed : Array Bool) (F : List AV), (∀ j, l[j]? = ops[k + j]?) →
    Region.lexFrom md ops l.length k listed = true → runV P E ops M l F = some F' → anyV P E md ops M F' l.length listed F
  | [], _, _, _, _, hB, h => ⟨by simpa [Region.lexFrom] using hB, Option.some.inj h⟩
  | o :: l, k, listed, F, hl, hB, h => by
    have h0 : ops[k]? = some o := by simpa using (hl 0).symm
    simp only [List.length_cons, Region.lexFrom, Bool.and_eq_true] at hB
    obtain ⟨⟨hr, hf⟩, hB'⟩ := hB
    simp only [runV] at h
    split at h
    · rename_i v hv
      exact anyV_first h0 l.length listed F (Region.free_spec h0 hf) (by simpa using hr) hv
        (anyV_lex l (k + 1) _ _ (fun j => by have := hl (j + 1); simpa [Nat.add_assoc, Nat.add_comm 1 j] using this) hB' h)
    · cases h

theorem valA_sound {P : Program} {E : List (Entry P)} {F : List AV} {M : List (List AC)} {op : Op} {r : AV} {σ : List (Nat × Nat)} {a : Act} {w : World}
    (h : valA P E F M op = some r) (hF : RepF σ F a.tmps.toList) (hM : MemOk σ M w)
    {dst : Option Tmp} {ty : TypeId} {pos : String} {after : Array Edge} {gd : Option (Nat × Bool)} {next : Act → World → Prop} {Q : Exit → Act → World → Prop}
    (hn : ∀ v w', Rep σ r v → Ext w w' → next (a.put dst v) w') : Oper.wp P ⟨dst, op, ty, pos, after, gd⟩ a w next Q := by
  have via : (match opA P E F M op with | some (true, v) => some v | _ => none) = some r → Oper.wp P ⟨dst, op, ty, pos, after, gd⟩ a w next Q := by
    intro h
    split at h
    · rename_i v ho; cases h; exact opA_sound ho hF hM hn
    · cases h
  unfold valA at h
  split at h
  · rename_i c x y
    split at h
    · rename_i b eb
      cases h
      have hc := rep_ev hF c
      rw [eb] at hc
      have hc' : a.eval c = .bool b := hc
      unfold Oper.wp
      cases b with
      | true =>
        have : (execOp a.eval ⟨dst, .pick c x y, ty, pos, after, gd⟩).run P w = .ok (.value (a.eval x)) w := by simp [execOp, hc', asBool]
        rw [this]; exact hn _ _ (rep_ev hF x) (Ext.refl _)
      | false =>
        have : (execOp a.eval ⟨dst, .pick c x y, ty, pos, after, gd⟩).run P w = .ok (.value (a.eval y)) w := by simp [execOp, hc', asBool]
        rw [this]; exact hn _ _ (rep_ev hF y) (Ext.refl _)
    · cases h
  · exact via h

theorem anyV_sound {P : Program} {E : List (Entry P)} {md : Region.Mode} {ops : Array Oper} {M : List (List AC)} {F' : List AV} {n0 : Nat} {w0 : Base} {Q : Exit → Act → World → Prop} :
    ∀ (fuel : Nat) (listed : Array Bool) (F : List AV) (σ : List (Nat × Nat)) (a : Act) (w : World), anyV P E md ops M F' fuel listed F → St σ n0 w0 F M a w → (∀ σ' a' w', St σ' n0 w0 F' M a' w' → Q .normal a' w') →
    wpAny P md ops Q fuel listed a w
  | 0, listed, F, σ, a, w, h, hS, hQ => by
    obtain ⟨h1, rfl⟩ := h
    exact ⟨h1, hQ σ a w hS⟩
  | fuel + 1, listed, F, σ, a, w, h, hS, hQ => by
    refine ⟨fun h0 => ?_, fun i hi => ?_⟩
    · have := h.1 h0
      subst this
      exact hQ σ a w hS
    · obtain ⟨o, v, ho, hv, hK⟩ := h.2 i hi
      have skip : Region.wanted o (yielded ops a.tmps) = false → v = undefA → wpOp P ops Q i (wpAny P md ops Q fuel (listed.setIfInBounds i true)) a w := by
        intro hw he
        unfold wpOp
        simp only [ho]
        rw [if_neg (by rw [hw]; decide)]
        subst he
        exact anyV_sound fuel _ _ σ _ w hK (hS.put o.dst (x := undefA) (v := undef) rfl (Ext.refl _)) hQ
      have go : Region.wanted o (yielded ops a.tmps) = true → valA P E F M o.op = some v → wpOp P ops Q i (wpAny P md ops Q fuel (listed.setIfInBounds i true)) a w := by
        intro hw he
        unfold wpOp
        simp only [ho]
        rw [if_pos hw]
        refine .inl ?_
        obtain ⟨dst, op, ty, pos, after, gd⟩ := o
        exact valA_sound he hS.frame hS.mem fun u w' hu hx => anyV_sound fuel _ _ σ _ w' hK (hS.put dst hu hx) hQ
      unfold stepV at hv
      split at hv
      · rename_i hg
        exact go (by simp [Region.wanted, hg]) hv
      · rename_i j want hg
        split at hv
        · cases hv
        · rename_i d hd
          split at hv
          · rename_i b hb
            have hy := (yielded_of hS hd).1 b hb
            cases hbw : (b == want) with
            | true => rw [hbw] at hv; exact go (by simp [Region.wanted, hg, hy]; simpa using hbw) hv
            | false => rw [hbw] at hv; exact skip (by simp [Region.wanted, hg, hy]; simpa using hbw) (Option.some.inj hv).symm
          · rename_i vs hb
            exact skip (by simp [Region.wanted, hg, (yielded_of hS hd).2 vs hb]) (Option.some.inj hv).symm
          · cases hv

variable {R : Type}

/-- Operations that leave the memory as it is. -/
def pureOps (l : List Oper) : Bool := l.all fun o => match o.op with
  | .box .. | .alloc .. | .store .. | .buildSlice .. => false
  | _ => true

theorem stA_valA {P : Program} {E : List (Entry P)} {n0 : Nat} {op : Op} {dst : Option Tmp} {F : List AV} {M : List (List AC)} {K : List AV → List (List AC) → Option R} {r : R}
    (hp : (match op with | .box .. | .alloc .. | .store .. | .buildSlice .. => false | _ => true) = true) (h : stA P E n0 op dst F M K = some r) : ∃ v, valA P E F M op = some v ∧ K (putA F dst v) M = some r := by
  unfold stA at h
  split at h
  · rename_i c x y
    split at h
    · rename_i b eb
      refine ⟨cond b (evA F x) (evA F y), by simp only [valA, eb], ?_⟩
      cases b <;> exact h
    · cases h
  · cases hp
  · cases hp
  · cases hp
  · cases hp
  · rename_i h1 h2 h3 h4 h5
    split at h
    · rename_i ok v ho
      cases ok with
      | false => cases h
      | true =>
        refine ⟨v, ?_, h⟩
        unfold valA
        split
        · rename_i c x y; exact (h1 c x y rfl).elim
        · rw [ho]
    · cases h

theorem regA_runV {P : Program} {E : List (Entry P)} {n0 : Nat} {ops : Array Oper} {K : List AV → List (List AC) → Option R} {r : R} : ∀ (l : List Oper) {F : List AV} {M : List (List AC)}, pureOps l = true →
    regA P E n0 ops l F M K = some r → ∃ F', runV P E ops M l F = some F' ∧ K F' M = some r
  | [], F, M, _, h => ⟨F, rfl, h⟩
  | o :: rest, F, M, hp, h => by
    simp only [pureOps, List.all_cons, Bool.and_eq_true] at hp
    have same : ∀ {d : Nat} {b : Bool}, F[d]? = some (.c (.sb b)) → F.set d (.c (.sb b)) = F := by
      intro d b hd
      apply List.ext_getElem?
      intro i
      by_cases hi : d = i
      · subst hi
        rw [List.getElem?_set_self (List.getElem?_eq_some_iff.1 hd).1, hd]
      · rw [List.getElem?_set_ne hi]
    have go : stepV P E ops M o F = valA P E F M o.op → (stA P E n0 o.op o.dst F M fun F M => regA P E n0 ops rest F M K) = some r → ∃ F', runV P E ops M (o :: rest) F = some F' ∧ K F' M = some r := by
      intro hs h1
      obtain ⟨v, hv, hK⟩ := stA_valA hp.1 h1
      obtain ⟨F', h2, h3⟩ := regA_runV rest hp.2 hK
      exact ⟨F', by simp only [runV, hs, hv]; exact h2, h3⟩
    have skip : stepV P E ops M o F = some undefA → regA P E n0 ops rest (putA F o.dst undefA) M K = some r → ∃ F', runV P E ops M (o :: rest) F = some F' ∧ K F' M = some r := by
      intro hs h1
      obtain ⟨F', h2, h3⟩ := regA_runV rest hp.2 h1
      exact ⟨F', by simp only [runV, hs]; exact h2, h3⟩
    simp only [regA] at h
    split at h
    · rename_i hg
      exact go (by unfold stepV; rw [hg]) h
    · rename_i j want hg
      split at h
      · cases h
      · rename_i d hd
        split at h
        · rename_i b hb
          cases b with
          | true =>
            rw [same hb] at h
            cases want with
            | true => exact go (by unfold stepV; simp only [hg, hd, hb]; rfl) h
            | false => exact skip (by unfold stepV; simp only [hg, hd, hb]; rfl) h
          | false =>
            rw [same hb] at h
            cases want with
            | true => exact skip (by unfold stepV; simp only [hg, hd, hb]; rfl) h
            | false => exact go (by unfold stepV; simp only [hg, hd, hb]; rfl) h
        · rename_i vs hb
          exact skip (by unfold stepV; simp only [hg, hd, hb]) h
        · cases h

theorem St.drew {σ : List (Nat × Nat)} {n0 : Nat} {w0 : Base} {F : List AV} {M : List (List AC)} {a : Act} {w : World} (h : St σ n0 w0 F M a w) : St σ n0 w0 F M a { w with drawn := w.drawn + 1 } :=
  ⟨h.defers, h.frame, h.mem.ext ⟨rfl, rfl, rfl, Nat.le_refl _, fun _ _ => rfl⟩, h.ext.trans ⟨rfl, rfl, rfl, Nat.le_refl _, fun _ _ => rfl⟩, h.own, h.pre⟩

/-- A region whose order is drawn goes as in the text's order. -/
theorem regD_sound {P : Program} {E : List (Entry P)} {n0 : Nat} {id : Nat} {ops : Array Oper} {K : List AV → List (List AC) → Option R} {r : R} (w0 : Base) (hm : P.follows .mixedOrders = true) {F : List AV} {M : List (List AC)}
    (hp : pureOps ops.toList = true) (hB : Region.lexB .any ops = true) (h : regA P E n0 ops ops.toList F M K = some r) : ∃ F', K F' M = some r ∧ CodeGoes P n0 w0 (.region id ops true) F M .norm F' M := by
  obtain ⟨F', hr, hK⟩ := regA_runV ops.toList hp h
  simp only [Region.lexB, Bool.and_eq_true] at hB
  refine ⟨F', hK, fun σ a w hS Q hQ => wp_region_any hm ?_⟩
  have := anyV_lex (md := .any) ops.toList 0 (Array.replicate ops.size false) F (by simp) (by simpa using hB.2) hr
  exact anyV_sound ops.size _ F σ a _ (by simpa using this) hS.drew hQ

end Go.Proofs.Ytlpahmefebgdlaa.Fx
