/- The executor, fourth part: functions with one loop whose rounds are told by a rule. No condition. -/
import Derived.Test.YtlpahmefebgdlaaCa
namespace Go.Proofs.Ytlpahmefebgdlaa.Fx
open Go Go.RowKit

/-- Slots that need not be known any more. -/
def weaken : List Bool → List AV → List AV
  | true :: m, a :: F => a :: weaken m F
  | false :: m, _ :: F => .c .any :: weaken m F
  | _, F => F

theorem RepF.weaken {σ : List (Nat × Nat)} : ∀ (m : List Bool) {F : List AV} {vs : List Value}, RepF σ F vs → RepF σ (Fx.weaken m F) vs
  | [], _, _, h => by cases h <;> first | exact .nil | exact .cons ‹_› ‹_›
  | true :: m, _, _, .nil => .nil
  | false :: m, _, _, .nil => .nil
  | true :: m, _, _, .cons h t => .cons h (RepF.weaken m t)
  | false :: m, _, _, .cons _ t => .cons trivial (RepF.weaken m t)

theorem St.weaken {σ : List (Nat × Nat)} {n0 : Nat} {w0 : Base} {F : List AV} {M : List (List AC)} {a : Act} {w : World} (m : List Bool) (h : St σ n0 w0 F M a w) : St σ n0 w0 (Fx.weaken m F) M a w :=
  ⟨h.defers, h.frame.weaken m, h.mem, h.ext, h.own, h.pre⟩

/-- The outcome of a loop: n rounds more at most. -/
def loopRes {α : Type} (fin : α → Out × List AV) (step : α → (Out × List AV) ⊕ α) : Nat → α → Out × List AV
  | 0, s => fin s
  | n + 1, s => match step s with
    | .inl r => r
    | .inr s' => loopRes fin step n s'

theorem loop_goes {P : Program} {n0 : Nat} {w0 : Base} {x : Code} {M : List (List AC)} {α : Type} (Fr : Nat → α → List AV) (fin : α → Out × List AV) (step : α → (Out × List AV) ⊕ α) (N : Nat)
    (hfin : ∀ s, (fin s).1 ≠ .norm ∧ CodeGoes P n0 w0 x (Fr N s) M (fin s).1 (fin s).2 M)
    (hround : ∀ i s, i < N → match step s with
      | .inl r => r.1 ≠ .norm ∧ CodeGoes P n0 w0 x (Fr i s) M r.1 r.2 M
      | .inr s' => CodeGoes P n0 w0 x (Fr i s) M .norm (Fr (i + 1) s') M) :
    ∀ (n i : Nat) (s : α), i + n = N → CodeGoes P n0 w0 (.loop x) (Fr i s) M (loopRes fin step n s).1 (loopRes fin step n s).2 M := by
  have one : ∀ {F : List AV} {o : Out} {F' : List AV}, o ≠ .norm → CodeGoes P n0 w0 x F M o F' M → ∀ (σ : List (Nat × Nat)) (a : Act) (w : World), St σ n0 w0 F M a w →
      ∀ (Q : Exit → Act → World → Prop), (∀ σ' a' w', St σ' n0 w0 F' M a' w' → Q o.toExit a' w') → Code.rounds P x Q 1 a w := by
    intro F o F' ho hc σ a w hS Q hQ
    refine hc σ a w hS _ fun σ' a' w' hs => ?_
    cases o with
    | norm => exact (ho rfl).elim
    | exit id => exact hQ _ _ _ hs
    | ret => exact hQ _ _ _ hs
  have key : ∀ (n i : Nat) (s : α), i + n = N → ∃ m, ∀ (σ : List (Nat × Nat)) (a : Act) (w : World), St σ n0 w0 (Fr i s) M a w →
      ∀ (Q : Exit → Act → World → Prop), (∀ σ' a' w', St σ' n0 w0 (loopRes fin step n s).2 M a' w' → Q (loopRes fin step n s).1.toExit a' w') → Code.rounds P x Q m a w := by
    intro n
    induction n with
    | zero =>
      intro i s hi
      have : i = N := by omega
      subst this
      exact ⟨1, one (hfin s).1 (hfin s).2⟩
    | succ n ih =>
      intro i s hi
      have hr := hround i s (by omega)
      simp only [loopRes]
      cases hs : step s with
      | inl r =>
        rw [hs] at hr
        exact ⟨1, one hr.1 hr.2⟩
      | inr s' =>
        rw [hs] at hr
        obtain ⟨m, hm⟩ := ih (i + 1) s' (by omega)
        exact ⟨m + 1, fun σ a w hS Q hQ => hr σ a w hS _ fun σ' a' w' hs => hm σ' a' w' hs Q hQ⟩
  intro n i s hi σ a w hS Q hQ
  obtain ⟨m, hm⟩ := key n i s hi
  exact wp_loop_rounds m (hm σ a w hS Q hQ)

variable {R : Type}

/-- The loops of a code, the outermost. -/
def loopsOf : Code → List Code
  | .seq x y => loopsOf x ++ loopsOf y
  | .cond _ x y => loopsOf x ++ loopsOf y
  | .block _ x => loopsOf x
  | .loop x => [x]
  | _ => []

/-- Code with a rule for its loops. -/
def exL (P : Program) (E : List (Entry P)) (n0 : Nat) (lp : List AV → List (List AC) → Option (Out × List AV × List (List AC))) : Nat → Code → List AV → List (List AC) → (Out → List AV → List (List AC) → Option R) → Option R
  | 0, _, _, _, _ => none
  | n + 1, c, F, M, K =>
    match c with
    | .skip => K .norm F M
    | .region _ ops draw => cond draw none (regA P E n0 ops ops.toList F M fun F M => K .norm F M)
    | .seq x y => exL P E n0 lp n x F M fun o F M =>
      match o with
      | .norm => exL P E n0 lp n y F M K
      | .exit id => K (.exit id) F M
      | .ret => K .ret F M
    | .cond (.tmp t) x y =>
      match F[t]? with
      | some (.c (.sb b)) => cond b (exL P E n0 lp n x (F.set t (.c (.sb true))) M K) (exL P E n0 lp n y (F.set t (.c (.sb false))) M K)
      | _ => none
    | .block id x => exL P E n0 lp n x F M fun o F M =>
      match o with
      | .norm => K .norm F M
      | .exit i => cond (i == id) (K .norm F M) (K (.exit i) F M)
      | .ret => K .ret F M
    | .loop _ => match lp F M with
      | some (o, F', M') => K o F' M'
      | none => none
    | .exit id => K (.exit id) F M
    | .ret => K .ret F M
    | _ => none

theorem exL_sound {P : Program} {E : List (Entry P)} {n0 : Nat} (w0 : Base) {lp : List AV → List (List AC) → Option (Out × List AV × List (List AC))} : ∀ (n : Nat) (c : Code) (F : List AV) (M : List (List AC)) (K : Out → List AV → List (List AC) → Option R) (r : R),
    (∀ x ∈ loopsOf c, ∀ F M o F' M', lp F M = some (o, F', M') → CodeGoes P n0 w0 (.loop x) F M o F' M') →
    exL P E n0 lp n c F M K = some r → ∃ o F' M', K o F' M' = some r ∧ CodeGoes P n0 w0 c F M o F' M'
  | 0, _, _, _, _, _, _, h => by cases h
  | n + 1, c, F, M, K, r, hl, h => by
    cases c with
    | skip => exact ⟨.norm, F, M, h, fun σ a w hS Q hQ => wp_skip (hQ σ a w hS)⟩
    | region id ops draw =>
      simp only [exL] at h
      cases draw with
      | true => cases h
      | false =>
        obtain ⟨F', M', hK, hl⟩ := regA_sound w0 ops.toList h
        exact ⟨.norm, F', M', hK, fun σ a w hS Q hQ => wp_region_list (hl σ a w hS Q hQ)⟩
    | seq x y =>
      simp only [exL] at h
      obtain ⟨o, F1, M1, hK1, hx⟩ := exL_sound w0 n x F M _ r (fun z hz => hl z (List.mem_append_left _ hz)) h
      cases o with
      | norm =>
        obtain ⟨o, F', M', hK, hy⟩ := exL_sound w0 n y F1 M1 K r (fun z hz => hl z (List.mem_append_right _ hz)) hK1
        exact ⟨o, F', M', hK, fun σ a w hS Q hQ => wp_seq (hx σ a w hS _ fun σ' a' w' hs => hy σ' a' w' hs Q hQ)⟩
      | exit id => exact ⟨.exit id, F1, M1, hK1, fun σ a w hS Q hQ => wp_seq (hx σ a w hS _ fun σ' a' w' hs => hQ σ' a' w' hs)⟩
      | ret => exact ⟨.ret, F1, M1, hK1, fun σ a w hS Q hQ => wp_seq (hx σ a w hS _ fun σ' a' w' hs => hQ σ' a' w' hs)⟩
    | cond c x y =>
      cases c with
      | tmp t =>
        simp only [exL] at h
        split at h
        · rename_i b hb
          have hev : ∀ σ a w, St σ n0 w0 F M a w → a.eval (.tmp t) = .bool b := by
            intro σ a w hS
            obtain ⟨v, hv, hr⟩ := hS.frame.get? hb
            have hr' : v = .bool b := hr
            subst hr'
            have hv' : a.tmps[t]? = some (.bool b) := by simpa using hv
            simp [Act.eval, Array.getD_eq_getD_getElem?, hv']
          cases b with
          | true =>
            obtain ⟨o, F', M', hK, hx⟩ := exL_sound w0 n x _ M K r (fun z hz => hl z (List.mem_append_left _ hz)) h
            exact ⟨o, F', M', hK, fun σ a w hS Q hQ => wp_cond_true (hev σ a w hS) (hx σ a w (hS.know hb) Q hQ)⟩
          | false =>
            obtain ⟨o, F', M', hK, hx⟩ := exL_sound w0 n y _ M K r (fun z hz => hl z (List.mem_append_right _ hz)) h
            exact ⟨o, F', M', hK, fun σ a w hS Q hQ => wp_cond_false (hev σ a w hS) (hx σ a w (hS.know hb) Q hQ)⟩
        · cases h
      | const v => cases h
      | global g => cases h
      | func f => cases h
    | block id x =>
      simp only [exL] at h
      obtain ⟨o, F1, M1, hK1, hx⟩ := exL_sound w0 n x F M _ r hl h
      cases o with
      | norm => exact ⟨.norm, F1, M1, hK1, fun σ a w hS Q hQ => wp_block (hx σ a w hS _ fun σ' a' w' hs => hQ σ' a' w' hs)⟩
      | exit i =>
        by_cases hi : i = id
        · subst hi
          simp only [beq_self_eq_true, cond_true] at hK1
          exact ⟨.norm, F1, M1, hK1, fun σ a w hS Q hQ => wp_block (hx σ a w hS _ fun σ' a' w' hs => by simp only [Out.toExit, Exit.inBlock, if_true]; exact hQ σ' a' w' hs)⟩
        · have hb : (i == id) = false := by simpa using hi
          simp only [hb, cond_false] at hK1
          exact ⟨.exit i, F1, M1, hK1, fun σ a w hS Q hQ => wp_block (hx σ a w hS _ fun σ' a' w' hs => by simp only [Out.toExit, Exit.inBlock, hi, if_false]; exact hQ σ' a' w' hs)⟩
      | ret => exact ⟨.ret, F1, M1, hK1, fun σ a w hS Q hQ => wp_block (hx σ a w hS _ fun σ' a' w' hs => hQ σ' a' w' hs)⟩
    | loop x =>
      simp only [exL] at h
      cases hlp : lp F M with
      | none => simp [hlp] at h
      | some r' =>
        obtain ⟨o, F', M'⟩ := r'
        simp only [hlp] at h
        exact ⟨o, F', M', h, hl x (List.mem_singleton.2 rfl) F M o F' M' hlp⟩
    | exit id => exact ⟨.exit id, F, M, h, fun σ a w hS Q hQ => wp_exit (hQ σ a w hS)⟩
    | ret => exact ⟨.ret, F, M, h, fun σ a w hS Q hQ => wp_ret (hQ σ a w hS)⟩
    | _ => cases h

/-- A function's answer, with a rule for its loops. -/
def runL (P : Program) (E : List (Entry P)) (lp : List AV → List (List AC) → Option (Out × List AV × List (List AC))) (fn : Func) (args : List AV) : Option AV :=
  match fn.body with
  | none => none
  | some c => exL P E 0 lp 4000 c (args ++ List.replicate (fn.ntmps - args.length) undefA) [] fun o F M =>
    match o with
    | .exit _ => none
    | _ => match resultA P fn F M with
      | some v => cond (plainA v) (some v) none
      | none => none

theorem calls_of_goes {P : Program} {f : FuncId} {fn : Func} {c : Code} (hf : P.funcs[f]? = some fn) (hb : fn.body = some c) {args : List AV} {r : AV} (h : ∀ w0, ∃ o F' M', (match o with
      | .exit _ => none
      | _ => match resultA P fn F' M' with
        | some v => cond (plainA v) (some v) none
        | none => none) = some r ∧ CodeGoes P 0 w0 c (args ++ List.replicate (fn.ntmps - args.length) undefA) [] o F' M')
    (hp : args.all plainA = true) {σ : List (Nat × Nat)} {vs : List Value} {w : World} (ha0 : RepF σ args vs) : Calls P f vs.toArray w fun e w' => ∃ v, e = .returned v ∧ Rep σ r v ∧ Ext w w' := by
  have ha : RepF [] args vs := plainF hp ha0
  obtain ⟨o, F', M', hK, hc⟩ := h ⟨w, []⟩
  have fin : ∀ (hK' : (match resultA P fn F' M' with | some v => cond (plainA v) (some v) none | none => none) = some r) {σ' : List (Nat × Nat)} {a' : Act} {w' : World} (hs : St σ' 0 ⟨w, []⟩ F' M' a' w'),
      a'.defers = [] ∧ ∃ v, (results fn a'.tmps).run P w' = .ok v w' ∧ ∃ u, (Ending.returned v) = .returned u ∧ Rep σ r u ∧ Ext w w' := by
    intro hK' σ' a' w' hs
    cases hr : resultA P fn F' M' with
    | none => simp [hr] at hK'
    | some v =>
      simp only [hr] at hK'
      cases hp : plainA v with
      | false => simp [hp] at hK'
      | true =>
        simp only [hp, cond_true, Option.some.injEq] at hK'
        subst hK'
        obtain ⟨z, hz, hrz⟩ := results_sound (P := P) hs hr
        exact ⟨hs.defers, z, hz, z, rfl, plain_rep hp hrz, hs.ext⟩
  refine calls_of_wp hf hb (hc [] _ w ⟨rfl, ?_, MemOk.nil w, Ext.refl _, fun id b hid hbb => (by cases hbb), List.prefix_refl _⟩ _ fun σ' a' w' hs => ?_)
  · have hlen := ha.length
    have h1 : ∀ (n : Nat), RepF [] (List.replicate n undefA) (List.replicate n undef) := by
      intro n
      induction n with
      | zero => exact .nil
      | succ n ih => exact .cons rfl ih
    have h2 : ∀ {l l' : List AV} {us us' : List Value}, RepF [] l us → RepF [] l' us' → RepF [] (l ++ l') (us ++ us') := by
      intro l l' us us' h h'
      induction h with
      | nil => exact h'
      | cons h _ ih => exact .cons h ih
    simpa [hlen] using h2 ha (h1 (fn.ntmps - vs.length))
  · cases o with
    | norm => exact fin hK hs
    | ret => exact fin hK hs
    | exit id => cases hK

theorem gives_of_runL {P : Program} {E : List (Entry P)} {f : FuncId} {fn : Func} {c : Code} {lp : List AV → List (List AC) → Option (Out × List AV × List (List AC))} (hf : P.funcs[f]? = some fn) (hn : (fn.name == "runtime.NumGoroutine") = false) (hb : fn.body = some c)
    (hl : ∀ w0, ∀ x ∈ loopsOf c, ∀ F M o F' M', lp F M = some (o, F', M') → CodeGoes P 0 w0 (.loop x) F M o F' M')
    {args : List AV} {r : AV} (hp : args.all plainA = true) (h : runL P E lp fn args = some r)
    {σ : List (Nat × Nat)} {vs : List Value} {w : World} (ha : RepF σ args vs) : Gives P f vs.toArray w fun v w' => Rep σ r v ∧ Ext w w' := by
  refine .inr ⟨?_, calls_of_goes hf hb (fun w0 => ?_) hp ha⟩
  · have hn' : fn.name ≠ "runtime.NumGoroutine" := by simpa using hn
    simp [callFunc, hf, hn', hb]
  · unfold runL at h
    simp only [hb] at h
    exact exL_sound w0 4000 c _ [] _ r (hl w0) h

end Go.Proofs.Ytlpahmefebgdlaa.Fx
