/- The executor, sixth part: functions with regions whose order is drawn. No condition. -/
import Derived.Test.YtlpahmefebgdlaaEo
namespace Go.Proofs.Ytlpahmefebgdlaa.Fx
open Go Go.RowKit

variable {R : Type}

/-- Code; n rounds deep at most. -/
def exO (P : Program) (E : List (Entry P)) (n0 : Nat) : Nat → Code → List AV → List (List AC) → (Out → List AV → List (List AC) → Option R) → Option R
  | 0, _, _, _, _ => none
  | n + 1, c, F, M, K =>
    match c with
    | .skip => K .norm F M
    | .region _ ops draw => cond draw (cond (P.follows .mixedOrders && (pureOps ops.toList && Region.lexB .any ops)) (regA P E n0 ops ops.toList F M fun F M => K .norm F M) none) (regA P E n0 ops ops.toList F M fun F M => K .norm F M)
    | .seq x y => exO P E n0 n x F M fun o F M =>
      match o with
      | .norm => exO P E n0 n y F M K
      | .exit id => K (.exit id) F M
      | .ret => K .ret F M
    | .cond (.tmp t) x y =>
      match F[t]? with
      | some (.c (.sb b)) => cond b (exO P E n0 n x (F.set t (.c (.sb true))) M K) (exO P E n0 n y (F.set t (.c (.sb false))) M K)
      | _ => none
    | .cond (.const (.bool b)) x y => cond b (exO P E n0 n x F M K) (exO P E n0 n y F M K)
    | .block id x => exO P E n0 n x F M fun o F M =>
      match o with
      | .norm => K .norm F M
      | .exit i => cond (i == id) (K .norm F M) (K (.exit i) F M)
      | .ret => K .ret F M
    | .loop x => exO P E n0 n x F M fun o F M =>
      match o with
      | .norm => exO P E n0 n (.loop x) F M K
      | .exit id => K (.exit id) F M
      | .ret => K .ret F M
    | .exit id => K (.exit id) F M
    | .ret => K .ret F M
    | _ => none

theorem exO_sound {P : Program} {E : List (Entry P)} {n0 : Nat} (w0 : Base) : ∀ (n : Nat),
    (∀ (c : Code) (F : List AV) (M : List (List AC)) (K : Out → List AV → List (List AC) → Option R) (r : R), exO P E n0 n c F M K = some r → ∃ o F' M', K o F' M' = some r ∧ CodeGoes P n0 w0 c F M o F' M') ∧
    (∀ (x : Code) (F : List AV) (M : List (List AC)) (K : Out → List AV → List (List AC) → Option R) (r : R), exO P E n0 n (.loop x) F M K = some r → ∃ o F' M', K o F' M' = some r ∧ ∃ N, ∀ (σ : List (Nat × Nat)) (a : Act) (w : World), St σ n0 w0 F M a w →
      ∀ (Q : Exit → Act → World → Prop), (∀ σ' a' w', St σ' n0 w0 F' M' a' w' → Q o.toExit a' w') → Code.rounds P x Q N a w)
  | 0 => ⟨(fun _ _ _ _ _ h => by cases h), (fun _ _ _ _ _ h => by cases h)⟩
  | n + 1 => by
    obtain ⟨ih1, ih2⟩ := exO_sound w0 n
    have hloop : ∀ (x : Code) (F : List AV) (M : List (List AC)) (K : Out → List AV → List (List AC) → Option R) (r : R), exO P E n0 (n + 1) (.loop x) F M K = some r → ∃ o F' M', K o F' M' = some r ∧ ∃ N, ∀ (σ : List (Nat × Nat)) (a : Act) (w : World), St σ n0 w0 F M a w →
      ∀ (Q : Exit → Act → World → Prop), (∀ σ' a' w', St σ' n0 w0 F' M' a' w' → Q o.toExit a' w') → Code.rounds P x Q N a w := by
      intro x F M K r h
      simp only [exO] at h
      obtain ⟨o, F1, M1, hK1, hx⟩ := ih1 x F M _ r h
      cases o with
      | norm =>
        obtain ⟨o, F', M', hK, N, hN⟩ := ih2 x F1 M1 K r hK1
        refine ⟨o, F', M', hK, N + 1, fun σ a w hS Q hQ => ?_⟩
        exact hx σ a w hS _ fun σ' a' w' hs => hN σ' a' w' hs Q hQ
      | exit id => exact ⟨.exit id, F1, M1, hK1, 1, fun σ a w hS Q hQ => hx σ a w hS _ fun σ' a' w' hs => hQ σ' a' w' hs⟩
      | ret => exact ⟨.ret, F1, M1, hK1, 1, fun σ a w hS Q hQ => hx σ a w hS _ fun σ' a' w' hs => hQ σ' a' w' hs⟩
    refine ⟨fun c F M K r h => ?_, hloop⟩
    cases c with
    | skip => exact ⟨.norm, F, M, h, fun σ a w hS Q hQ => wp_skip (hQ σ a w hS)⟩
    | region id ops draw =>
      simp only [exO] at h
      cases draw with
      | true =>
        cases hp : (P.follows .mixedOrders && (pureOps ops.toList && Region.lexB .any ops)) with
        | false => simp only [hp, cond_true, cond_false] at h; cases h
        | true =>
          simp only [hp, cond_true] at h
          simp only [Bool.and_eq_true] at hp
          obtain ⟨F', hK, hg⟩ := regD_sound w0 hp.1 hp.2.1 hp.2.2 h
          exact ⟨.norm, F', M, hK, hg⟩
      | false =>
        obtain ⟨F', M', hK, hl⟩ := regA_sound w0 ops.toList h
        exact ⟨.norm, F', M', hK, fun σ a w hS Q hQ => wp_region_list (hl σ a w hS Q hQ)⟩
    | seq x y =>
      simp only [exO] at h
      obtain ⟨o, F1, M1, hK1, hx⟩ := ih1 x F M _ r h
      cases o with
      | norm =>
        obtain ⟨o, F', M', hK, hy⟩ := ih1 y F1 M1 K r hK1
        exact ⟨o, F', M', hK, fun σ a w hS Q hQ => wp_seq (hx σ a w hS _ fun σ' a' w' hs => hy σ' a' w' hs Q hQ)⟩
      | exit id => exact ⟨.exit id, F1, M1, hK1, fun σ a w hS Q hQ => wp_seq (hx σ a w hS _ fun σ' a' w' hs => hQ σ' a' w' hs)⟩
      | ret => exact ⟨.ret, F1, M1, hK1, fun σ a w hS Q hQ => wp_seq (hx σ a w hS _ fun σ' a' w' hs => hQ σ' a' w' hs)⟩
    | cond c x y =>
      cases c with
      | tmp t =>
        simp only [exO] at h
        split at h
        · rename_i b hb
          have hev : ∀ σ a w, St σ n0 w0 F M a w → a.eval (.tmp t) = .bool b := by
            intro σ a w hS
            obtain ⟨v, hv, hr⟩ := hS.frame.get? hb
            have hr' : v = .bool b := hr
            subst hr'
            have hv' : a.tmps[t]? = some (.bool b) := by simpa using hv
            simp [Act.eval, Array.getD_eq_getD_getElem?, hv']
          cases b with
          | true =>
            obtain ⟨o, F', M', hK, hx⟩ := ih1 x _ M K r h
            exact ⟨o, F', M', hK, fun σ a w hS Q hQ => wp_cond_true (hev σ a w hS) (hx σ a w (hS.know hb) Q hQ)⟩
          | false =>
            obtain ⟨o, F', M', hK, hx⟩ := ih1 y _ M K r h
            exact ⟨o, F', M', hK, fun σ a w hS Q hQ => wp_cond_false (hev σ a w hS) (hx σ a w (hS.know hb) Q hQ)⟩
        · cases h
      | const v =>
        cases v with
        | bool b =>
          simp only [exO] at h
          cases b with
          | true =>
            obtain ⟨o, F', M', hK, hx⟩ := ih1 x _ M K r h
            exact ⟨o, F', M', hK, fun σ a w hS Q hQ => wp_cond_true rfl (hx σ a w hS Q hQ)⟩
          | false =>
            obtain ⟨o, F', M', hK, hx⟩ := ih1 y _ M K r h
            exact ⟨o, F', M', hK, fun σ a w hS Q hQ => wp_cond_false rfl (hx σ a w hS Q hQ)⟩
        | _ => cases h
      | global g => cases h
      | func f => cases h
    | block id x =>
      simp only [exO] at h
      obtain ⟨o, F1, M1, hK1, hx⟩ := ih1 x F M _ r h
      cases o with
      | norm => exact ⟨.norm, F1, M1, hK1, fun σ a w hS Q hQ => wp_block (hx σ a w hS _ fun σ' a' w' hs => hQ σ' a' w' hs)⟩
      | exit i =>
        by_cases hi : i = id
        · subst hi
          simp only [beq_self_eq_true, cond_true] at hK1
          exact ⟨.norm, F1, M1, hK1, fun σ a w hS Q hQ => wp_block (hx σ a w hS _ fun σ' a' w' hs => by simp only [Out.toExit, Exit.inBlock, if_true]; exact hQ σ' a' w' hs)⟩
        · have hb : (i == id) = false := by simpa using hi
          simp only [hb, cond_false] at hK1
          exact ⟨.exit i, F1, M1, hK1, fun σ a w hS Q hQ => wp_block (hx σ a w hS _ fun σ' a' w' hs => by simp only [Out.toExit, Exit.inBlock, hi, if_false]; exact hQ σ' a' w' hs)⟩
      | ret => exact ⟨.ret, F1, M1, hK1, fun σ a w hS Q hQ => wp_block (hx σ a w hS _ fun σ' a' w' hs => hQ σ' a' w' hs)⟩
    | loop x =>
      obtain ⟨o, F', M', hK, N, hN⟩ := hloop x F M K r h
      exact ⟨o, F', M', hK, fun σ a w hS Q hQ => wp_loop_rounds N (hN σ a w hS Q hQ)⟩
    | exit id => exact ⟨.exit id, F, M, h, fun σ a w hS Q hQ => wp_exit (hQ σ a w hS)⟩
    | ret => exact ⟨.ret, F, M, h, fun σ a w hS Q hQ => wp_ret (hQ σ a w hS)⟩
    | _ => cases h

/-- A function's answer: its body, run. -/
def runO (P : Program) (E : List (Entry P)) (fn : Func) (args : List AV) (M : List (List AC)) : Option AV :=
  match fn.body with
  | none => none
  | some c => exO P E M.length 4000 c (args ++ List.replicate (fn.ntmps - args.length) undefA) M fun o F M =>
    match o with
    | .exit _ => none
    | _ => match resultA P fn F M with
      | some v => cond (plainA v) (some v) none
      | none => none

/-- THE EXECUTOR IS RIGHT: from a function's answer to what its call does. -/
theorem runO_sound {P : Program} {E : List (Entry P)} {f : FuncId} {fn : Func} (hf : P.funcs[f]? = some fn) {args : List AV} {M : List (List AC)} {r : AV} (h : runO P E fn args M = some r)
    {σ : List (Nat × Nat)} {vs : List Value} {w : World} (hM : MemOk σ M w) (ha : RepF σ args vs) :
    Calls P f vs.toArray w fun e w' => ∃ v, e = .returned v ∧ Rep σ r v ∧ Ext w w' := by
  unfold runO at h
  split at h
  · cases h
  · rename_i c hb
    obtain ⟨o, F', M', hK, hc⟩ := (exO_sound ⟨w, σ⟩ 4000).1 c _ M _ r h
    have fin : ∀ (hK' : (match resultA P fn F' M' with | some v => cond (plainA v) (some v) none | none => none) = some r) {σ' : List (Nat × Nat)} {a' : Act} {w' : World} (hs : St σ' M.length ⟨w, σ⟩ F' M' a' w'),
        a'.defers = [] ∧ ∃ v, (results fn a'.tmps).run P w' = .ok v w' ∧ ∃ u, (Ending.returned v) = .returned u ∧ Rep σ r u ∧ Ext w w' := by
      intro hK' σ' a' w' hs
      cases hr : resultA P fn F' M' with
      | none => simp [hr] at hK'
      | some v =>
        simp only [hr] at hK'
        cases hp : plainA v with
        | false => simp [hp] at hK'
        | true =>
          simp only [hp, cond_true, Option.some.injEq] at hK'
          subst hK'
          obtain ⟨z, hz, hrz⟩ := results_sound (P := P) hs hr
          exact ⟨hs.defers, z, hz, z, rfl, plain_rep hp hrz, hs.ext⟩
    refine calls_of_wp hf hb (hc σ _ w ⟨rfl, ?_, hM, Ext.refl _, fun id b hid hbb => ?_, List.prefix_refl _⟩ _ fun σ' a' w' hs => ?_)
    · have hlen := ha.length
      have h1 : ∀ (n : Nat), RepF σ (List.replicate n undefA) (List.replicate n undef) := by
        intro n
        induction n with
        | zero => exact .nil
        | succ n ih => exact .cons rfl ih
      have h2 : ∀ {l l' : List AV} {us us' : List Value}, RepF σ l us → RepF σ l' us' → RepF σ (l ++ l') (us ++ us') := by
        intro l l' us us' h h'
        induction h with
        | nil => exact h'
        | cons h _ ih => exact .cons h ih
      simpa [hlen] using h2 ha (h1 (fn.ntmps - vs.length))
    · have := (List.getElem?_eq_some_iff.1 hbb).1
      rw [hM.len] at this
      omega
    · cases o with
      | norm => exact fin hK hs
      | ret => exact fin hK hs
      | exit id => cases hK

/-- A function with a body, as an entry: what the executor answers of it is what is said. -/
theorem gives_of_runO {P : Program} {E : List (Entry P)} {f : FuncId} {fn : Func} (hf : P.funcs[f]? = some fn) (hn : (fn.name == "runtime.NumGoroutine") = false) {args : List AV} {M : List (List AC)} {r : AV} (h : runO P E fn args M = some r)
    {σ : List (Nat × Nat)} {vs : List Value} {w : World} (hM : MemOk σ M w) (ha : RepF σ args vs) : Gives P f vs.toArray w fun v w' => Rep σ r v ∧ Ext w w' := by
  refine .inr ⟨?_, runO_sound hf h hM ha⟩
  have hb : fn.body.isNone = false := by
    unfold runO at h
    split at h
    · cases h
    · rename_i c hb; rw [hb]; rfl
  have hn' : fn.name ≠ "runtime.NumGoroutine" := by simpa using hn
  have hb' : fn.body ≠ none := by intro e; rw [e] at hb; cases hb
  simp [callFunc, hf, hn', hb']

theorem runO_plain {P : Program} {E : List (Entry P)} {fn : Func} {args : List AV} {M : List (List AC)} {r : AV} (h : runO P E fn args M = some r) : plainA r = true := by
  unfold runO at h
  split at h
  · cases h
  · obtain ⟨o, F', M', hK, _⟩ := (exO_sound ⟨default, []⟩ 4000).1 _ _ _ _ _ h
    have fin : (match resultA P fn F' M' with | some v => cond (plainA v) (some v) none | none => none) = some r → plainA r = true := by
      intro hK
      cases hr : resultA P fn F' M' with
      | none => simp [hr] at hK
      | some v =>
        simp only [hr] at hK
        cases hp : plainA v with
        | false => simp [hp] at hK
        | true => simp only [hp, cond_true, Option.some.injEq] at hK; subst hK; exact hp
    cases o with
    | norm => exact fin hK
    | ret => exact fin hK
    | exit id => cases hK

/-- An entry's proof, for arguments without pointers. -/
theorem gives0O {P : Program} {E : List (Entry P)} {f : FuncId} {fn : Func} (hf : P.funcs[f]? = some fn) (hn : (fn.name == "runtime.NumGoroutine") = false) {args : List AV} {r : AV} (hp : args.all plainA = true)
    (h : runO P E fn args [] = some r) {σ : List (Nat × Nat)} {vs : List Value} {w : World} (ha : RepF σ args vs) : Gives P f vs.toArray w fun v w' => Rep σ r v ∧ Ext w w' := by
  have hr := runO_plain h
  rcases gives_of_runO hf hn h (MemOk.nil w) (plainF (τ := []) hp ha) with ⟨v, w', h1, h2, h3⟩ | ⟨h1, h2⟩
  · exact .inl ⟨v, w', h1, plain_rep hr h2, h3⟩
  · exact .inr ⟨h1, h2.mono fun e w' ⟨v, he, hv, hw⟩ => ⟨v, he, plain_rep hr hv, hw⟩⟩


/-- An entry's proof, for one pointer and arguments without pointers. -/
theorem gives_ptr {P : Program} {E : List (Entry P)} {f : FuncId} {fn : Func} (hf : P.funcs[f]? = some fn) (hn : (fn.name == "runtime.NumGoroutine") = false) {cs : List AC} {rest : List AV} {r : AV}
    (h : runO P E fn (.c (.ptr 0 0) :: rest) [cs] = some r) (hp : rest.all plainA = true) (hc : cs.all plainC = true) {σ : List (Nat × Nat)} {M : List (List AC)} {id : Nat} {vs : List Value} {w : World}
    (hM : MemOk σ M w) (hid : M[id]? = some cs) (ha : RepF σ (.c (.ptr id 0) :: rest) vs) : Gives P f vs.toArray w fun v w' => Rep σ r v ∧ Ext w w' := by
  have hr := runO_plain h
  cases ha with
  | cons h1 h2 =>
    obtain ⟨b, hb, hv⟩ := h1
    have hM' : MemOk [b] [cs] w := ⟨rfl, by simp, fun i b' cs' hb' hc' => by
      cases i with
      | zero =>
        cases hb'; cases hc'
        obtain ⟨vs, e, hw, ⟨k, hl⟩, hs⟩ := hM.at_ id b cs hb hid
        exact ⟨vs, e, hw, ⟨k, plainL_rep (by simp [hc]; right; rfl) hl⟩, hs⟩
      | succ i => cases hb'⟩
    have ha' : RepF [b] (.c (.ptr 0 0) :: rest) _ := .cons ⟨b, rfl, hv⟩ (plainF hp h2)
    rcases gives_of_runO hf hn h hM' ha' with ⟨v, w', h3, h4, h5⟩ | ⟨h3, h4⟩
    · exact .inl ⟨v, w', h3, plain_rep hr h4, h5⟩
    · exact .inr ⟨h3, h4.mono fun e w' ⟨v, he, hv, hw⟩ => ⟨v, he, plain_rep hr hv, hw⟩⟩

end Go.Proofs.Ytlpahmefebgdlaa.Fx
