/- Entries by the executor with loop rules. No condition. -/
import Derived.Test.YtlpahmefebgdlaaEv
import Derived.Test.YtlpahmefebgdlaaCe
import Derived.Test.YtlpahmefebgdlaaCk
namespace Go.Proofs.Ytlpahmefebgdlaa.Fx
open Go Go.RowKit

/-- A function's answer, of arguments that may lead into known blocks. -/
def runKM (P : Program) (E : List (Entry P)) (I : List FuncId) (N : List (EntryN P)) {G : World → Prop} (X : List (EntryW P G)) (lp : LoopRule) (fn : Func) (args : List AV) (M : List (List AC)) : Option AV :=
  match fn.body with
  | none => none
  | some c => exK P E I N X M.length lp [] 4000 0 M.length c (args ++ List.replicate (fn.ntmps - args.length) undefA) M fun o F M' =>
    match o with
    | .exit _ => none
    | _ => match resultA P fn F M' with
      | some v => cond (plainA v) (some v) none
      | none => none

theorem runKM_calls {P : Program} {E : List (Entry P)} {I : List FuncId} {N : List (EntryN P)} {G : World → Prop} {X : List (EntryW P G)} {lp : LoopRule} {f : FuncId} {fn : Func} (hf : P.funcs[f]? = some fn) {args : List AV} {M : List (List AC)} {r : AV}
    (hfar : ∀ j, farOff ≤ j → ∀ F M, lp j F M = none) (hl : LoopsOk P M.length G lp 0 (fn.body.getD .skip)) (hmono : ∀ w w', G w → Ext w w' → G w')
    (h : runKM P E I N X lp fn args M = some r) {σ : List (Nat × Nat)} {vs : List Value} {w : World} (hG : G w) (hM : MemOk σ M w) (ha : RepF σ args vs) :
    Calls P f vs.toArray w fun e w' => ∃ v, e = .returned v ∧ (∀ τ, Rep τ r v) ∧ Ext w w' := by
  unfold runKM at h
  split at h
  · cases h
  · rename_i c hb
    rw [hb] at hl
    obtain ⟨o, F', M', hK, hg⟩ := (exK_sound hfar hmono 4000).1 0 M.length c _ M _ r hl (drawOk_nil 0 c) h
    have hlenM := hM.len
    have h := hg ⟨w, σ⟩ hG (by show σ.length ≤ M.length; omega)
    have fin : ∀ (hK' : (match resultA P fn F' M' with | some v => cond (plainA v) (some v) none | none => none) = some r) {σ' : List (Nat × Nat)} {a' : Act} {w' : World} (hs : St σ' M.length ⟨w, σ⟩ F' M' a' w'),
        a'.defers = [] ∧ ∃ v, (results fn a'.tmps).run P w' = .ok v w' ∧ ∃ u, (Ending.returned v) = .returned u ∧ (∀ τ, Rep τ r u) ∧ Ext w w' := by
      intro hK' σ' a' w' hs
      cases hr : resultA P fn F' M' with
      | none => simp [hr] at hK'
      | some v =>
        simp only [hr] at hK'
        cases hp : plainA v with
        | false => simp [hp] at hK'
        | true =>
          simp only [hp, cond_true, Option.some.injEq] at hK'
          subst hK'
          obtain ⟨z, hz, hrz⟩ := results_sound (P := P) hs hr
          exact ⟨hs.defers, z, hz, z, rfl, fun τ => plain_rep hp hrz, hs.ext⟩
    refine calls_of_wp hf hb (h σ _ w ⟨rfl, ?_, hM, Ext.refl _, fun id b hid hbb => ?_, List.prefix_refl _⟩ _ fun σ' a' w' hs => ?_)
    · have hlen := ha.length
      have h1 : ∀ (n : Nat), RepF σ (List.replicate n undefA) (List.replicate n undef) := by
        intro n
        induction n with
        | zero => exact .nil
        | succ n ih => exact .cons rfl ih
      have h2 : ∀ {l l' : List AV} {us us' : List Value}, RepF σ l us → RepF σ l' us' → RepF σ (l ++ l') (us ++ us') := by
        intro l l' us us' h h'
        induction h with
        | nil => exact h'
        | cons h _ ih => exact .cons h ih
      simpa [hlen] using h2 ha (h1 (fn.ntmps - vs.length))
    · have := (List.getElem?_eq_some_iff.1 hbb).1
      omega
    · cases o with
      | norm => exact fin hK hs
      | ret => exact fin hK hs
      | exit id => cases hK

def anyW : World → Prop := fun _ => True
theorem anyW_mono : ∀ w w', anyW w → Ext w w' → anyW w' := fun _ _ _ _ => trivial

/-- An entry's proof. -/
theorem givesM {P : Program} {E : List (Entry P)} {I : List FuncId} {N : List (EntryN P)} {lp : LoopRule} {f : FuncId} {fn : Func} (hf : P.funcs[f]? = some fn) (hn : (fn.name == "runtime.NumGoroutine") = false) {args : List AV} {r : AV}
    (hfar : ∀ j, farOff ≤ j → ∀ F M, lp j F M = none) (hl : LoopsOk P 0 anyW lp 0 (fn.body.getD .skip)) (hp : args.all plainA = true)
    (h : runKM P E I N (G := anyW) [] lp fn args [] = some r) {σ : List (Nat × Nat)} {vs : List Value} {w : World} (ha : RepF σ args vs) : Gives P f vs.toArray w fun v w' => Rep σ r v ∧ Ext w w' := by
  have hb : ∃ c, fn.body = some c := by
    unfold runKM at h
    split at h
    · cases h
    · exact ⟨_, by assumption⟩
  obtain ⟨c, hb⟩ := hb
  exact .inr ⟨enter_of hf hn hb, (runKM_calls (M := []) hf hfar hl anyW_mono h (w := w) trivial (MemOk.nil w) (plainF (τ := []) hp ha)).mono fun e w' ⟨v, he, hv, hw⟩ => ⟨v, he, hv σ, hw⟩⟩

/-- An entry's proof, for one slice and arguments without pointers. -/
theorem givesM_slc {P : Program} {E : List (Entry P)} {I : List FuncId} {N : List (EntryN P)} {lp : LoopRule} {f : FuncId} {fn : Func} (hf : P.funcs[f]? = some fn) (hn : (fn.name == "runtime.NumGoroutine") = false) {cs : List AC} {n : Nat} {rest : List AV} {r : AV}
    (hfar : ∀ j, farOff ≤ j → ∀ F M, lp j F M = none) (hl : LoopsOk P 1 anyW lp 0 (fn.body.getD .skip))
    (h : runKM P E I N (G := anyW) [] lp fn (.c (.slc 0 n) :: rest) [cs] = some r) (hp : rest.all plainA = true) (hc : cs.all plainC = true) {σ : List (Nat × Nat)} {M : List (List AC)} {id : Nat} {vs : List Value} {w : World}
    (hM : MemOk σ M w) (hid : M[id]? = some cs) (ha : RepF σ (.c (.slc id n) :: rest) vs) : Gives P f vs.toArray w fun v w' => Rep σ r v ∧ Ext w w' := by
  have hb : ∃ c, fn.body = some c := by
    unfold runKM at h
    split at h
    · cases h
    · exact ⟨_, by assumption⟩
  obtain ⟨c, hb⟩ := hb
  cases ha with
  | cons h1 h2 =>
    obtain ⟨b, hbb, hle, hv⟩ := h1
    have hM' : MemOk [b] [cs] w := ⟨rfl, by simp, fun i b' cs' hb' hc' => by
      cases i with
      | zero =>
        cases hb'; cases hc'
        obtain ⟨vs, e, hw, ⟨k, hl⟩, hs⟩ := hM.at_ id b cs hbb hid
        exact ⟨vs, e, hw, ⟨k, plainL_rep (by simp [hc]; right; rfl) hl⟩, hs⟩
      | succ i => cases hb'⟩
    have ha' : RepF [b] (.c (.slc 0 n) :: rest) _ := .cons ⟨b, rfl, hle, hv⟩ (plainF hp h2)
    exact .inr ⟨enter_of hf hn hb, (runKM_calls (M := [cs]) hf hfar hl anyW_mono h (w := w) trivial hM' ha').mono fun e w' ⟨v, he, hv, hw⟩ => ⟨v, he, hv σ, hw⟩⟩

theorem noRule_far : ∀ j, farOff ≤ j → ∀ F M, noRule j F M = none := fun _ _ _ _ => rfl

-- the shapes of functions
theorem okMD {P : Program} {E : List (Entry P)} {I : List FuncId} {N : List (EntryN P)} {lp : LoopRule} {f : FuncId} {fn : Func} {g : F64 → Bool × AV} (hf : P.funcs[f]? = some fn) (hn : (fn.name == "runtime.NumGoroutine") = false)
    (hfar : ∀ j, farOff ≤ j → ∀ F M, lp j F M = none) (hl : LoopsOk P 0 anyW lp 0 (fn.body.getD .skip))
    (h : ∀ (x0 : F64), (g x0).1 = true → runKM P E I N (G := anyW) [] lp fn [.c (.fl .f64 x0)] [] = some (g x0).2) : EOk P f (shD g) := by
  intro args M r hr σ vs w _ ha
  unfold shD at hr
  split at hr
  · rename_i x0
    have hr' := Option.some.inj hr
    have h1 := h x0 (by rw [hr'])
    rw [hr'] at h1
    exact givesM hf hn hfar hl rfl h1 ha
  · cases hr
theorem okMS {P : Program} {E : List (Entry P)} {I : List FuncId} {N : List (EntryN P)} {lp : LoopRule} {f : FuncId} {fn : Func} {g : F32 → Bool × AV} (hf : P.funcs[f]? = some fn) (hn : (fn.name == "runtime.NumGoroutine") = false)
    (hfar : ∀ j, farOff ≤ j → ∀ F M, lp j F M = none) (hl : LoopsOk P 0 anyW lp 0 (fn.body.getD .skip))
    (h : ∀ (x0 : F32), (g x0).1 = true → runKM P E I N (G := anyW) [] lp fn [.c (.fl .f32 x0)] [] = some (g x0).2) : EOk P f (shS g) := by
  intro args M r hr σ vs w _ ha
  unfold shS at hr
  split at hr
  · rename_i x0
    have hr' := Option.some.inj hr
    have h1 := h x0 (by rw [hr'])
    rw [hr'] at h1
    exact givesM hf hn hfar hl rfl h1 ha
  · cases hr
theorem okMSSS {P : Program} {E : List (Entry P)} {I : List FuncId} {N : List (EntryN P)} {lp : LoopRule} {f : FuncId} {fn : Func} {g : F32 → F32 → F32 → Bool × AV} (hf : P.funcs[f]? = some fn) (hn : (fn.name == "runtime.NumGoroutine") = false)
    (hfar : ∀ j, farOff ≤ j → ∀ F M, lp j F M = none) (hl : LoopsOk P 0 anyW lp 0 (fn.body.getD .skip))
    (h : ∀ (x0 x1 x2 : F32), (g x0 x1 x2).1 = true → runKM P E I N (G := anyW) [] lp fn [.c (.fl .f32 x0), .c (.fl .f32 x1), .c (.fl .f32 x2)] [] = some (g x0 x1 x2).2) : EOk P f (shSSS g) := by
  intro args M r hr σ vs w _ ha
  unfold shSSS at hr
  split at hr
  · rename_i x0 x1 x2
    have hr' := Option.some.inj hr
    have h1 := h x0 x1 x2 (by rw [hr'])
    rw [hr'] at h1
    exact givesM hf hn hfar hl rfl h1 ha
  · cases hr
theorem okMSSSS {P : Program} {E : List (Entry P)} {I : List FuncId} {N : List (EntryN P)} {lp : LoopRule} {f : FuncId} {fn : Func} {g : F32 → F32 → F32 → F32 → Bool × AV} (hf : P.funcs[f]? = some fn) (hn : (fn.name == "runtime.NumGoroutine") = false)
    (hfar : ∀ j, farOff ≤ j → ∀ F M, lp j F M = none) (hl : LoopsOk P 0 anyW lp 0 (fn.body.getD .skip))
    (h : ∀ (x0 x1 x2 x3 : F32), (g x0 x1 x2 x3).1 = true → runKM P E I N (G := anyW) [] lp fn [.c (.fl .f32 x0), .c (.fl .f32 x1), .c (.fl .f32 x2), .c (.fl .f32 x3)] [] = some (g x0 x1 x2 x3).2) : EOk P f (shSSSS g) := by
  intro args M r hr σ vs w _ ha
  unfold shSSSS at hr
  split at hr
  · rename_i x0 x1 x2 x3
    have hr' := Option.some.inj hr
    have h1 := h x0 x1 x2 x3 (by rw [hr'])
    rw [hr'] at h1
    exact givesM hf hn hfar hl rfl h1 ha
  · cases hr

-- loops by rounds
theorem InGoes.weaken {P : Program} {n0 : Nat} {w0 : Base} {x : Code} {F F' : List AV} {M M' : List (List AC)} {o : Out} (m : List Bool) (h : InGoes P n0 w0 x (Fx.weaken m F) M o F' M') : InGoes P n0 w0 x F M o F' M' :=
  fun σ a w hS Q hQ => h σ a w (hS.weaken m) Q hQ
/-- A loop's number k of a function. -/
def loopN (k : Nat) (fn : Func) : Code := (loopsAll (fn.body.getD .skip)).getD k .skip
end Go.Proofs.Ytlpahmefebgdlaa.Fx
