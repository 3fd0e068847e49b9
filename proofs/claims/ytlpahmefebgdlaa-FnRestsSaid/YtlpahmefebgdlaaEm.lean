/- A function's run in two parts: up to a region, and from it on with a frame that forgets. No condition. -/
import Derived.Test.YtlpahmefebgdlaaEk
namespace Go.Proofs.Ytlpahmefebgdlaa.Fx
open Go Go.RowKit

variable {R : Type}

/-- Does a code begin with this region? -/
def beginsAt (k : Nat) : Code → Bool
  | .seq (.region i _ _) _ => i == k
  | _ => false

/-- A code's run up to a region; there T goes on, with what the mask keeps of the frame. -/
def exT (P : Program) (E : List (Entry P)) (I : List FuncId) (N : List (EntryN P)) {G : World → Prop} (X : List (EntryW P G)) (lp : LoopRule) (D : List Nat) (k : Nat) (m : List Bool) (T : List AV → Option R) (K : Out → List AV → List (List AC) → Option R) : Nat → Nat → Code → List AV → List (List AC) → Option R
  | 0, _, _, _, _ => none
  | n + 1, i, c, F, M => cond (beginsAt k c) (cond ((weaken m F).all plainA) (T (weaken m F)) none)
    (match c with
    | .seq x y => exK P E I N X 0 lp D 4000 i 0 x F M fun o F M =>
      match o with
      | .norm => exT P E I N X lp D k m T K n (i + loopCount x) y F M
      | .exit id => K (.exit id) F M
      | .ret => K .ret F M
    | _ => none)

/-- What is behind the region. -/
def behindAt (k : Nat) : Nat → Nat → Code → Option (Nat × Code)
  | 0, _, _ => none
  | n + 1, i, c => cond (beginsAt k c) (some (i, c)) (match c with
    | .seq x y => behindAt k n (i + loopCount x) y
    | _ => none)

theorem St.forget {σ : List (Nat × Nat)} {w0 : Base} {F : List AV} {M : List (List AC)} {a : Act} {w : World} (h : St σ 0 w0 F M a w) (h0 : w0.s0 = []) (hp : F.all plainA = true) : St [] 0 w0 F [] a w :=
  ⟨h.defers, plainF hp h.frame, MemOk.nil w, h.ext, fun id b _ hb => (by cases hb), (by rw [h0]; exact List.prefix_refl _)⟩

theorem exT_sound {P : Program} {E : List (Entry P)} {I : List FuncId} {N : List (EntryN P)} {G : World → Prop} {X : List (EntryW P G)} {lp : LoopRule} {D : List Nat} (hfar : ∀ j, farOff ≤ j → ∀ F M, lp j F M = none) (hmono : ∀ w w', G w → Ext w w' → G w')
    {k : Nat} {m : List Bool} {T : List AV → Option R} {K : Out → List AV → List (List AC) → Option R} : ∀ (n i : Nat) (c : Code) (F : List AV) (M : List (List AC)) (r : R), LoopsOk P 0 G lp i c → DrawOk P D i c →
    (∀ j t, behindAt k n i c = some (j, t) → ∀ F r, T F = some r → ∃ o F' M', K o F' M' = some r ∧ ∀ w0 : Base, G w0.toWorld → w0.s0.length ≤ 0 → CodeGoes P 0 w0 t F [] o F' M') →
    exT P E I N X lp D k m T K n i c F M = some r → ∃ o F' M', K o F' M' = some r ∧ ∀ w0 : Base, G w0.toWorld → w0.s0.length ≤ 0 → CodeGoes P 0 w0 c F M o F' M'
  | 0, _, _, _, _, _, _, _, _, h => by cases h
  | n + 1, i, c, F, M, r, hl, hd, hT, h => by
    unfold exT at h
    cases hb : beginsAt k c with
    | true =>
      rw [hb] at h
      simp only [cond_true] at h
      cases hp : (weaken m F).all plainA with
      | false => rw [hp] at h; cases h
      | true =>
        rw [hp] at h
        simp only [cond_true] at h
        obtain ⟨o, F', M', hK, hg⟩ := hT i c (by unfold behindAt; rw [hb]; rfl) _ _ h
        refine ⟨o, F', M', hK, fun w0 hG hk σ a w hS Q hQ => ?_⟩
        exact hg w0 hG hk [] a w ((hS.weaken m).forget (List.eq_nil_of_length_eq_zero (Nat.le_zero.1 hk)) hp) Q hQ
    | false =>
      rw [hb] at h
      simp only [cond_false] at h
      cases c with
      | seq x y =>
        simp only at h
        obtain ⟨o, F1, M1, hK1, hx⟩ := (exK_sound hfar hmono 4000).1 i 0 x F M _ r (hl.left rfl) (hd.sub (Nat.le_refl _) fun _ h => List.mem_append_left _ h) h
        cases o with
        | norm =>
          obtain ⟨o, F', M', hK, hy⟩ := exT_sound hfar hmono n (i + loopCount x) y F1 M1 r (hl.right rfl) (hd.sub (Nat.le_add_right _ _) fun _ h => List.mem_append_right _ h) (fun j t hj => hT j t (by unfold behindAt; rw [hb]; exact hj)) hK1
          exact ⟨o, F', M', hK, fun w0 hG hk σ a w hS Q hQ => wp_seq (hx w0 hG hk σ a w hS _ fun σ' a' w' hs => hy w0 hG hk σ' a' w' hs Q hQ)⟩
        | exit id => exact ⟨.exit id, F1, M1, hK1, fun w0 hG hk σ a w hS Q hQ => wp_seq (hx w0 hG hk σ a w hS _ fun σ' a' w' hs => hQ σ' a' w' hs)⟩
        | ret => exact ⟨.ret, F1, M1, hK1, fun w0 hG hk σ a w hS Q hQ => wp_seq (hx w0 hG hk σ a w hS _ fun σ' a' w' hs => hQ σ' a' w' hs)⟩
      | _ => cases h

/-- A function's answer out of its last frame. -/
def answerA (P : Program) (fn : Func) (o : Out) (F : List AV) (M : List (List AC)) : Option AV :=
  match o with
  | .exit _ => none
  | _ => match resultA P fn F M with
    | some v => cond (plainA v) (some v) none
    | none => none
/-- The first part of a function's run. -/
def runHead (P : Program) (E : List (Entry P)) (I : List FuncId) (N : List (EntryN P)) {G : World → Prop} (X : List (EntryW P G)) (lp : LoopRule) (D : List Nat) (k : Nat) (m : List Bool) (fn : Func) (args : List AV) (T : List AV → Option AV) : Option AV :=
  exT P E I N X lp D k m T (answerA P fn) 400 0 (fn.body.getD .skip) (args ++ List.replicate (fn.ntmps - args.length) undefA) []
/-- The second part. -/
def runTail (P : Program) (E : List (Entry P)) (I : List FuncId) (N : List (EntryN P)) {G : World → Prop} (X : List (EntryW P G)) (lp : LoopRule) (D : List Nat) (k : Nat) (fn : Func) (F : List AV) : Option AV :=
  match behindAt k 400 0 (fn.body.getD .skip) with
  | some (j, t) => exK P E I N X 0 lp D 4000 j 0 t F [] (answerA P fn)
  | none => none

theorem behind_ok {P : Program} {G : World → Prop} {lp : LoopRule} {D : List Nat} {k : Nat} : ∀ (n i : Nat) (c : Code) (j : Nat) (t : Code), behindAt k n i c = some (j, t) → LoopsOk P 0 G lp i c → DrawOk P D i c → LoopsOk P 0 G lp j t ∧ DrawOk P D j t
  | 0, _, _, _, _, h, _, _ => by cases h
  | n + 1, i, c, j, t, h, hl, hd => by
    unfold behindAt at h
    cases hb : beginsAt k c with
    | true =>
      rw [hb] at h
      simp only [cond_true, Option.some.injEq, Prod.mk.injEq] at h
      obtain ⟨rfl, rfl⟩ := h
      exact ⟨hl, hd⟩
    | false =>
      rw [hb] at h
      simp only [cond_false] at h
      cases c with
      | seq x y => exact behind_ok n _ y j t h (hl.right rfl) (hd.sub (Nat.le_add_right _ _) fun _ h => List.mem_append_right _ h)
      | _ => cases h

theorem run2_sound {P : Program} {E E2 : List (Entry P)} {I I2 : List FuncId} {N N2 : List (EntryN P)} {G : World → Prop} {X X2 : List (EntryW P G)} {lp : LoopRule} {D : List Nat} {k : Nat} {m : List Bool} {f : FuncId} {fn : Func} (hf : P.funcs[f]? = some fn) (hb : fn.body = some (fn.body.getD .skip)) {args : List AV} {r : AV} (hp : args.all plainA = true)
    (hfar : ∀ j, farOff ≤ j → ∀ F M, lp j F M = none) (hl : LoopsOk P 0 G lp 0 (fn.body.getD .skip)) (hd : DrawOk P D 0 (fn.body.getD .skip)) (hmono : ∀ w w', G w → Ext w w' → G w')
    (h : runHead P E I N X lp D k m fn args (runTail P E2 I2 N2 X2 lp D k fn) = some r) {σ : List (Nat × Nat)} {vs : List Value} {w : World} (hG : G w) (ha : RepF σ args vs) :
    Calls P f vs.toArray w fun e w' => ∃ v, e = .returned v ∧ Rep σ r v ∧ Ext w w' := by
  unfold runHead at h
  obtain ⟨o, F', M', hK, hg⟩ := exT_sound hfar hmono 400 0 _ _ [] r hl hd (fun j t hj F r hT => by
    unfold runTail at hT
    rw [hj] at hT
    obtain ⟨h1, h2⟩ := behind_ok 400 0 _ j t hj hl hd
    exact (exK_sound hfar hmono 4000).1 j 0 t F [] _ r h1 h2 hT) h
  exact calls_of_goesG hf hb hK (hg ⟨w, []⟩ hG (Nat.le_refl _)) hp ha
end Go.Proofs.Ytlpahmefebgdlaa.Fx
