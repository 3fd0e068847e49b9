/- Contracts: points of rest on the axis, two ways. No condition. -/
import Derived.Test.YtlpahmefebgdlaaCk
namespace Go.Proofs.Ytlpahmefebgdlaa.Fx
open Go Go.RowKit

theorem loop_inv {P : Program} {n0 : Nat} {w0 : Base} {x : Code} {M : List (List AC)} {α : Type} (Inv : Nat → α → Prop) (Fr : Nat → α → List AV) (fin : α → Out × List AV) (step : α → (Out × List AV) ⊕ α) (N : Nat)
    (hfin : ∀ s, Inv N s → (fin s).1 ≠ .norm ∧ CodeGoes P n0 w0 x (Fr N s) M (fin s).1 (fin s).2 M)
    (hround : ∀ i s, i < N → Inv i s → match step s with
      | .inl r => r.1 ≠ .norm ∧ CodeGoes P n0 w0 x (Fr i s) M r.1 r.2 M
      | .inr s' => Inv (i + 1) s' ∧ CodeGoes P n0 w0 x (Fr i s) M .norm (Fr (i + 1) s') M) :
    ∀ (n i : Nat) (s : α), i + n = N → Inv i s → CodeGoes P n0 w0 (.loop x) (Fr i s) M (loopRes fin step n s).1 (loopRes fin step n s).2 M := by
  have one : ∀ {F : List AV} {o : Out} {F' : List AV}, o ≠ .norm → CodeGoes P n0 w0 x F M o F' M → ∀ (σ : List (Nat × Nat)) (a : Act) (w : World), St σ n0 w0 F M a w →
      ∀ (Q : Exit → Act → World → Prop), (∀ σ' a' w', St σ' n0 w0 F' M a' w' → Q o.toExit a' w') → Code.rounds P x Q 1 a w := by
    intro F o F' ho hc σ a w hS Q hQ
    refine hc σ a w hS _ fun σ' a' w' hs => ?_
    cases o with
    | norm => exact (ho rfl).elim
    | exit id => exact hQ _ _ _ hs
    | ret => exact hQ _ _ _ hs
  have key : ∀ (n i : Nat) (s : α), i + n = N → Inv i s → ∃ m, ∀ (σ : List (Nat × Nat)) (a : Act) (w : World), St σ n0 w0 (Fr i s) M a w →
      ∀ (Q : Exit → Act → World → Prop), (∀ σ' a' w', St σ' n0 w0 (loopRes fin step n s).2 M a' w' → Q (loopRes fin step n s).1.toExit a' w') → Code.rounds P x Q m a w := by
    intro n
    induction n with
    | zero =>
      intro i s hi hI
      have : i = N := by omega
      subst this
      exact ⟨1, one (hfin s hI).1 (hfin s hI).2⟩
    | succ n ih =>
      intro i s hi hI
      have hr := hround i s (by omega) hI
      simp only [loopRes]
      cases hs : step s with
      | inl r =>
        rw [hs] at hr
        exact ⟨1, one hr.1 hr.2⟩
      | inr s' =>
        rw [hs] at hr
        obtain ⟨m, hm⟩ := ih (i + 1) s' (by omega) hr.1
        exact ⟨m + 1, fun σ a w hS Q hQ => hr.2 σ a w hS _ fun σ' a' w' hs => hm σ' a' w' hs Q hQ⟩
  intro n i s hi hI σ a w hS Q hQ
  obtain ⟨m, hm⟩ := key n i s hi hI
  exact wp_loop_rounds m (hm σ a w hS Q hQ)

-- bisection for a point of rest
def mid (s : F32 × F32) : F32 := half32' * (s.1 + s.2)
where half32' : F32 := c32 1056964608
def rsNext (sh : F32) (s : F32 × F32) : F32 × F32 := bif gt (slX sh (mid s) (c32 0)) (c32 0) then (s.1, mid s) else (mid s, s.2)
/-- The place, or none where a slope is not finite. -/
def rsRun (sh : F32) : Nat → F32 × F32 → Option (F32 × F32)
  | 0, s => some s
  | n + 1, s => bif slFin sh (mid s) (c32 0) then rsRun sh n (rsNext sh s) else none
/-- All lengths fit on the way, and all places are finite. -/
def rsFit (sh : F32) : Nat → F32 × F32 → Bool
  | 0, _ => true
  | n + 1, s => (frFit sh (mid s) (c32 0) && finS (mid s)) && rsFit sh n (rsNext sh s)

def rsStep {β : Type} (sh : F32) (early : β) (s : F32 × F32) : β ⊕ (F32 × F32) := bif slFin sh (mid s) (c32 0) then .inr (rsNext sh s) else .inl early
theorem rs_res (sh : F32) (early : Out × List AV) (fin : F32 × F32 → Out × List AV) : ∀ (n : Nat) (s : F32 × F32), loopRes fin (rsStep sh early) n s = match rsRun sh n s with
    | some s' => fin s'
    | none => early
  | 0, s => rfl
  | n + 1, s => by
    simp only [loopRes, rsRun, rsStep]
    cases slFin sh (mid s) (c32 0) with
    | true => exact rs_res sh early fin n _
    | false => rfl
def rsCond (sh lo hi : F32) : Bool := isShare sh && rsFit sh 26 (lo, hi)
def rsX (sh lo hi : F32) : F32 := match rsRun sh 26 (lo, hi) with | some s => s.1 | none => c32 0
def rsB (sh lo hi : F32) : Bool := (rsRun sh 26 (lo, hi)).isSome

/-- Outcomes, with what need not be known forgotten. -/
def keepO (m r : List Bool) (o : Out) (F : List AV) (M : List (List AC)) : Option (Out × List AV × List (List AC)) :=
  match o with
  | .ret => some (.ret, weaken r F, M)
  | o => some (o, weaken m F, M)
theorem goes_keep {P : Program} {E : List (Entry P)} {n0 : Nat} (w0 : Base) {n : Nat} {c : Code} {F F' : List AV} {M M' : List (List AC)} {o : Out} {m r : List Bool}
    (h : exC P E n0 n c F M (keepO m r) = some (o, F', M')) : CodeGoes P n0 w0 c F M o F' M' := by
  obtain ⟨o1, F1, M1, hK, hg⟩ := (exC_sound w0 n).1 c F M _ _ h
  cases o1 with
  | ret => cases hK; exact fun σ a w hS Q hQ => hg σ a w hS Q fun σ' a' w' hs => hQ σ' a' w' (hs.weaken r)
  | norm => cases hK; exact fun σ a w hS Q hQ => hg σ a w hS Q fun σ' a' w' hs => hQ σ' a' w' (hs.weaken m)
  | exit id => cases hK; exact fun σ a w hS Q hQ => hg σ a w hS Q fun σ' a' w' hs => hQ σ' a' w' (hs.weaken m)
def outF (r : Option (Out × List AV × List (List AC))) : List AV := match r with
  | some (_, F, _) => F
  | none => []
theorem enter_of {P : Program} {f : FuncId} {fn : Func} {c : Code} (hf : P.funcs[f]? = some fn) (hn : (fn.name == "runtime.NumGoroutine") = false) (hb : fn.body = some c) {args : Array Value} {w : World} : (callFunc f args).run P w = .ok (.enter f args) w := by
  have hn' : fn.name ≠ "runtime.NumGoroutine" := by simpa using hn
  simp [callFunc, hf, hn', hb]
/-- The frame behind a code. -/
def afterC (P : Program) (E : List (Entry P)) (c : Code) (F : List AV) : List AV := outF (exC P E 0 400 c F [] (keepO [] []))
def seqL : Code → Code
  | .seq x _ => x
  | c => c
def seqR : Code → Code
  | .seq _ y => y
  | c => c

/-- A function with one loop, which returns from within it or goes on behind it. -/
theorem around {P : Program} {w0 : Base} {A B X C : Code} {F F1 F2 F3 F4 : List AV} {o : Out} (hA : CodeGoes P 0 w0 A F [] .norm F1 []) (hB : CodeGoes P 0 w0 B F1 [] .norm F2 []) (hX : CodeGoes P 0 w0 (.loop X) F2 [] o F3 [])
    (ho : o = .ret ∧ F4 = F3 ∨ o = .exit 0 ∧ CodeGoes P 0 w0 C F3 [] .ret F4 []) : CodeGoes P 0 w0 (.seq A (.seq (.seq B (.block 0 (.loop X))) C)) F [] .ret F4 [] := by
  intro σ a w hS Q hQ
  refine wp_seq (hA σ a w hS _ fun σ1 a1 w1 h1 => wp_seq (wp_seq (hB σ1 a1 w1 h1 _ fun σ2 a2 w2 h2 => wp_block (hX σ2 a2 w2 h2 _ fun σ3 a3 w3 h3 => ?_))))
  rcases ho with ⟨rfl, rfl⟩ | ⟨rfl, hC⟩
  · exact hQ _ _ _ h3
  · exact hC σ3 a3 w3 h3 Q hQ

theorem rs_finish {N : Nat} (sh lo hi : F32) {P : Program} {w0 : Base} {x : Code} {Fr : Int → F32 → F32 → List AV} {Ret : List AV} {E : List (Entry P)} {n : Nat} {m r : List Bool} (hN : N = 26) (hfit : rsFit sh N (lo, hi) = true)
    (hr : ∀ (z : Int) (lo hi : F32), frFit sh (mid (lo, hi)) (c32 0) = true → finS (mid (lo, hi)) = true → exC P E 0 n x (Fr z lo hi) [] (keepO m r) =
      bif decide (z < 26) then (bif !(slFin sh (mid (lo, hi)) (c32 0)) then some (.ret, Ret, []) else
        (bif gt (slX sh (mid (lo, hi)) (c32 0)) (c32 0) then some (.norm, Fr (IntKind.i64.wrap (z + 1)) lo (mid (lo, hi)), []) else some (.norm, Fr (IntKind.i64.wrap (z + 1)) (mid (lo, hi)) hi, [])))
        else some (.exit 0, Fr z lo hi, []))
    (hx : ∀ (z : Int) (lo hi : F32), 26 ≤ z → exC P E 0 n x (Fr z lo hi) [] (keepO m r) = some (.exit 0, Fr z lo hi, [])) :
    CodeGoes P 0 w0 (.loop x) (Fr 0 lo hi) [] (match rsRun sh N (lo, hi) with | some _ => .exit 0 | none => .ret) (match rsRun sh N (lo, hi) with | some s => Fr N s.1 s.2 | none => Ret) [] := by
  have h := loop_inv (P := P) (n0 := 0) (w0 := w0) (x := x) (M := []) (α := F32 × F32) (fun i s => rsFit sh (N - i) s = true) (fun i s => Fr (i : Int) s.1 s.2) (fun s => (.exit 0, Fr N s.1 s.2))
    (rsStep sh (.ret, Ret)) N ?_ ?_ N 0 (lo, hi) (by omega) (by simpa using hfit)
  · rw [rs_res] at h
    cases hs : rsRun sh N (lo, hi) with
    | none => rw [hs] at h; exact h
    | some s => rw [hs] at h; exact h
  · intro s _
    refine ⟨(by intro h; cases h), goes_keep (m := m) (r := r) (n := n) (E := E) w0 ?_⟩
    exact hx _ _ _ (by omega)
  · intro i s hi hI
    obtain ⟨k, hk⟩ : ∃ k, N - i = k + 1 := ⟨N - i - 1, by omega⟩
    rw [hk] at hI
    simp only [rsFit, Bool.and_eq_true] at hI
    obtain ⟨⟨h1, h2⟩, h3⟩ := hI
    have hq := hr (i : Int) s.1 s.2 h1 h2
    have hz : decide ((i : Int) < 26) = true := by simp; omega
    rw [hz, wrap_small (by omega)] at hq
    have hk2 : N - (i + 1) = k := by omega
    simp only [rsStep]
    cases hf : slFin sh (mid s) (c32 0) with
    | false =>
      rw [show slFin sh (mid (s.1, s.2)) (c32 0) = false from hf] at hq
      exact ⟨(by intro h; cases h), goes_keep w0 hq⟩
    | true =>
      rw [show slFin sh (mid (s.1, s.2)) (c32 0) = true from hf] at hq
      refine ⟨by rw [hk2]; exact h3, ?_⟩
      unfold rsNext
      cases hg : gt (slX sh (mid s) (c32 0)) (c32 0) with
      | true => rw [show gt (slX sh (mid (s.1, s.2)) (c32 0)) (c32 0) = true from hg] at hq; exact goes_keep w0 hq
      | false => rw [show gt (slX sh (mid (s.1, s.2)) (c32 0)) (c32 0) = false from hg] at hq; exact goes_keep w0 hq

def eRestFr (sh : F32) (z : Int) (lo hi : F32) : List AV := [.c (.fl .f32 sh), .c (.fl .f32 lo), .c (.fl .f32 hi), .c .any, .c .any, .c .any, .c .any, .c .any, .c .any, .c .any, .c .any, .c (.val (.int .i64 z)), .c .any, .c .any, .c .any, .c .any, .c .any, .c .any, .c .any, .c .any, .c .any, .c .any, .c .any, .c .any, .c .any, .c .any, .c .any, .c .any, .c .any, .c .any, .c .any, .c .any, .c .any, .c .any]
def eRestRet : List AV := [.c .any, .c .any, .c .any, .c .any, .c .any, .c .any, .c (.cx .f32 (c32 0) (c32 0)), .c (.sb false), .c .any, .c .any, .c .any, .c .any, .c .any, .c .any, .c .any, .c .any, .c .any, .c .any, .c .any, .c .any, .c .any, .c .any, .c .any, .c .any, .c .any, .c .any, .c .any, .c .any, .c .any, .c .any, .c .any, .c .any, .c .any, .c .any]
def eRestM : List Bool := [true, true, true, false, false, false, false, false, false, false, false, true, false, false, false, false, false, false, false, false, false, false, false, false, false, false, false, false, false, false, false, false, false, false]
def eRestR : List Bool := [false, false, false, false, false, false, true, true, false, false, false, false, false, false, false, false, false, false, false, false, false, false, false, false, false, false, false, false, false, false, false, false, false, false]
theorem eRest_raw (sh lo hi : F32) (z : Int) : exC Try.prog [eSlope] 0 400 (loop0 Try.f57) (eRestFr sh z lo hi) [] (keepO eRestM eRestR) = bif decide (z < 26) then (bif !(isPt sh (mid (lo, hi)) (c32 0)) || frFit sh (mid (lo, hi)) (c32 0) then (bif !(isPt sh (mid (lo, hi)) (c32 0) && slFin sh (mid (lo, hi)) (c32 0)) then some (.ret, eRestRet, []) else
      (bif gt (bif isPt sh (mid (lo, hi)) (c32 0) then tcX (slX sh (mid (lo, hi)) (c32 0)) (slY sh (mid (lo, hi)) (c32 0)) else c32 0) (c32 0) then some (.norm, eRestFr sh (IntKind.i64.wrap (z + 1)) lo (mid (lo, hi)), []) else some (.norm, eRestFr sh (IntKind.i64.wrap (z + 1)) (mid (lo, hi)) hi, []))) else none) else some (.exit 0, eRestFr sh z lo hi, []) := by kernel_rfl
theorem eRest_round (sh : F32) (hsh : isShare sh = true) (z : Int) (lo hi : F32) (h1 : frFit sh (mid (lo, hi)) (c32 0) = true) (h2 : finS (mid (lo, hi)) = true) : exC Try.prog [eSlope] 0 400 (loop0 Try.f57) (eRestFr sh z lo hi) [] (keepO eRestM eRestR) =
      bif decide (z < 26) then (bif !(slFin sh (mid (lo, hi)) (c32 0)) then some (.ret, eRestRet, []) else
        (bif gt (slX sh (mid (lo, hi)) (c32 0)) (c32 0) then some (.norm, eRestFr sh (IntKind.i64.wrap (z + 1)) lo (mid (lo, hi)), []) else some (.norm, eRestFr sh (IntKind.i64.wrap (z + 1)) (mid (lo, hi)) hi, [])))
        else some (.exit 0, eRestFr sh z lo hi, []) := by
  rw [eRest_raw]
  have hp : isPt sh (mid (lo, hi)) (c32 0) = true := by
    unfold isPt cfin
    rw [hsh, h2]; kernel_rfl
  rw [hp, h1]
  cases decide (z < 26)
  · rfl
  · cases h3 : slFin sh (mid (lo, hi)) (c32 0)
    · rfl
    · have ht : tcX (slX sh (mid (lo, hi)) (c32 0)) (slY sh (mid (lo, hi)) (c32 0)) = slX sh (mid (lo, hi)) (c32 0) := by
        unfold tcX
        rw [show cfin (slX sh (mid (lo, hi)) (c32 0)) (slY sh (mid (lo, hi)) (c32 0)) = true from h3]; rfl
      rw [ht]; rfl
theorem eRest_out (sh : F32) (z : Int) (lo hi : F32) (hz : 26 ≤ z) : exC Try.prog [eSlope] 0 400 (loop0 Try.f57) (eRestFr sh z lo hi) [] (keepO eRestM eRestR) = some (.exit 0, eRestFr sh z lo hi, []) := by
  rw [eRest_raw]
  have : decide (z < 26) = false := by simpa using hz
  rw [this]; rfl
def eRestIn (sh lo hi : F32) : List AV := [.c (.fl .f32 sh), .c (.fl .f32 lo), .c (.fl .f32 hi)] ++ List.replicate 31 undefA
theorem eRest_A (sh lo hi : F32) : exC Try.prog [eSlope] 0 400 (seqL (Try.f57.body.getD .skip)) (eRestIn sh lo hi) [] (keepO [] []) = some (.norm, afterC Try.prog [eSlope] (seqL (Try.f57.body.getD .skip)) (eRestIn sh lo hi), []) := by kernel_rfl
theorem eRest_B (sh lo hi : F32) : exC Try.prog [eSlope] 0 400 (seqL (seqL (seqR (Try.f57.body.getD .skip)))) (afterC Try.prog [eSlope] (seqL (Try.f57.body.getD .skip)) (eRestIn sh lo hi)) [] (keepO eRestM eRestR) = some (.norm, eRestFr sh 0 lo hi, []) := by kernel_rfl
theorem eRest_C (sh lo hi : F32) : exC Try.prog [eSlope] 0 400 (seqR (seqR (Try.f57.body.getD .skip))) (eRestFr sh 26 lo hi) [] (keepO [] []) = some (.ret, afterC Try.prog [eSlope] (seqR (seqR (Try.f57.body.getD .skip))) (eRestFr sh 26 lo hi), []) := by kernel_rfl
theorem eRest_body : Try.f57.body = some (.seq (seqL (Try.f57.body.getD .skip)) (.seq (.seq (seqL (seqL (seqR (Try.f57.body.getD .skip)))) (.block 0 (.loop (loop0 Try.f57)))) (seqR (seqR (Try.f57.body.getD .skip))))) := by kernel_rfl
theorem eRest_ok : EOk Try.prog 57 (shSSS fun sh lo hi => (rsCond sh lo hi, .tup [.cx .f32 (rsX sh lo hi) (c32 0), .sb (rsB sh lo hi)])) := by
  intro args M r hr σ vs w _ ha
  unfold shSSS at hr
  split at hr
  · rename_i sh lo hi
    have hr' := Option.some.inj hr
    simp only [Prod.mk.injEq] at hr'
    obtain ⟨hc, rfl⟩ := hr'
    unfold rsCond at hc
    rw [Bool.and_eq_true] at hc
    refine .inr ⟨?_, calls_of_goes Try.func57 eRest_body (fun w0 => ?_) (by rfl) ha⟩
    · exact enter_of Try.func57 (by kernel_rfl) eRest_body
    · have hA := goes_keep w0 (eRest_A sh lo hi)
      have hB := goes_keep w0 (eRest_B sh lo hi)
      have hX := rs_finish (N := 26) sh lo hi (w0 := w0) (Fr := eRestFr sh) (Ret := eRestRet) rfl hc.2 (eRest_round sh hc.1) (eRest_out sh)
      unfold rsX rsB
      cases hs : rsRun sh 26 (lo, hi) with
      | none =>
        rw [hs] at hX
        exact ⟨.ret, eRestRet, [], by kernel_rfl, around hA hB hX (.inl ⟨rfl, rfl⟩)⟩
      | some s =>
        rw [hs] at hX
        exact ⟨.ret, afterC Try.prog [eSlope] (seqR (seqR (Try.f57.body.getD .skip))) (eRestFr sh 26 s.1 s.2), [], by kernel_rfl, around hA hB hX (.inr ⟨rfl, goes_keep w0 (eRest_C sh s.1 s.2)⟩)⟩
  · cases hr
def eRest : Entry Try.prog := { f := 57, fn := shSSS fun sh lo hi => (rsCond sh lo hi, .tup [.cx .f32 (rsX sh lo hi) (c32 0), .sb (rsB sh lo hi)]), ok := eRest_ok }

def sRestFr (sh : F32) (z : Int) (lo hi : F32) : List AV := [.c (.fl .f32 sh), .c (.fl .f32 lo), .c (.fl .f32 hi), .c .any, .c .any, .c .any, .c .any, .c .any, .c (.val (.int .i64 z)), .c .any, .c .any, .c .any, .c .any, .c .any, .c .any, .c .any, .c .any, .c .any, .c .any, .c .any, .c .any, .c .any, .c .any, .c .any, .c .any, .c .any, .c .any, .c .any, .c .any, .c .any, .c .any, .c .any, .c .any]
def sRestRet : List AV := [.c .any, .c .any, .c .any, .c .any, .c .any, .c .any, .c (.cx .f32 (c32 0) (c32 0)), .c (.sb false), .c .any, .c .any, .c .any, .c .any, .c .any, .c .any, .c .any, .c .any, .c .any, .c .any, .c .any, .c .any, .c .any, .c .any, .c .any, .c .any, .c .any, .c .any, .c .any, .c .any, .c .any, .c .any, .c .any, .c .any, .c .any]
def sRestM : List Bool := [true, true, true, false, false, false, false, false, true, false, false, false, false, false, false, false, false, false, false, false, false, false, false, false, false, false, false, false, false, false, false, false, false]
def sRestR : List Bool := [false, false, false, false, false, false, true, true, false, false, false, false, false, false, false, false, false, false, false, false, false, false, false, false, false, false, false, false, false, false, false, false, false]
def sRestIn (sh lo hi : F32) : List AV := [.c (.fl .f32 sh), .c (.fl .f32 lo), .c (.fl .f32 hi)] ++ List.replicate 30 undefA
end Go.Proofs.Ytlpahmefebgdlaa.Fx
