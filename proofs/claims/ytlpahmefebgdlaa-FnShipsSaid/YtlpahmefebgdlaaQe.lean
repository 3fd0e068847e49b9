/- Texts put together: Cl, Ny, Ja. No condition. -/
import Derived.Test.YtlpahmefebgdlaaQd
/- Contracts: points of rest on the axis, two ways. No condition. -/
namespace Go.Proofs.Ytlpahmefebgdlaa.Fx
open Go Go.RowKit

theorem loop_inv {P : Program} {n0 : Nat} {w0 : Base} {x : Code} {M : List (List AC)} {α : Type} (Inv : Nat → α → Prop) (Fr : Nat → α → List AV) (fin : α → Out × List AV) (step : α → (Out × List AV) ⊕ α) (N : Nat)
    (hfin : ∀ s, Inv N s → (fin s).1 ≠ .norm ∧ CodeGoes P n0 w0 x (Fr N s) M (fin s).1 (fin s).2 M)
    (hround : ∀ i s, i < N → Inv i s → match step s with
      | .inl r => r.1 ≠ .norm ∧ CodeGoes P n0 w0 x (Fr i s) M r.1 r.2 M
      | .inr s' => Inv (i + 1) s' ∧ CodeGoes P n0 w0 x (Fr i s) M .norm (Fr (i + 1) s') M) :
    ∀ (n i : Nat) (s : α), i + n = N → Inv i s → CodeGoes P n0 w0 (.loop x) (Fr i s) M (loopRes fin step n s).1 (loopRes fin step n s).2 M := by
  have one : ∀ {F : List AV} {o : Out} {F' : List AV}, o ≠ .norm → CodeGoes P n0 w0 x F M o F' M → ∀ (σ : List (Nat × Nat)) (a : Act) (w : World), St σ n0 w0 F M a w →
      ∀ (Q : Exit → Act → World → Prop), (∀ σ' a' w', St σ' n0 w0 F' M a' w' → Q o.toExit a' w') → Code.rounds P x Q 1 a w := by
    intro F o F' ho hc σ a w hS Q hQ
    refine hc σ a w hS _ fun σ' a' w' hs => ?_
    cases o with
    | norm => exact (ho rfl).elim
    | exit id => exact hQ _ _ _ hs
    | ret => exact hQ _ _ _ hs
  have key : ∀ (n i : Nat) (s : α), i + n = N → Inv i s → ∃ m, ∀ (σ : List (Nat × Nat)) (a : Act) (w : World), St σ n0 w0 (Fr i s) M a w →
      ∀ (Q : Exit → Act → World → Prop), (∀ σ' a' w', St σ' n0 w0 (loopRes fin step n s).2 M a' w' → Q (loopRes fin step n s).1.toExit a' w') → Code.rounds P x Q m a w := by
    intro n
    induction n with
    | zero =>
      intro i s hi hI
      have : i = N := by omega
      subst this
      exact ⟨1, one (hfin s hI).1 (hfin s hI).2⟩
    | succ n ih =>
      intro i s hi hI
      have hr := hround i s (by omega) hI
      simp only [loopRes]
      cases hs : step s with
      | inl r =>
        rw [hs] at hr
        exact ⟨1, one hr.1 hr.2⟩
      | inr s' =>
        rw [hs] at hr
        obtain ⟨m, hm⟩ := ih (i + 1) s' (by omega) hr.1
        exact ⟨m + 1, fun σ a w hS Q hQ => hr.2 σ a w hS _ fun σ' a' w' hs => hm σ' a' w' hs Q hQ⟩
  intro n i s hi hI σ a w hS Q hQ
  obtain ⟨m, hm⟩ := key n i s hi hI
  exact wp_loop_rounds m (hm σ a w hS Q hQ)

-- bisection for a point of rest
def mid (s : F32 × F32) : F32 := half32' * (s.1 + s.2)
where half32' : F32 := c32 1056964608
def rsNext (sh : F32) (s : F32 × F32) : F32 × F32 := bif gt (slX sh (mid s) (c32 0)) (c32 0) then (s.1, mid s) else (mid s, s.2)
/-- The place, or none where a slope is not finite. -/
def rsRun (sh : F32) : Nat → F32 × F32 → Option (F32 × F32)
  | 0, s => some s
  | n + 1, s => bif slFin sh (mid s) (c32 0) then rsRun sh n (rsNext sh s) else none
/-- All lengths fit on the way, and all places are finite. -/
def rsFit (sh : F32) : Nat → F32 × F32 → Bool
  | 0, _ => true
  | n + 1, s => (frFit sh (mid s) (c32 0) && finS (mid s)) && rsFit sh n (rsNext sh s)

def rsStep {β : Type} (sh : F32) (early : β) (s : F32 × F32) : β ⊕ (F32 × F32) := bif slFin sh (mid s) (c32 0) then .inr (rsNext sh s) else .inl early
theorem rs_res (sh : F32) (early : Out × List AV) (fin : F32 × F32 → Out × List AV) : ∀ (n : Nat) (s : F32 × F32), loopRes fin (rsStep sh early) n s = match rsRun sh n s with
    | some s' => fin s'
    | none => early
  | 0, s => rfl
  | n + 1, s => by
    simp only [loopRes, rsRun, rsStep]
    cases slFin sh (mid s) (c32 0) with
    | true => exact rs_res sh early fin n _
    | false => rfl
def rsCond (sh lo hi : F32) : Bool := isShare sh && rsFit sh 26 (lo, hi)
def rsX (sh lo hi : F32) : F32 := match rsRun sh 26 (lo, hi) with | some s => s.1 | none => c32 0
def rsB (sh lo hi : F32) : Bool := (rsRun sh 26 (lo, hi)).isSome

/-- Outcomes, with what need not be known forgotten. -/
def keepO (m r : List Bool) (o : Out) (F : List AV) (M : List (List AC)) : Option (Out × List AV × List (List AC)) :=
  match o with
  | .ret => some (.ret, weaken r F, M)
  | o => some (o, weaken m F, M)
theorem goes_keep {P : Program} {E : List (Entry P)} {n0 : Nat} (w0 : Base) {n : Nat} {c : Code} {F F' : List AV} {M M' : List (List AC)} {o : Out} {m r : List Bool}
    (h : exC P E n0 n c F M (keepO m r) = some (o, F', M')) : CodeGoes P n0 w0 c F M o F' M' := by
  obtain ⟨o1, F1, M1, hK, hg⟩ := (exC_sound w0 n).1 c F M _ _ h
  cases o1 with
  | ret => cases hK; exact fun σ a w hS Q hQ => hg σ a w hS Q fun σ' a' w' hs => hQ σ' a' w' (hs.weaken r)
  | norm => cases hK; exact fun σ a w hS Q hQ => hg σ a w hS Q fun σ' a' w' hs => hQ σ' a' w' (hs.weaken m)
  | exit id => cases hK; exact fun σ a w hS Q hQ => hg σ a w hS Q fun σ' a' w' hs => hQ σ' a' w' (hs.weaken m)
def outF (r : Option (Out × List AV × List (List AC))) : List AV := match r with
  | some (_, F, _) => F
  | none => []
theorem enter_of {P : Program} {f : FuncId} {fn : Func} {c : Code} (hf : P.funcs[f]? = some fn) (hn : (fn.name == "runtime.NumGoroutine") = false) (hb : fn.body = some c) {args : Array Value} {w : World} : (callFunc f args).run P w = .ok (.enter f args) w := by
  have hn' : fn.name ≠ "runtime.NumGoroutine" := by simpa using hn
  simp [callFunc, hf, hn', hb]
/-- The frame behind a code. -/
def afterC (P : Program) (E : List (Entry P)) (c : Code) (F : List AV) : List AV := outF (exC P E 0 400 c F [] (keepO [] []))
def seqL : Code → Code
  | .seq x _ => x
  | c => c
def seqR : Code → Code
  | .seq _ y => y
  | c => c

/-- A function with one loop, which returns from within it or goes on behind it. -/
theorem around {P : Program} {w0 : Base} {A B X C : Code} {F F1 F2 F3 F4 : List AV} {o : Out} (hA : CodeGoes P 0 w0 A F [] .norm F1 []) (hB : CodeGoes P 0 w0 B F1 [] .norm F2 []) (hX : CodeGoes P 0 w0 (.loop X) F2 [] o F3 [])
    (ho : o = .ret ∧ F4 = F3 ∨ o = .exit 0 ∧ CodeGoes P 0 w0 C F3 [] .ret F4 []) : CodeGoes P 0 w0 (.seq A (.seq (.seq B (.block 0 (.loop X))) C)) F [] .ret F4 [] := by
  intro σ a w hS Q hQ
  refine wp_seq (hA σ a w hS _ fun σ1 a1 w1 h1 => wp_seq (wp_seq (hB σ1 a1 w1 h1 _ fun σ2 a2 w2 h2 => wp_block (hX σ2 a2 w2 h2 _ fun σ3 a3 w3 h3 => ?_))))
  rcases ho with ⟨rfl, rfl⟩ | ⟨rfl, hC⟩
  · exact hQ _ _ _ h3
  · exact hC σ3 a3 w3 h3 Q hQ

theorem rs_finish {N : Nat} (sh lo hi : F32) {P : Program} {w0 : Base} {x : Code} {Fr : Int → F32 → F32 → List AV} {Ret : List AV} {E : List (Entry P)} {n : Nat} {m r : List Bool} (hN : N = 26) (hfit : rsFit sh N (lo, hi) = true)
    (hr : ∀ (z : Int) (lo hi : F32), frFit sh (mid (lo, hi)) (c32 0) = true → finS (mid (lo, hi)) = true → exC P E 0 n x (Fr z lo hi) [] (keepO m r) =
      bif decide (z < 26) then (bif !(slFin sh (mid (lo, hi)) (c32 0)) then some (.ret, Ret, []) else
        (bif gt (slX sh (mid (lo, hi)) (c32 0)) (c32 0) then some (.norm, Fr (IntKind.i64.wrap (z + 1)) lo (mid (lo, hi)), []) else some (.norm, Fr (IntKind.i64.wrap (z + 1)) (mid (lo, hi)) hi, [])))
        else some (.exit 0, Fr z lo hi, []))
    (hx : ∀ (z : Int) (lo hi : F32), 26 ≤ z → exC P E 0 n x (Fr z lo hi) [] (keepO m r) = some (.exit 0, Fr z lo hi, [])) :
    CodeGoes P 0 w0 (.loop x) (Fr 0 lo hi) [] (match rsRun sh N (lo, hi) with | some _ => .exit 0 | none => .ret) (match rsRun sh N (lo, hi) with | some s => Fr N s.1 s.2 | none => Ret) [] := by
  have h := loop_inv (P := P) (n0 := 0) (w0 := w0) (x := x) (M := []) (α := F32 × F32) (fun i s => rsFit sh (N - i) s = true) (fun i s => Fr (i : Int) s.1 s.2) (fun s => (.exit 0, Fr N s.1 s.2))
    (rsStep sh (.ret, Ret)) N ?_ ?_ N 0 (lo, hi) (by omega) (by simpa using hfit)
  · rw [rs_res] at h
    cases hs : rsRun sh N (lo, hi) with
    | none => rw [hs] at h; exact h
    | some s => rw [hs] at h; exact h
  · intro s _
    refine ⟨(by intro h; cases h), goes_keep (m := m) (r := r) (n := n) (E := E) w0 ?_⟩
    exact hx _ _ _ (by omega)
  · intro i s hi hI
    obtain ⟨k, hk⟩ : ∃ k, N - i = k + 1 := ⟨N - i - 1, by omega⟩
    rw [hk] at hI
    simp only [rsFit, Bool.and_eq_true] at hI
    obtain ⟨⟨h1, h2⟩, h3⟩ := hI
    have hq := hr (i : Int) s.1 s.2 h1 h2
    have hz : decide ((i : Int) < 26) = true := by simp; omega
    rw [hz, wrap_small (by omega)] at hq
    have hk2 : N - (i + 1) = k := by omega
    simp only [rsStep]
    cases hf : slFin sh (mid s) (c32 0) with
    | false =>
      rw [show slFin sh (mid (s.1, s.2)) (c32 0) = false from hf] at hq
      exact ⟨(by intro h; cases h), goes_keep w0 hq⟩
    | true =>
      rw [show slFin sh (mid (s.1, s.2)) (c32 0) = true from hf] at hq
      refine ⟨by rw [hk2]; exact h3, ?_⟩
      unfold rsNext
      cases hg : gt (slX sh (mid s) (c32 0)) (c32 0) with
      | true => rw [show gt (slX sh (mid (s.1, s.2)) (c32 0)) (c32 0) = true from hg] at hq; exact goes_keep w0 hq
      | false => rw [show gt (slX sh (mid (s.1, s.2)) (c32 0)) (c32 0) = false from hg] at hq; exact goes_keep w0 hq

def eRestFr (sh : F32) (z : Int) (lo hi : F32) : List AV := [.c (.fl .f32 sh), .c (.fl .f32 lo), .c (.fl .f32 hi), .c .any, .c .any, .c .any, .c .any, .c .any, .c .any, .c .any, .c .any, .c (.val (.int .i64 z)), .c .any, .c .any, .c .any, .c .any, .c .any, .c .any, .c .any, .c .any, .c .any, .c .any, .c .any, .c .any, .c .any, .c .any, .c .any, .c .any, .c .any, .c .any, .c .any, .c .any, .c .any, .c .any]
def eRestRet : List AV := [.c .any, .c .any, .c .any, .c .any, .c .any, .c .any, .c (.cx .f32 (c32 0) (c32 0)), .c (.sb false), .c .any, .c .any, .c .any, .c .any, .c .any, .c .any, .c .any, .c .any, .c .any, .c .any, .c .any, .c .any, .c .any, .c .any, .c .any, .c .any, .c .any, .c .any, .c .any, .c .any, .c .any, .c .any, .c .any, .c .any, .c .any, .c .any]
def eRestM : List Bool := [true, true, true, false, false, false, false, false, false, false, false, true, false, false, false, false, false, false, false, false, false, false, false, false, false, false, false, false, false, false, false, false, false, false]
def eRestR : List Bool := [false, false, false, false, false, false, true, true, false, false, false, false, false, false, false, false, false, false, false, false, false, false, false, false, false, false, false, false, false, false, false, false, false, false]
theorem eRest_raw (sh lo hi : F32) (z : Int) : exC Try.prog [eSlope] 0 400 (loop0 Try.f57) (eRestFr sh z lo hi) [] (keepO eRestM eRestR) = bif decide (z < 26) then (bif !(isPt sh (mid (lo, hi)) (c32 0)) || frFit sh (mid (lo, hi)) (c32 0) then (bif !(isPt sh (mid (lo, hi)) (c32 0) && slFin sh (mid (lo, hi)) (c32 0)) then some (.ret, eRestRet, []) else
      (bif gt (bif isPt sh (mid (lo, hi)) (c32 0) then tcX (slX sh (mid (lo, hi)) (c32 0)) (slY sh (mid (lo, hi)) (c32 0)) else c32 0) (c32 0) then some (.norm, eRestFr sh (IntKind.i64.wrap (z + 1)) lo (mid (lo, hi)), []) else some (.norm, eRestFr sh (IntKind.i64.wrap (z + 1)) (mid (lo, hi)) hi, []))) else none) else some (.exit 0, eRestFr sh z lo hi, []) := by kernel_rfl
theorem eRest_round (sh : F32) (hsh : isShare sh = true) (z : Int) (lo hi : F32) (h1 : frFit sh (mid (lo, hi)) (c32 0) = true) (h2 : finS (mid (lo, hi)) = true) : exC Try.prog [eSlope] 0 400 (loop0 Try.f57) (eRestFr sh z lo hi) [] (keepO eRestM eRestR) =
      bif decide (z < 26) then (bif !(slFin sh (mid (lo, hi)) (c32 0)) then some (.ret, eRestRet, []) else
        (bif gt (slX sh (mid (lo, hi)) (c32 0)) (c32 0) then some (.norm, eRestFr sh (IntKind.i64.wrap (z + 1)) lo (mid (lo, hi)), []) else some (.norm, eRestFr sh (IntKind.i64.wrap (z + 1)) (mid (lo, hi)) hi, [])))
        else some (.exit 0, eRestFr sh z lo hi, []) := by
  rw [eRest_raw]
  have hp : isPt sh (mid (lo, hi)) (c32 0) = true := by
    unfold isPt cfin
    rw [hsh, h2]; kernel_rfl
  rw [hp, h1]
  cases decide (z < 26)
  · rfl
  · cases h3 : slFin sh (mid (lo, hi)) (c32 0)
    · rfl
    · have ht : tcX (slX sh (mid (lo, hi)) (c32 0)) (slY sh (mid (lo, hi)) (c32 0)) = slX sh (mid (lo, hi)) (c32 0) := by
        unfold tcX
        rw [show cfin (slX sh (mid (lo, hi)) (c32 0)) (slY sh (mid (lo, hi)) (c32 0)) = true from h3]; rfl
      rw [ht]; rfl
theorem eRest_out (sh : F32) (z : Int) (lo hi : F32) (hz : 26 ≤ z) : exC Try.prog [eSlope] 0 400 (loop0 Try.f57) (eRestFr sh z lo hi) [] (keepO eRestM eRestR) = some (.exit 0, eRestFr sh z lo hi, []) := by
  rw [eRest_raw]
  have : decide (z < 26) = false := by simpa using hz
  rw [this]; rfl
def eRestIn (sh lo hi : F32) : List AV := [.c (.fl .f32 sh), .c (.fl .f32 lo), .c (.fl .f32 hi)] ++ List.replicate 31 undefA
theorem eRest_A (sh lo hi : F32) : exC Try.prog [eSlope] 0 400 (seqL (Try.f57.body.getD .skip)) (eRestIn sh lo hi) [] (keepO [] []) = some (.norm, afterC Try.prog [eSlope] (seqL (Try.f57.body.getD .skip)) (eRestIn sh lo hi), []) := by kernel_rfl
theorem eRest_B (sh lo hi : F32) : exC Try.prog [eSlope] 0 400 (seqL (seqL (seqR (Try.f57.body.getD .skip)))) (afterC Try.prog [eSlope] (seqL (Try.f57.body.getD .skip)) (eRestIn sh lo hi)) [] (keepO eRestM eRestR) = some (.norm, eRestFr sh 0 lo hi, []) := by kernel_rfl
theorem eRest_C (sh lo hi : F32) : exC Try.prog [eSlope] 0 400 (seqR (seqR (Try.f57.body.getD .skip))) (eRestFr sh 26 lo hi) [] (keepO [] []) = some (.ret, afterC Try.prog [eSlope] (seqR (seqR (Try.f57.body.getD .skip))) (eRestFr sh 26 lo hi), []) := by kernel_rfl
theorem eRest_body : Try.f57.body = some (.seq (seqL (Try.f57.body.getD .skip)) (.seq (.seq (seqL (seqL (seqR (Try.f57.body.getD .skip)))) (.block 0 (.loop (loop0 Try.f57)))) (seqR (seqR (Try.f57.body.getD .skip))))) := by kernel_rfl
theorem eRest_ok : EOk Try.prog 57 (shSSS fun sh lo hi => (rsCond sh lo hi, .tup [.cx .f32 (rsX sh lo hi) (c32 0), .sb (rsB sh lo hi)])) := by
  intro args M r hr σ vs w _ ha
  unfold shSSS at hr
  split at hr
  · rename_i sh lo hi
    have hr' := Option.some.inj hr
    simp only [Prod.mk.injEq] at hr'
    obtain ⟨hc, rfl⟩ := hr'
    unfold rsCond at hc
    rw [Bool.and_eq_true] at hc
    refine .inr ⟨?_, calls_of_goes Try.func57 eRest_body (fun w0 => ?_) (by rfl) ha⟩
    · exact enter_of Try.func57 (by kernel_rfl) eRest_body
    · have hA := goes_keep w0 (eRest_A sh lo hi)
      have hB := goes_keep w0 (eRest_B sh lo hi)
      have hX := rs_finish (N := 26) sh lo hi (w0 := w0) (Fr := eRestFr sh) (Ret := eRestRet) rfl hc.2 (eRest_round sh hc.1) (eRest_out sh)
      unfold rsX rsB
      cases hs : rsRun sh 26 (lo, hi) with
      | none =>
        rw [hs] at hX
        exact ⟨.ret, eRestRet, [], by kernel_rfl, around hA hB hX (.inl ⟨rfl, rfl⟩)⟩
      | some s =>
        rw [hs] at hX
        exact ⟨.ret, afterC Try.prog [eSlope] (seqR (seqR (Try.f57.body.getD .skip))) (eRestFr sh 26 s.1 s.2), [], by kernel_rfl, around hA hB hX (.inr ⟨rfl, goes_keep w0 (eRest_C sh s.1 s.2)⟩)⟩
  · cases hr
def eRest : Entry Try.prog := { f := 57, fn := shSSS fun sh lo hi => (rsCond sh lo hi, .tup [.cx .f32 (rsX sh lo hi) (c32 0), .sb (rsB sh lo hi)]), ok := eRest_ok }

def sRestFr (sh : F32) (z : Int) (lo hi : F32) : List AV := [.c (.fl .f32 sh), .c (.fl .f32 lo), .c (.fl .f32 hi), .c .any, .c .any, .c .any, .c .any, .c .any, .c (.val (.int .i64 z)), .c .any, .c .any, .c .any, .c .any, .c .any, .c .any, .c .any, .c .any, .c .any, .c .any, .c .any, .c .any, .c .any, .c .any, .c .any, .c .any, .c .any, .c .any, .c .any, .c .any, .c .any, .c .any, .c .any, .c .any]
def sRestRet : List AV := [.c .any, .c .any, .c .any, .c .any, .c .any, .c .any, .c (.cx .f32 (c32 0) (c32 0)), .c (.sb false), .c .any, .c .any, .c .any, .c .any, .c .any, .c .any, .c .any, .c .any, .c .any, .c .any, .c .any, .c .any, .c .any, .c .any, .c .any, .c .any, .c .any, .c .any, .c .any, .c .any, .c .any, .c .any, .c .any, .c .any, .c .any]
def sRestM : List Bool := [true, true, true, false, false, false, false, false, true, false, false, false, false, false, false, false, false, false, false, false, false, false, false, false, false, false, false, false, false, false, false, false, false]
def sRestR : List Bool := [false, false, false, false, false, false, true, true, false, false, false, false, false, false, false, false, false, false, false, false, false, false, false, false, false, false, false, false, false, false, false, false, false]
def sRestIn (sh lo hi : F32) : List AV := [.c (.fl .f32 sh), .c (.fl .f32 lo), .c (.fl .f32 hi)] ++ List.replicate 30 undefA
end Go.Proofs.Ytlpahmefebgdlaa.Fx
/- Bounds of 32-bit numbers; lengths fit. No condition. -/
namespace Go.Proofs.Ytlpahmefebgdlaa.Fx
open Go Nr Ieee

/-- At most a power of two. -/
def UpS (E : Int) (x : F32) : Prop := ∃ s m e, NumS x s m e ∧ Le2 m e E
theorem UpS.mono {E F : Int} {x : F32} (h : UpS E x) (hf : E ≤ F) : UpS F x := by
  obtain ⟨s, m, e, h1, h2⟩ := h
  exact ⟨s, m, e, h1, le2_mono h2 hf⟩
theorem UpS.fin {E : Int} {x : F32} (h : UpS E x) : finS x = true := by
  obtain ⟨s, m, e, h1, _⟩ := h
  exact h1.fin
theorem UpS.widen {E : Int} {x : F32} (h : UpS E x) : Up E (Fx.widen x) := by
  obtain ⟨s, m, e, h1, h2⟩ := h
  obtain ⟨j, hj⟩ := widen_numS h1
  exact ⟨s, _, _, hj, le2_widen h2⟩
theorem num_wordS (s : Bool) {m : Nat} {e E : Int} (h : Le2 m e E) (h1 : -126 ≤ E) (h2 : E ≤ 127) : ∃ m' e', NumS (sx (single.nearest s m e)) s m' e' ∧ Le2 m' e' E := by
  have e1 : single.leastPlace = -149 := by decide
  have e2 : single.fractionBits = 23 := rfl
  have e3 : single.infRung = 255 * 2 ^ 23 := by decide
  have e4 : single.signWeight = 256 * 2 ^ 23 := by decide
  have e5 : single.binade = 2 ^ 23 := by decide
  obtain ⟨r, hr, hr1, hr2⟩ := nearest_le single s (by rw [e1, e2]; omega) h
  have hlt : r < single.infRung := by
    refine Nat.lt_of_le_of_lt hr1 ?_
    unfold rungPow
    rw [e1, e2, e3, e5]
    exact Nat.mul_lt_mul_of_pos_right (by omega) (by decide)
  obtain ⟨m', e', hm, hl⟩ := readRung_le single s (by rw [e1, e2]; omega) hr1 hlt
  exact ⟨m', e', ⟨_, rfl, by rw [hr, read_word single s (by omega), hm]⟩, hl⟩
theorem add_sx (a b : Nat) : sx a + sx b = (((single.read a).sum (single.read b)).map single.write : Option Nat) := rfl
theorem mul_sx (a b : Nat) : sx a * sx b = (((single.read a).product (single.read b)).map single.write : Option Nat) := rfl
theorem UpS.add {E : Int} {x y : F32} (hx : UpS E x) (hy : UpS E y) (h1 : -127 ≤ E) (h2 : E ≤ 126) : UpS (E + 1) (x + y) := by
  obtain ⟨s, m, i, ⟨r, rfl, hr⟩, hm⟩ := hx
  obtain ⟨t, n, j, ⟨q, rfl, hq⟩, hn⟩ := hy
  obtain ⟨m', e', h3, h4⟩ := num_wordS (if signed s m (i - min i j).toNat + signed t n (j - min i j).toNat = 0 then s && t else signed s m (i - min i j).toNat + signed t n (j - min i j).toNat < 0) (addW_le (s := s) (t := t) hm hn) (by omega) (by omega)
  rw [add_sx, hr, hq]
  exact ⟨_, _, _, h3, h4⟩
theorem UpS.sub {E : Int} {x y : F32} (hx : UpS E x) (hy : UpS E y) (h1 : -127 ≤ E) (h2 : E ≤ 126) : UpS (E + 1) (x - y) := by
  obtain ⟨s, m, i, ⟨r, rfl, hr⟩, hm⟩ := hx
  obtain ⟨t, n, j, ⟨q, rfl, hq⟩, hn⟩ := hy
  obtain ⟨m', e', h3, h4⟩ := num_wordS (if signed s m (i - min i j).toNat + signed (!t) n (j - min i j).toNat = 0 then s && !t else signed s m (i - min i j).toNat + signed (!t) n (j - min i j).toNat < 0) (addW_le (s := s) (t := !t) hm hn) (by omega) (by omega)
  rw [sub_someS, hr, hq]
  exact ⟨_, _, _, h3, h4⟩
theorem UpS.mul {E F : Int} {x y : F32} (hx : UpS E x) (hy : UpS F y) (h1 : -126 ≤ E + F) (h2 : E + F ≤ 127) : UpS (E + F) (x * y) := by
  obtain ⟨s, m, i, ⟨r, rfl, hr⟩, hm⟩ := hx
  obtain ⟨t, n, j, ⟨q, rfl, hq⟩, hn⟩ := hy
  obtain ⟨m', e', h3, h4⟩ := num_wordS (s ^^ t) (m := m * n) (e := i + j) (E := E + F) (by
    rcases hm with h | ⟨h, h'⟩
    · exact .inl (by rw [h, Nat.zero_mul])
    · rcases hn with k | ⟨k, k'⟩
      · exact .inl (by rw [k, Nat.mul_zero])
      · refine .inr ⟨by omega, Nat.le_trans (Nat.mul_le_mul h' k') ?_⟩
        rw [← Nat.pow_add]
        exact Nat.pow_le_pow_right (by decide) (by omega)) h1 h2
  rw [mul_sx, hr, hq]
  exact ⟨_, _, _, h3, h4⟩
theorem read_negS (r : Nat) : single.read (r ^^^ 2 ^ 31) = match single.read r with
    | .number s m e => .number (!s) m e
    | .infinity s => .infinity (!s)
    | .nan s f => .nan (!s) f := by
  have es : single.signWeight = 2 ^ 31 := by decide
  have h1 : (r ^^^ 2 ^ 31) % 2 ^ 31 = r % 2 ^ 31 := by rw [Nat.xor_mod_two_pow, Nat.mod_self, Nat.xor_zero]
  have h2 : ((r ^^^ 2 ^ 31) / 2 ^ 31 % 2 == 1) = !(r / 2 ^ 31 % 2 == 1) := by
    have : (r ^^^ 2 ^ 31) / 2 ^ 31 = (r / 2 ^ 31) ^^^ 1 := by
      rw [← Nat.shiftRight_eq_div_pow, ← Nat.shiftRight_eq_div_pow, Nat.shiftRight_xor_distrib]; rfl
    rw [this]
    have h3 : (r / 2 ^ 31 ^^^ 1) % 2 = (r / 2 ^ 31 % 2) ^^^ 1 := by
      have := Nat.xor_mod_two_pow (a := r / 2 ^ 31) (b := 1) (n := 1)
      simpa using this
    rw [h3]
    rcases Nat.mod_two_eq_zero_or_one (r / 2 ^ 31) with h | h <;> rw [h] <;> rfl
  unfold Format.read
  rw [es]
  dsimp only
  rw [h1, h2]
  split
  · rfl
  · split
    · rfl
    · split <;> rfl
theorem neg_sx (r : Nat) : -(sx r) = sx (r ^^^ 2 ^ 31) := rfl
theorem UpS.neg {E : Int} {x : F32} (h : UpS E x) : UpS E (-x) := by
  obtain ⟨s, m, e, ⟨r, rfl, hr⟩, h2⟩ := h
  exact ⟨!s, m, e, ⟨_, neg_sx r, by rw [read_negS, hr]⟩, h2⟩
theorem upS_of {E : Int} {x : F32} (r : Nat) (s : Bool) (m : Nat) (e : Int) (h1 : x = sx r) (h2 : single.read r = .number s m e) (h3 : e ≤ E) (h4 : m ≤ 2 ^ (E - e).toNat) : UpS E x := ⟨s, m, e, ⟨r, h1, h2⟩, .inr ⟨h3, h4⟩⟩
theorem upS_one : UpS 0 one32 := upS_of _ false (2 ^ 23) (-23) rfl (by decide) (by decide) (by decide)
theorem upS_half : UpS (-1) (c32 1056964608) := upS_of _ false (2 ^ 23) (-24) rfl (by decide) (by decide) (by decide)
theorem upS_zero (E : Int) : UpS E (c32 0) := ⟨false, 0, -149, num_zero32, .inl rfl⟩

/-- What is above 0 and at most a number. -/
theorem isShare_up {x : F32} (h : isShare x = true) : UpS 0 x := by
  unfold isShare at h
  rw [Bool.and_eq_true] at h
  have hf : finS x = true := by
    refine between fin0 (by kernel_rfl : finS (c32 1056964608) = true) ?_ h.2
    have := h.1
    unfold gt at this
    unfold ge
    rw [this]; rfl
  obtain ⟨s, m, e, hx⟩ := fin_num hf
  obtain ⟨b1, b2, b3⟩ := hx.bound
  refine ⟨s, m, e, hx, ?_⟩
  obtain ⟨h1, h2⟩ := h
  obtain ⟨r, rfl, hr⟩ := hx
  obtain ⟨q, hq, hq2⟩ : ∃ q, c32 1056964608 = sx q ∧ single.read q = .number false (2 ^ 23) (-24) := ⟨_, rfl, by decide⟩
  obtain ⟨z, hz, hz2⟩ := num_zero32
  unfold le at h2
  unfold gt at h1
  rw [hq, ord_sx, hr, hq2] at h2
  rw [hz, ord_sx, hr, hz2] at h1
  have e2 : (some (compare (signed s m (e - min e (-24)).toNat) (signed false (2 ^ 23) ((-24 : Int) - min e (-24)).toNat)) == some Ordering.lt || some (compare (signed s m (e - min e (-24)).toNat) (signed false (2 ^ 23) ((-24 : Int) - min e (-24)).toNat)) == some Ordering.eq) = true := h2
  have e1 : (some (compare (signed s m (e - min e (-149)).toNat) (signed false 0 ((-149 : Int) - min e (-149)).toNat)) == some Ordering.gt) = true := h1
  rw [cmp_lt, cmp_eq] at e2
  rw [cmp_gt] at e1
  simp only [signed_eq, Nat.zero_mul] at e1 e2
  by_cases hm : m = 0
  · exact .inl hm
  · right
    have hp : 0 < m * 2 ^ (e - min e (-149)).toNat := Nat.mul_pos (Nat.pos_of_ne_zero hm) (Nat.two_pow_pos _)
    have hs : s = false := by
      cases s with
      | false => rfl
      | true =>
        exfalso
        generalize m * 2 ^ (e - min e (-149)).toNat = z at hp e1
        simp at e1
        omega
    subst hs
    have e3 : m * 2 ^ (e - min e (-24)).toNat ≤ 2 ^ 23 * 2 ^ ((-24 : Int) - min e (-24)).toNat := by
      generalize m * 2 ^ (e - min e (-24)).toNat = z1 at e2 ⊢
      generalize 2 ^ 23 * 2 ^ ((-24 : Int) - min e (-24)).toNat = z2 at e2 ⊢
      simp at e2
      omega
    rw [← Nat.pow_add] at e3
    have hle : 2 ^ (e - min e (-24)).toNat ≤ m * 2 ^ (e - min e (-24)).toNat := Nat.le_mul_of_pos_left _ (Nat.pos_of_ne_zero hm)
    have h5 := (Nat.pow_le_pow_iff_right (by decide)).1 (Nat.le_trans hle e3)
    refine ⟨by omega, ?_⟩
    refine Nat.le_of_mul_le_mul_right (c := 2 ^ (e - min e (-24)).toNat) ?_ (Nat.two_pow_pos _)
    rw [← Nat.pow_add]
    exact Nat.le_trans e3 (Nat.pow_le_pow_right (by decide) (by omega))

-- roots
theorem sqrt_up {E : Int} {x : F64} (h : Up E x) (h1 : -200 ≤ E) (h2 : E ≤ 240) : sqrt x = nn ∨ Up (E / 2 + 4) (sqrt x) := by
  obtain ⟨s, m, i, hx, hm⟩ := h
  have hb := hx.bound
  obtain ⟨r, rfl, hr⟩ := hx
  have hs : sqrt (bx r) = (((Datum.number s m i).root 54).map double.write : Option Nat) := by rw [← hr]; rfl
  rw [hs]
  by_cases h0 : m = 0
  · right
    subst h0
    have : (((Datum.number s 0 i).root 54).map double.write : Option Nat) = bx (double.nearest s 0 i) := by simp only [Datum.root]; rfl
    rw [this]
    obtain ⟨m', e', g1, g2⟩ := num_word s (m := 0) (e := i) (E := E / 2 + 4) (.inl rfl) (by omega) (by omega)
    exact ⟨_, _, _, g1, g2⟩
  · cases s with
    | true => left; simp only [Datum.root, if_neg h0]; rfl
    | false =>
      right
      obtain ⟨k1, k2⟩ := hm.resolve_left h0
      obtain ⟨p, hp⟩ : ∃ p, p = ((i - ((2 * 54 - m.log2 : Nat) : Int)) % 2).toNat := ⟨_, rfl⟩
      have hlog : m.log2 ≤ 52 := by
        have h5 : 2 ^ m.log2 < 2 ^ 53 := Nat.lt_of_le_of_lt (Nat.log2_self_le h0) hb.1
        have := (Nat.pow_lt_pow_iff_right (by decide)).1 h5
        omega
      have hlE : (m.log2 : Int) ≤ E - i := by
        have h5 : 2 ^ m.log2 ≤ 2 ^ (E - i).toNat := Nat.le_trans (Nat.log2_self_le h0) k2
        have := (Nat.pow_le_pow_iff_right (by decide)).1 h5
        omega
      obtain ⟨W, hW⟩ : ∃ W, W = Datum.rootFrom (m <<< (2 * 54 - m.log2 + p)) ((m <<< (2 * 54 - m.log2 + p)).log2 / 2 + 1) 0 := ⟨_, rfl⟩
      have he : (((Datum.number false m i).root 54).map double.write : Option Nat) = bx (double.nearest false (2 * W + (W * W != m <<< (2 * 54 - m.log2 + p)).toNat) ((i - ((2 * 54 - m.log2 + p : Nat) : Int)) / 2 - 1)) := by
        rw [hW, hp]
        simp only [Datum.root, if_neg h0]
        rfl
      rw [he]
      have r2 := (rootFrom_bounds (m <<< (2 * 54 - m.log2 + p)) ((m <<< (2 * 54 - m.log2 + p)).log2 / 2 + 1) 0).2
      rw [← hW] at r2
      have hl : (m <<< (2 * 54 - m.log2 + p)).log2 = m.log2 + (2 * 54 - m.log2 + p) := by rw [shl, log2_mul_pow h0]
      rw [hl, Nat.zero_add] at r2
      have hbit : (W * W != m <<< (2 * 54 - m.log2 + p)).toNat ≤ 1 := Bool.toNat_le _
      generalize (W * W != m <<< (2 * 54 - m.log2 + p)).toNat = bit at hbit
      obtain ⟨m', e', g1, g2⟩ := num_word false (m := 2 * W + bit) (e := (i - ((2 * 54 - m.log2 + p : Nat) : Int)) / 2 - 1) (E := E / 2 + 4) (by
        right
        refine ⟨by omega, ?_⟩
        refine Nat.le_trans (show 2 * W + bit ≤ 2 ^ ((m.log2 + (2 * 54 - m.log2 + p)) / 2 + 1 + 1) by rw [Nat.pow_succ]; omega) ?_
        exact Nat.pow_le_pow_right (by decide) (by omega)) (by omega) (by omega)
      exact ⟨_, _, _, g1, g2⟩

theorem long_fits {x y : F32} (hx : UpS 60 x) (hy : UpS 60 y) : fits (longF x y) = true := by
  have hp := (hx.widen.mul hx.widen (by decide) (by decide)).add (hy.widen.mul hy.widen (by decide) (by decide)) (by decide) (by decide)
  unfold longF powerW
  rcases sqrt_up hp (by decide) (by decide) with h | h
  · rw [h]; rfl
  · exact (h.mono (by decide)).narrow.1

theorem fr_fit {s x y : F32} (hs : UpS 50 s) (hx : UpS 50 x) (hy : UpS 50 y) : frFit s x y = true := by
  unfold frFit fdx fex fy
  rw [Bool.and_eq_true]
  have h0 : UpS 50 (c32 0) := upS_zero 50
  have h1 : UpS 50 one32 := upS_one.mono (by decide)
  exact ⟨long_fits ((hx.sub hs.neg (by decide) (by decide)).mono (by decide)) ((hy.sub h0 (by decide) (by decide)).mono (by decide)),
    long_fits (((hx.mono (by decide : (50 : Int) ≤ 51)).sub (h1.sub hs (by decide) (by decide)) (by decide) (by decide)).mono (by decide)) ((hy.sub h0 (by decide) (by decide)).mono (by decide))⟩

theorem mid_up {E : Int} {s : F32 × F32} (h1 : UpS E s.1) (h2 : UpS E s.2) (h3 : 0 ≤ E) (h4 : E ≤ 40) : UpS E (mid s) := by
  have := upS_half.mul (h1.add h2 (by omega) (by omega)) (by omega) (by omega)
  have e : -1 + (E + 1) = E := by omega
  rw [e] at this
  exact this

theorem rs_fit (sh : F32) (hs : UpS 0 sh) : ∀ (n : Nat) (s : F32 × F32), UpS 3 s.1 → UpS 3 s.2 → rsFit sh n s = true
  | 0, _, _, _ => rfl
  | n + 1, s, h1, h2 => by
    have hm := mid_up h1 h2 (by decide) (by decide)
    have hn : UpS 3 (rsNext sh s).1 ∧ UpS 3 (rsNext sh s).2 := by
      unfold rsNext
      cases gt (slX sh (mid s) (c32 0)) (c32 0) with
      | true => exact ⟨h1, hm⟩
      | false => exact ⟨hm, h2⟩
    simp only [rsFit, fr_fit (hs.mono (by decide)) (hm.mono (by decide)) (upS_zero 50), hm.fin, rs_fit sh hs n _ hn.1 hn.2, Bool.and_self]

theorem rs_cond {sh lo hi : F32} (h : isShare sh = true) (h1 : UpS 3 lo) (h2 : UpS 3 hi) : rsCond sh lo hi = true := by
  unfold rsCond
  rw [h, rs_fit sh (isShare_up h) 26 (lo, hi) h1 h2]; rfl

end Go.Proofs.Ytlpahmefebgdlaa.Fx
/- Rounding: how far a rounded number lies from the number; what a float is worth; sums, products, quotients, comparisons, narrowing. No condition. -/
namespace Go.Proofs.Ytlpahmefebgdlaa.Fx
open Go Nr Ieee

theorem cut_near (neg : Bool) (n d : Nat) : 2 * (Toward.even.cut neg n d * 2 ^ d) ≤ 2 * n + 2 ^ d ∧ 2 * n ≤ 2 * (Toward.even.cut neg n d * 2 ^ d) + 2 ^ d := by
  unfold Toward.cut
  simp only [shl, Nat.one_mul]
  by_cases hg : d ≤ n.log2 + 2
  · rw [Nat.min_eq_left hg]
    have hd := Nat.div_add_mod n (2 ^ d)
    have hl := Nat.mod_lt n (Nat.two_pow_pos d)
    generalize n / 2 ^ d = q at hd ⊢
    generalize n % 2 ^ d = r at hd hl ⊢
    generalize 2 ^ d = g at hd hl ⊢
    subst hd
    by_cases h1 : g < 2 * r
    · simp only [decide_eq_true h1, Bool.true_or, Bool.toNat_true]
      rw [Nat.add_mul, Nat.one_mul, Nat.mul_comm q g]
      omega
    · by_cases h2 : g = 2 * r
      · have h3 : (g == 2 * r) = true := by simp [h2]
        simp only [decide_eq_false h1, h3, Bool.false_or, Bool.true_and]
        cases q % 2 == 1
        · simp only [Bool.toNat_false, Nat.add_zero]; rw [Nat.mul_comm q g]; omega
        · simp only [Bool.toNat_true]; rw [Nat.add_mul, Nat.one_mul, Nat.mul_comm q g]; omega
      · have h3 : (g == 2 * r) = false := by simp [h2]
        simp only [decide_eq_false h1, h3, Bool.false_or, Bool.false_and, Bool.toNat_false, Nat.add_zero]
        rw [Nat.mul_comm q g]; omega
  · have hg' : n.log2 + 2 ≤ d := by omega
    rw [Nat.min_eq_right hg']
    have h0 := lt_log2 n
    have h1 : 2 ^ (n.log2 + 2) = 2 * 2 ^ (n.log2 + 1) := by rw [Nat.pow_succ]; omega
    have h2 : n / 2 ^ (n.log2 + 2) = 0 := Nat.div_eq_of_lt (by omega)
    have h3 : n % 2 ^ (n.log2 + 2) = n := Nat.mod_eq_of_lt (by omega)
    have h4 : 2 ^ (n.log2 + 2) ≤ 2 ^ d := Nat.pow_le_pow_right (by decide) hg'
    rw [h2, h3]
    have h5 : decide (2 ^ (n.log2 + 2) < 2 * n) = false := decide_eq_false (by omega)
    have h6 : (2 ^ (n.log2 + 2) == 2 * n) = false := by
      have : 2 ^ (n.log2 + 2) ≠ 2 * n := by omega
      simp [this]
    rw [h5, h6]
    simp
    omega

theorem readRung_keep (neg : Bool) {k : Nat} {p : Int} (hp : -1074 ≤ p) (hk : p = -1074 ∨ 2 ^ 52 ≤ k) (hk2 : k ≤ 2 ^ 53) (hi : (p + 1074).toNat * 2 ^ 52 + k < 2047 * 2 ^ 52) :
    ∃ m' e', readRung double neg ((p + 1074).toNat * 2 ^ 52 + k) = .number neg m' e' ∧ ((m' = k ∧ e' = p) ∨ (k = 2 ^ 53 ∧ m' = 2 ^ 52 ∧ e' = p + 1)) := by
  have e1 : double.leastPlace = -1074 := by decide
  have e3 : double.infRung = 2047 * 2 ^ 52 := by decide
  have e5 : double.binade = 2 ^ 52 := by decide
  obtain ⟨j, hj⟩ : ∃ j : Nat, p = -1074 + (j : Int) := ⟨(p + 1074).toNat, by omega⟩
  have hj' : (p + 1074).toNat = j := by omega
  rw [hj'] at hi ⊢
  unfold readRung
  rw [e1, e3, e5]
  by_cases h1 : k < 2 ^ 52
  · have h2 : j = 0 := by omega
    subst h2
    rw [if_pos (by omega)]
    exact ⟨_, _, rfl, .inl ⟨by omega, by omega⟩⟩
  · rw [if_neg (by omega), if_pos hi]
    by_cases h2 : k = 2 ^ 53
    · refine ⟨_, _, rfl, .inr ⟨h2, ?_, ?_⟩⟩
      · omega
      · omega
    · exact ⟨_, _, rfl, .inl ⟨by omega, by omega⟩⟩

/-- A number's worth. -/
def wo (m : Nat) (e : Int) : Rat := (m : Rat) * (2 : Rat) ^ e
theorem two_ne : (2 : Rat) ≠ 0 := by decide
theorem two_pos (e : Int) : (0 : Rat) < (2 : Rat) ^ e := Rat.zpow_pos (by decide)
theorem two_nat (k : Nat) : ((2 ^ k : Nat) : Rat) = (2 : Rat) ^ (k : Int) := by
  rw [Rat.zpow_natCast, Rat.natCast_pow]; rfl
theorem two_mono {a b : Int} (h : a ≤ b) : (2 : Rat) ^ a ≤ (2 : Rat) ^ b := by
  obtain ⟨k, hk⟩ := Int.eq_ofNat_of_zero_le (by omega : 0 ≤ b - a)
  have e : b = a + (k : Int) := by omega
  rw [e, Rat.zpow_add two_ne, ← two_nat]
  have h1 : (1 : Rat) ≤ ((2 ^ k : Nat) : Rat) := Rat.natCast_le_natCast.2 (Nat.two_pow_pos k)
  have h2 := Rat.mul_le_mul_of_nonneg_left h1 (Rat.le_of_lt (two_pos a))
  rwa [Rat.mul_one] at h2
theorem wo_pow (m j : Nat) (e : Int) : wo (m * 2 ^ j) e = wo m (e + j) := by
  unfold wo
  rw [Rat.zpow_add two_ne, ← two_nat, Rat.natCast_mul]
  grind
theorem wo_mono {m n : Nat} (h : m ≤ n) (e : Int) : wo m e ≤ wo n e := by
  unfold wo
  have h1 : (m : Rat) ≤ (n : Rat) := Rat.natCast_le_natCast.2 h
  have := Rat.mul_le_mul_of_nonneg_left h1 (Rat.le_of_lt (two_pos e))
  grind

theorem wo_add (a b : Nat) (e : Int) : wo (a + b) e = wo a e + wo b e := by
  unfold wo; rw [Rat.natCast_add]; grind
theorem wo_two (a : Nat) (e : Int) : wo (2 * a) e = 2 * wo a e := by
  unfold wo; rw [Rat.natCast_mul]; have : ((2 : Nat) : Rat) = 2 := rfl
  rw [this]; grind
theorem wo_one (e : Int) : wo 1 e = (2 : Rat) ^ e := by
  unfold wo; have : ((1 : Nat) : Rat) = 1 := rfl
  rw [this]; grind
theorem word_inj {s : Bool} {a b : Nat} (h : double.word s a = double.word s b) : a = b := by
  unfold Format.word at h
  cases s
  · exact h
  · exact Nat.add_left_cancel h
/-- A number rounded: the worth's error. -/
theorem num_round (s : Bool) {m : Nat} {e E : Int} (h : Le2 m e E) (h1 : -1022 ≤ E) (h2 : E ≤ 1023) :
    ∃ m' e', Num (bx (double.nearest s m e)) s m' e' ∧ Le2 m' e' E ∧ wo m' e' ≤ wo m e + (2 : Rat) ^ (E - 53) ∧ wo m e ≤ wo m' e' + (2 : Rat) ^ (E - 53) := by
  have e1 : double.leastPlace = -1074 := by decide
  have e2 : double.fractionBits = 52 := rfl
  have e3 : double.infRung = 2047 * 2 ^ 52 := by decide
  have e4 : double.signWeight = 2048 * 2 ^ 52 := by decide
  have e5 : double.binade = 2 ^ 52 := by decide
  have hpos := two_pos (E - 53)
  obtain ⟨r, hr, hr1, hr2⟩ := nearest_le double s (by rw [e1, e2]; omega) h
  have hlt : r < double.infRung := by
    refine Nat.lt_of_le_of_lt hr1 ?_
    unfold rungPow
    rw [e1, e2, e3, e5]
    exact Nat.mul_lt_mul_of_pos_right (by omega) (by decide)
  obtain ⟨m', e', hm, hl⟩ := readRung_le double s (by rw [e1, e2]; omega) hr1 hlt
  refine ⟨m', e', ⟨_, rfl, by rw [hr, read_word double s (by omega), hm]⟩, hl, ?_⟩
  by_cases hz : m = 0
  · subst hz
    rw [nearest_zero] at hr
    have h0 := word_inj hr
    subst h0
    have : readRung double s 0 = .number s 0 (-1074) := by unfold readRung; rw [if_pos (by decide), e1]
    rw [this] at hm
    cases hm
    unfold wo
    grind
  · have hn : ∃ last : Int, last = max (e + (m.log2 : Int) - 52) (-1074) ∧ double.nearest s m e = double.word s (min ((last + 1074).toNat * 2 ^ 52 + Toward.even.cut s (m <<< (e - last).toNat) (last - e).toNat) (2047 * 2 ^ 52)) := by
      refine ⟨_, rfl, ?_⟩
      unfold Format.nearest
      rw [if_neg hz]
      dsimp only
      rw [e1, e2, e3, e5]
      rw [show ∀ z : Int, z - -1074 = z + 1074 by intro z; omega]
      rfl
    obtain ⟨last, hlast, hn⟩ := hn
    have hk2 := kept_le double s (mag := m) (place := e)
    rw [e1, e2] at hk2
    have hk2' : Toward.even.cut s (m <<< (e - last).toNat) (last - e).toNat ≤ 2 ^ 53 := by rw [hlast]; exact hk2
    clear hk2
    have hc := cut_near s (m <<< (e - last).toNat) (last - e).toNat
    generalize Toward.even.cut s (m <<< (e - last).toNat) (last - e).toNat = k at hn hk2' hc
    rw [hn] at hr
    have hrr := word_inj hr
    rw [e3] at hlt
    have hr' : r = (last + 1074).toNat * 2 ^ 52 + k := by
      generalize (last + 1074).toNat * 2 ^ 52 + k = z at hrr
      generalize 2047 * 2 ^ 52 = y at hrr hlt
      omega
    clear hrr hn hr
    rw [shl] at hc
    have hlog := Nat.log2_self_le hz
    have hup := lt_log2 m
    have hE : e + (m.log2 : Int) ≤ E := by
      obtain ⟨g1, g2⟩ := h.resolve_left hz
      have := (Nat.pow_le_pow_iff_right (by decide : 1 < 2)).1 (Nat.le_trans hlog g2)
      omega
    have hk : last = -1074 ∨ 2 ^ 52 ≤ k := by
      by_cases g : last = -1074
      · exact .inl g
      · right
        have g1 : last = e + (m.log2 : Int) - 52 := by omega
        by_cases g2 : (last - e).toNat = 0
        · rw [g2] at hc
          have g3 : 2 ^ 52 = 2 ^ m.log2 * 2 ^ (52 - m.log2) := by rw [← Nat.pow_add]; congr 1; omega
          have g4 : (e - last).toNat = 52 - m.log2 := by omega
          rw [g4] at hc
          have g5 : 2 ^ m.log2 * 2 ^ (52 - m.log2) ≤ m * 2 ^ (52 - m.log2) := Nat.mul_le_mul_right _ hlog
          rw [g3]
          generalize 2 ^ m.log2 * 2 ^ (52 - m.log2) = y at g5 ⊢
          generalize m * 2 ^ (52 - m.log2) = z at g5 hc
          omega
        · have g3 : (e - last).toNat = 0 := by omega
          have g4 : m.log2 = 52 + (last - e).toNat := by omega
          rw [g3, Nat.pow_zero, Nat.mul_one] at hc
          rw [g4, Nat.pow_add] at hlog
          have g5 := Nat.two_pow_pos (last - e).toNat
          generalize 2 ^ (last - e).toNat = g at g5 hc hlog
          refine Nat.le_of_not_lt fun g6 => ?_
          have g7 : (k + 1) * g ≤ 2 ^ 52 * g := Nat.mul_le_mul_right _ g6
          rw [Nat.add_mul, Nat.one_mul] at g7
          generalize 2 ^ 52 * g = y at g7 hlog
          generalize k * g = z at g7 hc
          omega
    have hw : wo m' e' = wo k last := by
      rw [hr'] at hm hlt
      obtain ⟨m2, e2', q1, q2⟩ := readRung_keep s (by omega) hk hk2' hlt
      rw [q1] at hm
      cases hm
      rcases q2 with ⟨rfl, rfl⟩ | ⟨rfl, rfl, rfl⟩
      · rfl
      · exact (wo_pow (2 ^ 52) 1 last).symm
    have f1 : wo (k * 2 ^ (last - e).toNat) (last - (last - e).toNat) = wo k last := by rw [wo_pow]; congr 1; omega
    have f2 : wo (m * 2 ^ (e - last).toNat) (last - (last - e).toNat) = wo m e := by rw [wo_pow]; congr 1; omega
    have f3 : wo (2 ^ (last - e).toNat) (last - (last - e).toNat) = (2 : Rat) ^ last := by
      have := wo_pow 1 (last - e).toNat (last - (last - e).toNat)
      rw [Nat.one_mul] at this
      rw [this, wo_one]; congr 1; omega
    have c1 := wo_mono hc.1 (last - (last - e).toNat)
    have c2 := wo_mono hc.2 (last - (last - e).toNat)
    rw [wo_add, wo_two, wo_two, f1, f2, f3] at c1 c2
    have hb : (2 : Rat) ^ last ≤ 2 * (2 : Rat) ^ (E - 53) := by
      have h9 := two_mono (by omega : last ≤ E - 52)
      have h8 : (2 : Rat) ^ (E - 52) = (2 : Rat) ^ (E - 53) * 2 := by
        rw [← Rat.zpow_add_one two_ne]; congr 1; omega
      grind
    rw [hw]
    constructor <;> grind
end Go.Proofs.Ytlpahmefebgdlaa.Fx
namespace Go.Proofs.Ytlpahmefebgdlaa.Fx
open Go Nr Ieee

def val (s : Bool) (m : Nat) (e : Int) : Rat := bif s then -(wo m e) else wo m e
/-- A float is finite and worth v. -/
def Has (x : F64) (v : Rat) : Prop := ∃ s m e, Num x s m e ∧ v = val s m e
theorem wo_nonneg (m : Nat) (e : Int) : 0 ≤ wo m e := by
  have h := wo_mono (Nat.zero_le m) e
  have h0 : wo 0 e = 0 := by unfold wo; grind
  rwa [h0] at h
theorem le2_of {m : Nat} {e E : Int} (h : wo m e ≤ (2 : Rat) ^ E) : Le2 m e E := by
  by_cases hz : m = 0
  · exact .inl hz
  · right
    have h1 := wo_mono (by omega : 1 ≤ m) e
    rw [wo_one] at h1
    have he : e ≤ E := by
      refine Int.not_lt.1 fun hlt => ?_
      have h2 := two_mono (by omega : E + 1 ≤ e)
      rw [Rat.zpow_add_one two_ne] at h2
      have h3 := two_pos E
      grind
    refine ⟨he, ?_⟩
    have e1 : (2 : Rat) ^ E = wo (2 ^ (E - e).toNat) e := by
      have := wo_pow 1 (E - e).toNat e
      rw [Nat.one_mul] at this
      rw [this, wo_one]; congr 1; omega
    rw [e1] at h
    refine Nat.not_lt.1 fun hlt => ?_
    have h4 := wo_mono (by omega : 2 ^ (E - e).toNat + 1 ≤ m) e
    rw [wo_add, wo_one] at h4
    have h5 := two_pos e
    grind
theorem val_le {s : Bool} {m : Nat} {e : Int} {b : Rat} (h1 : val s m e ≤ b) (h2 : -b ≤ val s m e) : wo m e ≤ b := by
  unfold val at h1 h2
  cases s <;> simp only [cond_true, cond_false] at h1 h2 <;> grind
/-- Rounded: a value near. -/
theorem has_round (s : Bool) {m : Nat} {e E : Int} (h : wo m e ≤ (2 : Rat) ^ E) (h1 : -1022 ≤ E) (h2 : E ≤ 1023) :
    ∃ v, Has (bx (double.nearest s m e)) v ∧ v ≤ val s m e + (2 : Rat) ^ (E - 53) ∧ val s m e ≤ v + (2 : Rat) ^ (E - 53) := by
  obtain ⟨m', e', g1, g2, g3, g4⟩ := num_round s (le2_of h) h1 h2
  refine ⟨_, ⟨s, m', e', g1, rfl⟩, ?_⟩
  unfold val
  cases s <;> simp only [cond_true, cond_false] <;> constructor <;> grind

/-- A whole number of units. -/
def wi (z : Int) (e : Int) : Rat := (z : Rat) * (2 : Rat) ^ e
theorem wi_add (a b e : Int) : wi (a + b) e = wi a e + wi b e := by
  unfold wi; rw [Rat.intCast_add]; grind
theorem wi_signed (s : Bool) (m k : Nat) (e : Int) : wi (signed s m k) e = val s m (e + k) := by
  rw [signed_eq, val, ← wo_pow]
  unfold wi wo
  cases s
  · simp only [Bool.false_eq_true, if_false, cond_false]; rw [Rat.intCast_natCast]
  · simp only [if_true, cond_true]; rw [Rat.intCast_neg, Rat.intCast_natCast]; grind
theorem wi_val (z : Int) (e : Int) {s : Bool} (hs : z ≠ 0 → s = decide (z < 0)) : val s z.natAbs e = wi z e := by
  by_cases hz : z = 0
  · subst hz; unfold val wi wo; cases s <;> simp
  · rw [hs hz]
    unfold val wi wo
    by_cases h : z < 0
    · have e1 : z = -(z.natAbs : Int) := by omega
      rw [decide_eq_true h]
      simp only [cond_true]
      conv => rhs; rw [e1]
      rw [Rat.intCast_neg, Rat.intCast_natCast]; grind
    · have e1 : z = (z.natAbs : Int) := by omega
      rw [decide_eq_false h]
      simp only [cond_false]
      conv => rhs; rw [e1]
      rw [Rat.intCast_natCast]
theorem add_has {x y : F64} {a b : Rat} {E : Int} (hx : Has x a) (hy : Has y b) (h1 : a + b ≤ (2 : Rat) ^ E) (h2 : -((2 : Rat) ^ E) ≤ a + b) (h3 : -1022 ≤ E) (h4 : E ≤ 1023) :
    ∃ v, Has (x + y) v ∧ v ≤ a + b + (2 : Rat) ^ (E - 53) ∧ a + b ≤ v + (2 : Rat) ^ (E - 53) := by
  obtain ⟨s, m, i, hx, rfl⟩ := hx
  obtain ⟨t, n, j, hy, rfl⟩ := hy
  rw [hx.add hy]
  unfold addW
  have e1 : val s m i = wi (signed s m (i - min i j).toNat) (min i j) := by rw [wi_signed]; congr 1; omega
  have e2 : val t n j = wi (signed t n (j - min i j).toNat) (min i j) := by rw [wi_signed]; congr 1; omega
  rw [e1, e2, ← wi_add] at h1 h2 ⊢
  generalize signed s m (i - min i j).toNat + signed t n (j - min i j).toNat = z at h1 h2 ⊢
  have hv : ∀ q : Bool, val (if z = 0 then q else decide (z < 0)) z.natAbs (min i j) = wi z (min i j) := fun q => wi_val z _ (fun hz => by rw [if_neg hz])
  have := hv (s && t)
  rw [← this] at h1 h2 ⊢
  exact has_round _ (val_le h1 h2) h3 h4
theorem val_not (t : Bool) (n : Nat) (j : Int) : val (!t) n j = -(val t n j) := by
  unfold val; cases t <;> simp only [Bool.not_true, Bool.not_false, cond_true, cond_false] <;> grind
theorem sub_has {x y : F64} {a b : Rat} {E : Int} (hx : Has x a) (hy : Has y b) (h1 : a - b ≤ (2 : Rat) ^ E) (h2 : -((2 : Rat) ^ E) ≤ a - b) (h3 : -1022 ≤ E) (h4 : E ≤ 1023) :
    ∃ v, Has (x - y) v ∧ v ≤ a - b + (2 : Rat) ^ (E - 53) ∧ a - b ≤ v + (2 : Rat) ^ (E - 53) := by
  obtain ⟨s, m, i, hx, rfl⟩ := hx
  obtain ⟨t, n, j, hy, rfl⟩ := hy
  rw [hx.sub hy]
  unfold addW
  have e0 : val s m i - val t n j = val s m i + val (!t) n j := by rw [val_not]; grind
  have e1 : val s m i = wi (signed s m (i - min i j).toNat) (min i j) := by rw [wi_signed]; congr 1; omega
  have e2 : val (!t) n j = wi (signed (!t) n (j - min i j).toNat) (min i j) := by rw [wi_signed]; congr 1; omega
  rw [e0, e1, e2, ← wi_add] at h1 h2 ⊢
  generalize signed s m (i - min i j).toNat + signed (!t) n (j - min i j).toNat = z at h1 h2 ⊢
  have hv : ∀ q : Bool, val (if z = 0 then q else decide (z < 0)) z.natAbs (min i j) = wi z (min i j) := fun q => wi_val z _ (fun hz => by rw [if_neg hz])
  have := hv (s && !t)
  rw [← this] at h1 h2 ⊢
  exact has_round _ (val_le h1 h2) h3 h4
theorem wo_mul (m n : Nat) (i j : Int) : wo (m * n) (i + j) = wo m i * wo n j := by
  unfold wo; rw [Rat.natCast_mul, Rat.zpow_add two_ne]; grind
theorem mul_has {x y : F64} {a b : Rat} {E : Int} (hx : Has x a) (hy : Has y b) (h1 : a * b ≤ (2 : Rat) ^ E) (h2 : -((2 : Rat) ^ E) ≤ a * b) (h3 : -1022 ≤ E) (h4 : E ≤ 1023) :
    ∃ v, Has (x * y) v ∧ v ≤ a * b + (2 : Rat) ^ (E - 53) ∧ a * b ≤ v + (2 : Rat) ^ (E - 53) := by
  obtain ⟨s, m, i, ⟨r, rfl, hr⟩, rfl⟩ := hx
  obtain ⟨t, n, j, ⟨q, rfl, hq⟩, rfl⟩ := hy
  rw [mul_some, hr, hq]
  have e0 : val s m i * val t n j = val (s ^^ t) (m * n) (i + j) := by
    unfold val; rw [wo_mul]
    cases s <;> cases t <;> simp only [Bool.xor_true, Bool.xor_false, Bool.not_true, Bool.not_false, cond_true, cond_false] <;> grind
  rw [e0] at h1 h2 ⊢
  exact has_round _ (val_le h1 h2) h3 h4
end Go.Proofs.Ytlpahmefebgdlaa.Fx
namespace Go.Proofs.Ytlpahmefebgdlaa.Fx
open Go Nr Ieee

/-- The quotient with one digit more that tells whether anything is left over. -/
theorem sticky (N n : Nat) (hn : 0 < n) : (2 * (N / n) + (N % n != 0).toNat) * n ≤ 2 * N + n ∧ 2 * N ≤ (2 * (N / n) + (N % n != 0).toNat) * n + n := by
  have h1 := Nat.div_add_mod N n
  have h2 := Nat.mod_lt N hn
  generalize N / n = q at h1 ⊢
  generalize N % n = r at h1 h2 ⊢
  subst h1
  by_cases hr : r = 0
  · subst hr
    simp only [bne_self_eq_false, Bool.toNat_false, Nat.add_zero]
    rw [Nat.mul_assoc, Nat.mul_comm q n]; omega
  · have : (r != 0) = true := by simp [hr]
    rw [this, Bool.toNat_true, Nat.add_mul, Nat.mul_assoc, Nat.mul_comm q n]; omega
theorem wo_pos {n : Nat} (hn : 0 < n) (j : Int) : 0 < wo n j := by
  have h := wo_mono hn j
  rw [wo_one] at h
  have := two_pos j
  grind
theorem log_le {m : Nat} (hm : m ≠ 0) (i : Int) : (2 : Rat) ^ (i + (m.log2 : Int)) ≤ wo m i := by
  have h := wo_mono (Nat.log2_self_le hm) i
  have e := wo_pow 1 m.log2 i
  rw [Nat.one_mul, wo_one] at e
  rwa [e] at h
theorem log_lt (n : Nat) (j : Int) : wo n j ≤ (2 : Rat) ^ (j + (n.log2 : Int) + 1) := by
  have h := wo_mono (Nat.le_of_lt (lt_log2 n)) j
  have e := wo_pow 1 (n.log2 + 1) j
  rw [Nat.one_mul, wo_one] at e
  rw [e] at h
  rwa [show j + ((n.log2 + 1 : Nat) : Int) = j + (n.log2 : Int) + 1 by omega] at h
/-- The quotient's worth, before it is rounded. -/
theorem quo_worth {m n K : Nat} {i j : Int} {C : Rat} (hm : m ≠ 0) (hn : 0 < n) (hK : (K : Int) = 54 + (n.log2 : Int) - (m.log2 : Int)) (hC : wo m i = C * wo n j) :
    wo (2 * (m * 2 ^ K / n) + ((m * 2 ^ K) % n != 0).toNat) (i - j - K - 1) ≤ C + C * (2 : Rat) ^ (-54 : Int) ∧ C ≤ wo (2 * (m * 2 ^ K / n) + ((m * 2 ^ K) % n != 0).toNat) (i - j - K - 1) + C * (2 : Rat) ^ (-54 : Int) := by
  obtain ⟨s1, s2⟩ := sticky (m * 2 ^ K) n hn
  generalize 2 * (m * 2 ^ K / n) + ((m * 2 ^ K) % n != 0).toNat = z at s1 s2 ⊢
  have c1 := wo_mono s1 (i - K - 1)
  have c2 := wo_mono s2 (i - K - 1)
  have e1 : wo (2 * (m * 2 ^ K)) (i - K - 1) = wo m i := by
    rw [show 2 * (m * 2 ^ K) = m * 2 ^ (K + 1) by rw [Nat.pow_succ]; grind, wo_pow]; congr 1; omega
  have e2 : wo (z * n) (i - K - 1) = wo z (i - j - K - 1) * wo n j := by rw [← wo_mul]; congr 1; omega
  have e3 : wo n (i - K - 1) = wo n j * (2 : Rat) ^ (i - j - K - 1) := by
    unfold wo
    rw [show i - K - 1 = j + (i - j - K - 1) by omega, Rat.zpow_add two_ne]; grind
  rw [wo_add, e1, e2, e3, hC] at c1 c2
  have hp := wo_pos hn j
  -- the unit is small
  have hu : wo n j * (2 : Rat) ^ (i - j - K - 1) ≤ wo n j * (C * (2 : Rat) ^ (-54 : Int)) := by
    have h1 := log_le hm i
    have h2 := log_lt n j
    have h3 : (2 : Rat) ^ (j + (n.log2 : Int) + 1) * (2 : Rat) ^ (i - j - K - 1) = (2 : Rat) ^ (i + (m.log2 : Int)) * (2 : Rat) ^ (-54 : Int) := by
      rw [← Rat.zpow_add two_ne, ← Rat.zpow_add two_ne]; congr 1; omega
    have h4 := Rat.mul_le_mul_of_nonneg_left h2 (Rat.le_of_lt (two_pos (i - j - K - 1)))
    have h5 := Rat.mul_le_mul_of_nonneg_left h1 (Rat.le_of_lt (two_pos (-54 : Int)))
    rw [hC] at h5
    grind
  have f1 : wo n j * wo z (i - j - K - 1) ≤ wo n j * (C + C * (2 : Rat) ^ (-54 : Int)) := by grind
  have f2 : wo n j * C ≤ wo n j * (wo z (i - j - K - 1) + C * (2 : Rat) ^ (-54 : Int)) := by grind
  exact ⟨Rat.le_of_mul_le_mul_left f1 hp, Rat.le_of_mul_le_mul_left f2 hp⟩
theorem div_has {x y : F64} {a b c : Rat} {E : Int} (hx : Has x a) (hy : Has y b) (hb : b ≠ 0) (hc : a = c * b) (h1 : c ≤ (2 : Rat) ^ E) (h2 : -((2 : Rat) ^ E) ≤ c) (h3 : -1022 ≤ E) (h4 : E ≤ 1022) :
    ∃ v, Has (x / y) v ∧ v ≤ c + (2 : Rat) ^ (E - 51) ∧ c ≤ v + (2 : Rat) ^ (E - 51) := by
  obtain ⟨s, m, i, hx, rfl⟩ := hx
  obtain ⟨t, n, j, hy, rfl⟩ := hy
  obtain ⟨b1, b2, b3⟩ := hx.bound
  obtain ⟨r, rfl, hr⟩ := hx
  obtain ⟨q, rfl, hq⟩ := hy
  have hn0 : n ≠ 0 := by
    rintro rfl
    apply hb
    unfold val wo
    cases t <;> simp
  rw [div_some, hr, hq]
  have : (((Datum.number s m i).quotient 54 (Datum.number t n j)).map double.write : Option Nat) =
      some (double.nearest (s ^^ t) (2 * ((m <<< (54 + n.log2 - m.log2)) / n) + (((m <<< (54 + n.log2 - m.log2)) % n) != 0).toNat) (i - j - ((54 + n.log2 - m.log2 : Nat) : Int) - 1)) := by
    simp only [Datum.quotient, if_neg hn0]; rfl
  rw [this]
  obtain ⟨K, hK⟩ : ∃ K, 54 + n.log2 - m.log2 = K := ⟨_, rfl⟩
  rw [hK, shl]
  have hnp : 0 < n := Nat.pos_of_ne_zero hn0
  -- the quotient of the magnitudes
  have hp := wo_pos hnp j
  obtain ⟨C, hC, hCc⟩ : ∃ C : Rat, wo m i = C * wo n j ∧ c = bif (s ^^ t) then -C else C := by
    refine ⟨bif (s ^^ t) then -c else c, ?_, ?_⟩
    · revert hc
      unfold val
      cases s <;> cases t <;> simp only [Bool.xor_true, Bool.xor_false, Bool.not_true, Bool.not_false, cond_true, cond_false] <;> intro hc <;> grind
    · cases s <;> cases t <;> simp only [Bool.xor_true, Bool.xor_false, Bool.not_true, Bool.not_false, cond_true, cond_false] <;> grind
  have hC1 : C ≤ (2 : Rat) ^ E := by
    revert hCc
    cases s ^^ t <;> simp only [cond_true, cond_false] <;> intro hCc <;> grind
  have hC0 : 0 ≤ C := by
    have h0 := wo_nonneg m i
    rw [hC] at h0
    have : wo n j * 0 ≤ wo n j * C := by grind
    exact Rat.le_of_mul_le_mul_left this hp
  have hd : C * (2 : Rat) ^ (-54 : Int) ≤ (2 : Rat) ^ (E - 54) := by
    have := Rat.mul_le_mul_of_nonneg_left hC1 (Rat.le_of_lt (two_pos (-54 : Int)))
    have e : (2 : Rat) ^ (E - 54) = (2 : Rat) ^ (-54 : Int) * (2 : Rat) ^ E := by rw [← Rat.zpow_add two_ne]; congr 1; omega
    grind
  have w : wo (2 * (m * 2 ^ K / n) + ((m * 2 ^ K) % n != 0).toNat) (i - j - K - 1) ≤ C + (2 : Rat) ^ (E - 54) ∧ C ≤ wo (2 * (m * 2 ^ K / n) + ((m * 2 ^ K) % n != 0).toNat) (i - j - K - 1) + (2 : Rat) ^ (E - 54) := by
    by_cases hm : m = 0
    · subst hm
      have hz : 2 * (0 * 2 ^ K / n) + ((0 * 2 ^ K) % n != 0).toNat = 0 := by simp
      have hw : wo 0 (i - j - K - 1) = 0 := by unfold wo; grind
      have hw' : wo 0 i = 0 := by unfold wo; grind
      rw [hw'] at hC
      have hC2 : C ≤ 0 := by
        have : wo n j * C ≤ wo n j * 0 := by grind
        exact Rat.le_of_mul_le_mul_left this hp
      rw [hz, hw]
      have := two_pos (E - 54)
      constructor <;> grind
    · have hlog : m.log2 ≤ 52 := by
        have h5 : 2 ^ m.log2 < 2 ^ 53 := Nat.lt_of_le_of_lt (Nat.log2_self_le hm) b1
        have := (Nat.pow_lt_pow_iff_right (by decide)).1 h5
        omega
      have := quo_worth (K := K) hm hnp (by omega) hC
      constructor <;> grind
  generalize 2 * (m * 2 ^ K / n) + ((m * 2 ^ K) % n != 0).toNat = z at w ⊢
  have g1 := two_mono (by omega : E - 54 ≤ E - 52)
  have g2 := two_mono (by omega : E - 54 ≤ E)
  have g3 : (2 : Rat) ^ (E + 1) = (2 : Rat) ^ E * 2 := Rat.zpow_add_one two_ne E
  have g4 : (2 : Rat) ^ (E - 51) = (2 : Rat) ^ (E - 52) * 2 := by rw [← Rat.zpow_add_one two_ne]; congr 1; omega
  have hz : wo z (i - j - K - 1) ≤ (2 : Rat) ^ (E + 1) := by grind
  obtain ⟨v, q1, q2, q3⟩ := has_round (s ^^ t) hz (by omega) (by omega)
  have g5 : (2 : Rat) ^ (E + 1 - 53) = (2 : Rat) ^ (E - 52) := by congr 1; omega
  rw [g5] at q2 q3
  refine ⟨v, q1, ?_⟩
  rw [hCc]
  revert q2 q3
  unfold val
  cases s ^^ t <;> simp only [cond_true, cond_false] <;> intro q2 q3 <;> constructor <;> grind
end Go.Proofs.Ytlpahmefebgdlaa.Fx
namespace Go.Proofs.Ytlpahmefebgdlaa.Fx
open Go Nr Ieee

/-- A 32-bit float is finite and worth v. -/
def HasS (x : F32) (v : Rat) : Prop := ∃ s m e, NumS x s m e ∧ v = val s m e
theorem val_pow (s : Bool) (m j : Nat) (e : Int) : val s (m * 2 ^ j) (e - j) = val s m e := by
  unfold val; rw [wo_pow, show e - j + j = e by omega]
theorem widen_has {x : F32} {v : Rat} (h : HasS x v) : Has (widen x) v := by
  obtain ⟨s, m, e, h, rfl⟩ := h
  obtain ⟨j, hj⟩ := widen_numS h
  exact ⟨_, _, _, hj, (val_pow s m j e).symm⟩
theorem wi_lt {a b : Int} (e : Int) : wi a e < wi b e ↔ a < b := by
  unfold wi
  have hp := two_pos e
  constructor
  · intro h
    refine Int.not_le.1 fun hle => ?_
    have h1 : (b : Rat) ≤ (a : Rat) := Rat.intCast_le_intCast.2 hle
    have h2 := Rat.mul_le_mul_of_nonneg_left h1 (Rat.le_of_lt hp)
    grind
  · intro h
    have h1 : ((a + 1 : Int) : Rat) ≤ (b : Rat) := Rat.intCast_le_intCast.2 h
    have h2 := Rat.mul_le_mul_of_nonneg_left h1 (Rat.le_of_lt hp)
    rw [Rat.intCast_add] at h2
    have h3 : ((1 : Int) : Rat) = 1 := rfl
    grind
theorem ord_has {x y : F64} {a b : Rat} (hx : Has x a) (hy : Has y b) : ∃ (z w : Int) (e : Int), ord x y = some (compare z w) ∧ a = wi z e ∧ b = wi w e := by
  obtain ⟨s, m, i, ⟨r, rfl, hr⟩, rfl⟩ := hx
  obtain ⟨t, n, j, ⟨q, rfl, hq⟩, rfl⟩ := hy
  refine ⟨signed s m (i - min i j).toNat, signed t n (j - min i j).toNat, min i j, ?_, ?_, ?_⟩
  · rw [ord_some, hr, hq]; rfl
  · rw [wi_signed]; congr 1; omega
  · rw [wi_signed]; congr 1; omega
theorem lt_has {x y : F64} {a b : Rat} (hx : Has x a) (hy : Has y b) : lt x y = decide (a < b) := by
  obtain ⟨z, w, e, ho, rfl, rfl⟩ := ord_has hx hy
  unfold lt
  rw [ho, cmp_lt]
  exact decide_eq_decide.2 (wi_lt e).symm
theorem gt_has {x y : F64} {a b : Rat} (hx : Has x a) (hy : Has y b) : gt x y = decide (b < a) := by
  obtain ⟨z, w, e, ho, rfl, rfl⟩ := ord_has hx hy
  unfold gt
  rw [ho, cmp_gt]
  exact decide_eq_decide.2 (wi_lt e).symm
end Go.Proofs.Ytlpahmefebgdlaa.Fx
namespace Go.Proofs.Ytlpahmefebgdlaa.Fx
open Go Nr Ieee

theorem readRung_keepS (neg : Bool) {k : Nat} {p : Int} (hp : -149 ≤ p) (hk : p = -149 ∨ 2 ^ 23 ≤ k) (hk2 : k ≤ 2 ^ 24) (hi : (p + 149).toNat * 2 ^ 23 + k < 255 * 2 ^ 23) :
    ∃ m' e', readRung single neg ((p + 149).toNat * 2 ^ 23 + k) = .number neg m' e' ∧ ((m' = k ∧ e' = p) ∨ (k = 2 ^ 24 ∧ m' = 2 ^ 23 ∧ e' = p + 1)) := by
  have e1 : single.leastPlace = -149 := by decide
  have e3 : single.infRung = 255 * 2 ^ 23 := by decide
  have e5 : single.binade = 2 ^ 23 := by decide
  obtain ⟨j, hj⟩ : ∃ j : Nat, p = -149 + (j : Int) := ⟨(p + 149).toNat, by omega⟩
  have hj' : (p + 149).toNat = j := by omega
  rw [hj'] at hi ⊢
  unfold readRung
  rw [e1, e3, e5]
  by_cases h1 : k < 2 ^ 23
  · have h2 : j = 0 := by omega
    subst h2
    rw [if_pos (by omega)]
    exact ⟨_, _, rfl, .inl ⟨by omega, by omega⟩⟩
  · rw [if_neg (by omega), if_pos hi]
    by_cases h2 : k = 2 ^ 24
    · refine ⟨_, _, rfl, .inr ⟨h2, ?_, ?_⟩⟩
      · omega
      · omega
    · exact ⟨_, _, rfl, .inl ⟨by omega, by omega⟩⟩

theorem word_injS {s : Bool} {a b : Nat} (h : single.word s a = single.word s b) : a = b := by
  unfold Format.word at h
  cases s
  · exact h
  · exact Nat.add_left_cancel h
/-- A number rounded: the worth's error. -/
theorem num_roundS (s : Bool) {m : Nat} {e E : Int} (h : Le2 m e E) (h1 : -126 ≤ E) (h2 : E ≤ 127) :
    ∃ m' e', NumS (sx (single.nearest s m e)) s m' e' ∧ Le2 m' e' E ∧ wo m' e' ≤ wo m e + (2 : Rat) ^ (E - 24) ∧ wo m e ≤ wo m' e' + (2 : Rat) ^ (E - 24) := by
  have e1 : single.leastPlace = -149 := by decide
  have e2 : single.fractionBits = 23 := rfl
  have e3 : single.infRung = 255 * 2 ^ 23 := by decide
  have e4 : single.signWeight = 256 * 2 ^ 23 := by decide
  have e5 : single.binade = 2 ^ 23 := by decide
  have hpos := two_pos (E - 24)
  obtain ⟨r, hr, hr1, hr2⟩ := nearest_le single s (by rw [e1, e2]; omega) h
  have hlt : r < single.infRung := by
    refine Nat.lt_of_le_of_lt hr1 ?_
    unfold rungPow
    rw [e1, e2, e3, e5]
    exact Nat.mul_lt_mul_of_pos_right (by omega) (by decide)
  obtain ⟨m', e', hm, hl⟩ := readRung_le single s (by rw [e1, e2]; omega) hr1 hlt
  refine ⟨m', e', ⟨_, rfl, by rw [hr, read_word single s (by omega), hm]⟩, hl, ?_⟩
  by_cases hz : m = 0
  · subst hz
    rw [show single.nearest s 0 e = single.word s 0 by unfold Format.nearest; rw [if_pos rfl]] at hr
    have h0 := word_injS hr
    subst h0
    have : readRung single s 0 = .number s 0 (-149) := by unfold readRung; rw [if_pos (by decide), e1]
    rw [this] at hm
    cases hm
    unfold wo
    grind
  · have hn : ∃ last : Int, last = max (e + (m.log2 : Int) - 23) (-149) ∧ single.nearest s m e = single.word s (min ((last + 149).toNat * 2 ^ 23 + Toward.even.cut s (m <<< (e - last).toNat) (last - e).toNat) (255 * 2 ^ 23)) := by
      refine ⟨_, rfl, ?_⟩
      unfold Format.nearest
      rw [if_neg hz]
      dsimp only
      rw [e1, e2, e3, e5]
      rw [show ∀ z : Int, z - -149 = z + 149 by intro z; omega]
      rfl
    obtain ⟨last, hlast, hn⟩ := hn
    have hk2 := kept_le single s (mag := m) (place := e)
    rw [e1, e2] at hk2
    have hk2' : Toward.even.cut s (m <<< (e - last).toNat) (last - e).toNat ≤ 2 ^ 24 := by rw [hlast]; exact hk2
    clear hk2
    have hc := cut_near s (m <<< (e - last).toNat) (last - e).toNat
    generalize Toward.even.cut s (m <<< (e - last).toNat) (last - e).toNat = k at hn hk2' hc
    rw [hn] at hr
    have hrr := word_injS hr
    rw [e3] at hlt
    have hr' : r = (last + 149).toNat * 2 ^ 23 + k := by
      generalize (last + 149).toNat * 2 ^ 23 + k = z at hrr
      generalize 255 * 2 ^ 23 = y at hrr hlt
      omega
    clear hrr hn hr
    rw [shl] at hc
    have hlog := Nat.log2_self_le hz
    have hup := lt_log2 m
    have hE : e + (m.log2 : Int) ≤ E := by
      obtain ⟨g1, g2⟩ := h.resolve_left hz
      have := (Nat.pow_le_pow_iff_right (by decide : 1 < 2)).1 (Nat.le_trans hlog g2)
      omega
    have hk : last = -149 ∨ 2 ^ 23 ≤ k := by
      by_cases g : last = -149
      · exact .inl g
      · right
        have g1 : last = e + (m.log2 : Int) - 23 := by omega
        by_cases g2 : (last - e).toNat = 0
        · rw [g2] at hc
          have g3 : 2 ^ 23 = 2 ^ m.log2 * 2 ^ (23 - m.log2) := by rw [← Nat.pow_add]; congr 1; omega
          have g4 : (e - last).toNat = 23 - m.log2 := by omega
          rw [g4] at hc
          have g5 : 2 ^ m.log2 * 2 ^ (23 - m.log2) ≤ m * 2 ^ (23 - m.log2) := Nat.mul_le_mul_right _ hlog
          rw [g3]
          generalize 2 ^ m.log2 * 2 ^ (23 - m.log2) = y at g5 ⊢
          generalize m * 2 ^ (23 - m.log2) = z at g5 hc
          omega
        · have g3 : (e - last).toNat = 0 := by omega
          have g4 : m.log2 = 23 + (last - e).toNat := by omega
          rw [g3, Nat.pow_zero, Nat.mul_one] at hc
          rw [g4, Nat.pow_add] at hlog
          have g5 := Nat.two_pow_pos (last - e).toNat
          generalize 2 ^ (last - e).toNat = g at g5 hc hlog
          refine Nat.le_of_not_lt fun g6 => ?_
          have g7 : (k + 1) * g ≤ 2 ^ 23 * g := Nat.mul_le_mul_right _ g6
          rw [Nat.add_mul, Nat.one_mul] at g7
          generalize 2 ^ 23 * g = y at g7 hlog
          generalize k * g = z at g7 hc
          omega
    have hw : wo m' e' = wo k last := by
      rw [hr'] at hm hlt
      obtain ⟨m2, e2', q1, q2⟩ := readRung_keepS s (by omega) hk hk2' hlt
      rw [q1] at hm
      cases hm
      rcases q2 with ⟨rfl, rfl⟩ | ⟨rfl, rfl, rfl⟩
      · rfl
      · exact (wo_pow (2 ^ 23) 1 last).symm
    have f1 : wo (k * 2 ^ (last - e).toNat) (last - (last - e).toNat) = wo k last := by rw [wo_pow]; congr 1; omega
    have f2 : wo (m * 2 ^ (e - last).toNat) (last - (last - e).toNat) = wo m e := by rw [wo_pow]; congr 1; omega
    have f3 : wo (2 ^ (last - e).toNat) (last - (last - e).toNat) = (2 : Rat) ^ last := by
      have := wo_pow 1 (last - e).toNat (last - (last - e).toNat)
      rw [Nat.one_mul] at this
      rw [this, wo_one]; congr 1; omega
    have c1 := wo_mono hc.1 (last - (last - e).toNat)
    have c2 := wo_mono hc.2 (last - (last - e).toNat)
    rw [wo_add, wo_two, wo_two, f1, f2, f3] at c1 c2
    have hb : (2 : Rat) ^ last ≤ 2 * (2 : Rat) ^ (E - 24) := by
      have h9 := two_mono (by omega : last ≤ E - 23)
      have h8 : (2 : Rat) ^ (E - 23) = (2 : Rat) ^ (E - 24) * 2 := by
        rw [← Rat.zpow_add_one two_ne]; congr 1; omega
      grind
    rw [hw]
    constructor <;> grind

theorem val_le2 {s : Bool} {m : Nat} {e E : Int} (h1 : val s m e ≤ (2 : Rat) ^ E) (h2 : -((2 : Rat) ^ E) ≤ val s m e) : Le2 m e E := le2_of (val_le h1 h2)
/-- A number narrowed. -/
theorem narrow_has {x : F64} {v : Rat} {E : Int} (h : Has x v) (h1 : v ≤ (2 : Rat) ^ E) (h2 : -((2 : Rat) ^ E) ≤ v) (h3 : -126 ≤ E) (h4 : E ≤ 127) :
    fits x = true ∧ ∃ u, HasS (narrow x) u ∧ u ≤ v + (2 : Rat) ^ (E - 24) ∧ v ≤ u + (2 : Rat) ^ (E - 24) := by
  obtain ⟨s, m, e, hx, rfl⟩ := h
  have hl := val_le2 h1 h2
  refine ⟨(Up.narrow ⟨s, m, e, hx, le2_mono hl (by omega)⟩).1, ?_⟩
  obtain ⟨m', e', g1, g2, g3, g4⟩ := num_roundS s hl h3 h4
  obtain ⟨q, rfl, hq⟩ := hx
  have hd : FloatKind.f64.decode q = .number s m e := hq
  have : narrow (bx q) = sx (single.nearest s m e) := by simp only [narrow, hd]; rfl
  rw [this]
  refine ⟨_, ⟨s, m', e', g1, rfl⟩, ?_⟩
  unfold val
  cases s <;> simp only [cond_true, cond_false] <;> constructor <;> grind
end Go.Proofs.Ytlpahmefebgdlaa.Fx
namespace Go.Proofs.Ytlpahmefebgdlaa.Fx
open Go Nr Ieee

theorem wo_inj {m n : Nat} {e : Int} (h : wo m e = wo n e) : m = n := by
  have hp := two_pos e
  unfold wo at h
  rcases Nat.lt_trichotomy m n with g | g | g
  · have h1 : ((m + 1 : Nat) : Rat) ≤ (n : Rat) := Rat.natCast_le_natCast.2 g
    have h2 := Rat.mul_le_mul_of_nonneg_left h1 (Rat.le_of_lt hp)
    rw [Rat.natCast_add] at h2
    have h3 : ((1 : Nat) : Rat) = 1 := rfl
    grind
  · exact g
  · have h1 : ((n + 1 : Nat) : Rat) ≤ (m : Rat) := Rat.natCast_le_natCast.2 g
    have h2 := Rat.mul_le_mul_of_nonneg_left h1 (Rat.le_of_lt hp)
    rw [Rat.natCast_add] at h2
    have h3 : ((1 : Nat) : Rat) = 1 := rfl
    grind
/-- Numbers of the same worth are rounded alike. -/
theorem nearest_same (s : Bool) {m n : Nat} {i j : Int} (h : wo m i = wo n j) : double.nearest s m i = double.nearest s n j := by
  by_cases hij : i ≤ j
  · obtain ⟨k, hk⟩ := Int.eq_ofNat_of_zero_le (by omega : 0 ≤ j - i)
    have h1 : wo (n * 2 ^ k) i = wo n j := by rw [wo_pow]; congr 1; omega
    have h2 := wo_inj (h.trans h1.symm)
    rw [h2, show i = j - (k : Int) by omega]
    exact nearest_scale double s n k j
  · obtain ⟨k, hk⟩ := Int.eq_ofNat_of_zero_le (by omega : 0 ≤ i - j)
    have h1 : wo (m * 2 ^ k) j = wo m i := by rw [wo_pow]; congr 1; omega
    have h2 := wo_inj (h1.trans h)
    rw [← h2, show j = i - (k : Int) by omega]
    exact (nearest_scale double s m k i).symm
/-- A number that a float can hold is not rounded. -/
theorem has_exact (s : Bool) {m n : Nat} {i j : Int} (h : wo m i = wo n j) (hn : n < 2 ^ 53) (h1 : -1074 ≤ j) (h2 : j ≤ 971) : Has (bx (double.nearest s m i)) (val s m i) := by
  rw [nearest_same s h]
  obtain ⟨k, hk⟩ := num_near s hn h1 h2
  refine ⟨s, _, _, hk, ?_⟩
  rw [val_pow]
  unfold val; rw [h]
theorem add_exact {x y : F64} {a b : Rat} {n : Nat} {j : Int} (hx : Has x a) (hy : Has y b) (h : a + b = wo n j) (hn : n < 2 ^ 53) (h1 : -1074 ≤ j) (h2 : j ≤ 971) : Has (x + y) (a + b) := by
  obtain ⟨s, m, i, hx, rfl⟩ := hx
  obtain ⟨t, m', i', hy, rfl⟩ := hy
  rw [hx.add hy]
  unfold addW
  have e1 : val s m i = wi (signed s m (i - min i i').toNat) (min i i') := by rw [wi_signed]; congr 1; omega
  have e2 : val t m' i' = wi (signed t m' (i' - min i i').toNat) (min i i') := by rw [wi_signed]; congr 1; omega
  rw [e1, e2, ← wi_add] at h ⊢
  generalize signed s m (i - min i i').toNat + signed t m' (i' - min i i').toNat = z at h ⊢
  have hv := wi_val z (min i i') (s := if z = 0 then (s && t) else decide (z < 0)) (fun hz => by rw [if_neg hz])
  rw [← hv] at h ⊢
  refine has_exact _ (n := n) (j := j) ?_ hn h1 h2
  have hw := wo_nonneg z.natAbs (min i i')
  have hw' := wo_nonneg n j
  revert h
  unfold val
  generalize wo z.natAbs (min i i') = u at hw ⊢
  generalize wo n j = v at hw' ⊢
  cases (if z = 0 then (s && t) else decide (z < 0))
  · exact id
  · intro h
    have h' : -u = v := h
    grind
end Go.Proofs.Ytlpahmefebgdlaa.Fx
