/- The executor, eleventh part: functions that return a slice of their own, or none. No condition. -/
import Derived.Test.YtlpahmefebgdlaaEt
namespace Go.Proofs.Ytlpahmefebgdlaa.Fx
open Go Go.RowKit

variable {R : Type}

/-- What a function answers that returns a slice of its own and true, or none and false. -/
structure EntryN (P : Program) where
  f : FuncId
  fn : List AV → Option (Bool × Bool × List AC)
  enter : ∀ (args : Array Value) (w : World), (callFunc f args).run P w = .ok (.enter f args) w
  ok : ∀ args b cells, fn args = some (true, b, cells) → ∀ vs w, RepF [] args vs → args.all plainA = true → Calls P f vs.toArray w fun e w' => Ext w w' ∧
    (match b with
    | true => ∃ (blk cap : Nat) (us : Array Value) (t : TypeId), e = .returned (.tuple #[.slice (some ⟨blk, 0, none⟩) cells.length cap, .bool true]) ∧ w.heap.size ≤ blk ∧ w'.heap[blk]? = some (.cells us t (0, 0)) ∧ RepP [] cells us.toList ∧ cap ≤ us.size ∧ cells.length ≤ cap
    | false => e = .returned (.tuple #[.slice none 0 0, .bool false]))

def findN {P : Program} : List (EntryN P) → FuncId → Option (EntryN P)
  | [], _ => none
  | e :: l, f => if e.f == f then some e else findN l f
theorem findN_f {P : Program} {E : List (EntryN P)} {f : FuncId} {e : EntryN P} (h : findN E f = some e) : e.f = f := by
  induction E with
  | nil => cases h
  | cons a l ih =>
    simp only [findN] at h
    split at h
    · rename_i hf; cases h; simpa using hf
    · exact ih h

theorem MemOk.pushAt {σ : List (Nat × Nat)} {M : List (List AC)} {w w' : World} (h : MemOk σ M w) (hx : Ext w w') {blk cap : Nat} {l : List AC} {us : Array Value} {t : TypeId} (h1 : w.heap.size ≤ blk) (h2 : w'.heap[blk]? = some (.cells us t (0, 0)))
    (h3 : RepP (σ ++ [(blk, cap)]) l us.toList) (h4 : cap ≤ us.size) : MemOk (σ ++ [(blk, cap)]) (M ++ [l]) w' := by
  refine ⟨by simp [h.len], ?_, ?_⟩
  · rw [List.map_append, List.nodup_append]
    refine ⟨h.nodup, by simp, fun a ha b hb => ?_⟩
    simp only [List.map_cons, List.map_nil, List.mem_singleton] at hb
    subst hb
    obtain ⟨p, hp, rfl⟩ := List.mem_map.1 ha
    obtain ⟨i, hi⟩ := List.getElem?_of_mem hp
    have := h.lt hi
    omega
  · intro id b cs hb hcs
    by_cases hi : id < σ.length
    · rw [List.getElem?_append_left hi] at hb
      rw [List.getElem?_append_left (by rw [← h.len]; exact hi)] at hcs
      obtain ⟨vs', e', hw, hr, hs⟩ := (h.ext hx).at_ id b cs hb hcs
      exact ⟨vs', e', hw, hr.mono _, hs⟩
    · have hid : id = σ.length := by
        have := (List.getElem?_eq_some_iff.1 hb).1
        simp at this; omega
      subst hid
      simp only [List.getElem?_append_right (Nat.le_refl _), Nat.sub_self, List.getElem?_cons_zero, Option.some.injEq] at hb
      rw [h.len] at hcs
      simp only [List.getElem?_append_right (Nat.le_refl _), Nat.sub_self, List.getElem?_cons_zero, Option.some.injEq] at hcs
      subst hb hcs
      exact ⟨us, t, h2, h3, h4⟩

/-- An operation; calls of the functions in I are run in place. -/
def stJ (P : Program) (E : List (Entry P)) (I : List FuncId) (N : List (EntryN P)) (n0 k0 : Nat) (rec : Nat → Code → List AV → List (List AC) → (Out → List AV → List (List AC) → Option R) → Option R) (op : Op) (dst : Option Tmp) (F : List AV) (M : List (List AC)) (K : List AV → List (List AC) → Option R) : Option R :=
  match op with
  | .buildSlice t len parts => match litA P F t len parts.toList with
    | some l => K (putA F dst (.c (.slc M.length len))) (M ++ [l])
    | none => none
  | .call c => match c.callee with
    | .builtin .append => match c.args.toList, c.argTypes.toList with
      | [s, x], [t, t'] => if t = t' then match appA P n0 k0 t (evA F s) (evA F x) F M with
          | some (r, F1, M1) => K (putA F1 dst r) M1
          | none => none
        else none
      | _, _ => none
    | .value f => match evA F f with
      | .c (.val (.func (.func id) ⟨[]⟩ ⟨[]⟩)) =>
        match findN N id with
        | some e => match e.fn (c.args.toList.map (evA F)) with
          | some (q, b, cells) => cond (q && ((c.args.toList.map (evA F)).all plainA && cells.all plainC)) (cond b (K (putA F dst (.tup [.slc M.length cells.length, .sb true])) (M ++ [cells])) (K (putA F dst (.tup [.val (.slice none 0 0), .sb false])) M)) none
          | none => none
        | none => cond (I.contains id) (match P.funcs[id]? with
          | some fn => match fn.body with
            | some body => cond (fn.name == "runtime.NumGoroutine") none (rec M.length body (c.args.toList.map (evA F) ++ List.replicate (fn.ntmps - c.args.toList.length) undefA) M fun o F' M' => match o with
                | .exit _ => none
                | _ => match resultA P fn F' M' with
                  | some v => K (putA F dst v) M'
                  | none => none)
            | none => none
          | none => none)
          (stA P E n0 (.call c) dst F M K)
      | _ => none
    | _ => stA P E n0 (.call c) dst F M K
  | op => stA P E n0 op dst F M K

theorem stJ_sound {P : Program} {E : List (Entry P)} {I : List FuncId} {N : List (EntryN P)} {n0 k0 : Nat} {rec : Nat → Code → List AV → List (List AC) → (Out → List AV → List (List AC) → Option R) → Option R}
    (hrec : ∀ (k : Nat) (c : Code) (F : List AV) (M : List (List AC)) (K : Out → List AV → List (List AC) → Option R) (r : R), rec k c F M K = some r → ∃ o F' M', K o F' M' = some r ∧ ∀ w0 : Base, w0.s0.length ≤ k → CodeGoes P n0 w0 c F M o F' M')
    {op : Op} {dst : Option Tmp} {F : List AV} {M : List (List AC)} {K : List AV → List (List AC) → Option R} {r : R}
    (h : stJ P E I N n0 k0 rec op dst F M K = some r) : ∃ F' M', K F' M' = some r ∧ ∀ w0 : Base, w0.s0.length ≤ k0 → OpGoes P n0 w0 op dst F M F' M' := by
  have viaSt : ∀ {op : Op}, stA P E n0 op dst F M K = some r → ∃ F' M', K F' M' = some r ∧ ∀ w0 : Base, w0.s0.length ≤ k0 → OpGoes P n0 w0 op dst F M F' M' := by
    intro op h
    obtain ⟨F', M', hK, hg⟩ := stA_nat h
    exact ⟨F', M', hK, fun w0 _ => hg w0⟩
  unfold stJ at h
  split at h
  · rename_i t len parts
    split at h
    · rename_i l hl
      exact ⟨_, _, h, fun w0 _ => litA_sound hl dst⟩
    · cases h
  · rename_i c
    split at h
    · rename_i hcal
      split at h
      · rename_i s x t t' hargs htys
        split at h
        · rename_i htt
          subst htt
          split at h
          · rename_i q F1 M1 happ
            refine ⟨_, _, h, fun w0 hk σ a w hS ty pos after gd next Q hn => ?_⟩
            obtain ⟨σ', v, w', hr, hs⟩ := app_sound (ty := ty) hk happ dst hS
            unfold Oper.wp
            have e1 : c.args.map a.eval = #[a.eval s, a.eval x] := by
              apply Array.ext'
              rw [Array.toList_map, hargs]; rfl
            have e2 : c.argTypes = #[t, t] := by
              apply Array.ext'
              rw [htys]
            have : (execOp a.eval ⟨dst, .call c, ty, pos, after, gd⟩).run P w = .ok (.value v) w' := by
              simp only [execOp, Go.resolve, hcal, e1, e2]
              simp [invoke, builtin, hr]
            rw [this]
            exact hn _ _ _ hs
          · cases h
        · cases h
      · cases h
    · rename_i f hcal
      split at h
      · rename_i id ef
        split at h
        · rename_i e hfind
          split at h
          · rename_i q b cells hfn
            cases hq : (q && ((c.args.toList.map (evA F)).all plainA && cells.all plainC)) with
            | false => rw [hq] at h; cases h
            | true =>
              rw [hq] at h
              simp only [cond_true] at h
              simp only [Bool.and_eq_true] at hq
              obtain ⟨rfl, hpa, hpc⟩ := hq
              have hid := findN_f hfind
              subst hid
              have enter : ∀ {a : Act} {w : World} {σ : List (Nat × Nat)} {w0 : Base}, St σ n0 w0 F M a w → ∀ (ty : TypeId) (pos : String) (after : Array Edge) (gd : Option (Nat × Bool)),
                  (execOp a.eval ⟨dst, .call c, ty, pos, after, gd⟩).run P w = .ok (.enter e.f (c.args.map a.eval)) w := by
                intro a w σ w0 hS ty pos after gd
                have hfv := rep_ev hS.frame f
                rw [ef] at hfv
                have hf' : a.eval f = .func (.func e.f) #[] #[] := hfv
                have : (execOp a.eval ⟨dst, .call c, ty, pos, after, gd⟩).run P w = (callFunc e.f (c.args.map a.eval)).run P w := by
                  simp only [execOp, Go.resolve, hcal, hf', Deferred.ofValue]
                  simp [invoke]
                rw [this]; exact e.enter _ _
              have hargs : ∀ (a : Act), (c.args.toList.map a.eval).toArray = c.args.map a.eval := fun a => by rw [← Array.toList_map, Array.toArray_toList]
              cases b with
              | true =>
                refine ⟨_, _, h, fun w0 hk σ a w hS ty pos after gd next Q hn => ?_⟩
                unfold Oper.wp
                rw [enter hS ty pos after gd, ← hargs a]
                refine (e.ok _ _ _ hfn _ w (plainF hpa (repF_map hS.frame _)) hpa).mono fun en w' ⟨hx, hr⟩ => ?_
                obtain ⟨blk, cap, us, t, rfl, h1, h2, h3, h4, h5⟩ := hr
                obtain ⟨kk, h3⟩ := h3
                have h3' : RepP (σ ++ [(blk, cap)]) cells us.toList := ⟨kk, plainL_rep (by simp [hpc]; right; rfl) h3⟩
                exact hn (σ ++ [(blk, cap)]) _ _ ⟨by cases dst <;> exact hS.defers, rep_put (hS.frame.mono _) dst ⟨_, rfl, .cons ⟨(blk, cap), by rw [← hS.mem.len, List.getElem?_append_right (Nat.le_refl _), Nat.sub_self]; rfl, h5, rfl⟩ (.cons rfl .nil)⟩,
                  hS.mem.pushAt hx h1 h2 h3' h4, hS.ext.trans hx, fun id b hid hb => (by
                    by_cases hi : id < σ.length
                    · rw [List.getElem?_append_left hi] at hb; exact hS.own id b hid hb
                    · have hid' : id = σ.length := by
                        have := (List.getElem?_eq_some_iff.1 hb).1
                        simp at this; omega
                      subst hid'
                      simp only [List.getElem?_append_right (Nat.le_refl _), Nat.sub_self, List.getElem?_cons_zero, Option.some.injEq] at hb
                      subst hb
                      exact Nat.le_trans hS.ext.size h1), hS.pre.trans (List.prefix_append _ _)⟩
              | false =>
                refine ⟨_, _, h, fun w0 hk σ a w hS ty pos after gd next Q hn => ?_⟩
                unfold Oper.wp
                rw [enter hS ty pos after gd, ← hargs a]
                refine (e.ok _ _ _ hfn _ w (plainF hpa (repF_map hS.frame _)) hpa).mono fun en w' ⟨hx, hr⟩ => ?_
                have hr' : en = .returned (.tuple #[.slice none 0 0, .bool false]) := hr
                subst hr'
                exact hn σ _ _ (hS.put dst (x := .tup [.val (.slice none 0 0), .sb false]) ⟨_, rfl, .cons rfl (.cons rfl .nil)⟩ hx)
          · cases h
        cases hI : I.contains id with
        | false => rw [hI] at h; exact viaSt h
        | true =>
          rw [hI] at h
          simp only [cond_true] at h
          split at h
          · rename_i fn hf
            split at h
            · rename_i body hb
              cases hnm : (fn.name == "runtime.NumGoroutine") with
              | true => rw [hnm] at h; cases h
              | false =>
                rw [hnm] at h
                simp only [cond_false] at h
                obtain ⟨o, F', M', hK, hg⟩ := hrec _ _ _ _ _ _ h
                have main : ∀ {v : AV}, o.toExit ≠ .normal ∨ True → (match o with | .exit _ => False | _ => True) → resultA P fn F' M' = some v → ∀ w0 : Base, w0.s0.length ≤ k0 → OpGoes P n0 w0 (.call c) dst F M (putA F dst v) M' := by
                  intro v _ ho hres w0 hk σ a w hS ty pos after gd next Q hn
                  have hfv := rep_ev hS.frame f
                  rw [ef] at hfv
                  have hf' : a.eval f = .func (.func id) #[] #[] := hfv
                  have hrun : (execOp a.eval ⟨dst, .call c, ty, pos, after, gd⟩).run P w = .ok (.enter id (c.args.map a.eval)) w := by
                    have : (execOp a.eval ⟨dst, .call c, ty, pos, after, gd⟩).run P w = (callFunc id (c.args.map a.eval)).run P w := by
                      simp only [execOp, Go.resolve, hcal, hf', Deferred.ofValue]
                      simp [invoke]
                    rw [this]; exact enter_of hf hnm hb
                  unfold Oper.wp
                  rw [hrun]
                  have hargs : (c.args.toList.map a.eval).toArray = c.args.map a.eval := by rw [← Array.toList_map, Array.toArray_toList]
                  rw [← hargs]
                  have ha : RepF σ (c.args.toList.map (evA F)) (c.args.toList.map a.eval) := repF_map hS.frame _
                  have fin : ∀ {σ' : List (Nat × Nat)} {a' : Act} {w' : World}, St σ' n0 ⟨w0.toWorld, σ⟩ F' M' a' w' →
                      a'.defers = [] ∧ ∃ u, (results fn a'.tmps).run P w' = .ok u w' ∧ next (a.put dst u) w' := by
                    intro σ' a' w' hs
                    obtain ⟨z, hz, hrz⟩ := results_sound (P := P) hs hres
                    obtain ⟨t, ht⟩ := hs.pre
                    refine ⟨hs.defers, z, hz, hn σ' _ _ ⟨by cases dst <;> exact hS.defers, rep_put ?_ dst hrz, hs.mem, hs.ext, hs.own, hS.pre.trans hs.pre⟩⟩
                    rw [← ht]; exact hS.frame.mono t
                  have hstart : RepF σ (c.args.toList.map (evA F) ++ List.replicate (fn.ntmps - c.args.toList.length) undefA) (c.args.toList.map a.eval ++ List.replicate (fn.ntmps - (c.args.toList.map a.eval).length) undef) := by
                    have h1 : ∀ (n : Nat), RepF σ (List.replicate n undefA) (List.replicate n undef) := by
                      intro n
                      induction n with
                      | zero => exact .nil
                      | succ n ih => exact .cons rfl ih
                    have h2 : ∀ {l l' : List AV} {us us' : List Value}, RepF σ l us → RepF σ l' us' → RepF σ (l ++ l') (us ++ us') := by
                      intro l l' us us' h h'
                      induction h with
                      | nil => exact h'
                      | cons h _ ih => exact .cons h ih
                    rw [List.length_map]
                    exact h2 ha (h1 _)
                  refine (calls_of_wp (R := fun e w' => ∃ u, e = .returned u ∧ next (a.put dst u) w') hf hb (hg ⟨w0.toWorld, σ⟩ (by rw [hS.mem.len]; exact Nat.le_refl _) σ _ w ⟨rfl, ?_, hS.mem, hS.ext, hS.own, List.prefix_refl _⟩ _ fun σ' a' w' hs => ?_)).mono fun e w' ⟨u, he, hu⟩ => by subst he; exact hu
                  · simpa using hstart
                  · obtain ⟨g1, u, g2, g3⟩ := fin hs
                    cases o with
                    | norm => exact ⟨g1, u, g2, u, rfl, g3⟩
                    | ret => exact ⟨g1, u, g2, u, rfl, g3⟩
                    | exit id => exact ho.elim
                cases o with
                | exit id => cases hK
                | norm =>
                  cases hres : resultA P fn F' M' with
                  | none => simp [hres] at hK
                  | some v => simp only [hres] at hK; exact ⟨_, _, hK, main (.inr trivial) trivial hres⟩
                | ret =>
                  cases hres : resultA P fn F' M' with
                  | none => simp [hres] at hK
                  | some v => simp only [hres] at hK; exact ⟨_, _, hK, main (.inr trivial) trivial hres⟩
            · cases h
          · cases h
      · cases h
    · exact viaSt h
  · exact viaSt h

/-- A region, in the text's order. -/
def regJ (P : Program) (E : List (Entry P)) (I : List FuncId) (N : List (EntryN P)) (n0 k0 : Nat) (rec : Nat → Code → List AV → List (List AC) → (Out → List AV → List (List AC) → Option R) → Option R) (ops : Array Oper) : List Oper → List AV → List (List AC) → (List AV → List (List AC) → Option R) → Option R
  | [], F, M, K => K F M
  | o :: rest, F, M, K =>
    match o.guard with
    | none => stJ P E I N n0 k0 rec o.op o.dst F M fun F M => regJ P E I N n0 k0 rec ops rest F M K
    | some (j, want) =>
      match (ops[j]?).bind (·.dst) with
      | none => none
      | some d =>
        match F[d]? with
        | some (.c (.sb b)) =>
          cond b
            (cond want (stJ P E I N n0 k0 rec o.op o.dst (F.set d (.c (.sb true))) M fun F M => regJ P E I N n0 k0 rec ops rest F M K)
              (regJ P E I N n0 k0 rec ops rest (putA (F.set d (.c (.sb true))) o.dst undefA) M K))
            (cond want (regJ P E I N n0 k0 rec ops rest (putA (F.set d (.c (.sb false))) o.dst undefA) M K)
              (stJ P E I N n0 k0 rec o.op o.dst (F.set d (.c (.sb false))) M fun F M => regJ P E I N n0 k0 rec ops rest F M K))
        | some (.c (.val (.tuple _))) => regJ P E I N n0 k0 rec ops rest (putA F o.dst undefA) M K
        | _ => none

theorem regJ_sound {P : Program} {E : List (Entry P)} {I : List FuncId} {N : List (EntryN P)} {n0 k0 : Nat} {rec : Nat → Code → List AV → List (List AC) → (Out → List AV → List (List AC) → Option R) → Option R} {ops : Array Oper}
    (hrec : ∀ (k : Nat) (c : Code) (F : List AV) (M : List (List AC)) (K : Out → List AV → List (List AC) → Option R) (r : R), rec k c F M K = some r → ∃ o F' M', K o F' M' = some r ∧ ∀ w0 : Base, w0.s0.length ≤ k → CodeGoes P n0 w0 c F M o F' M')
    {K : List AV → List (List AC) → Option R} {r : R} : ∀ (l : List Oper) {F : List AV} {M : List (List AC)},
    regJ P E I N n0 k0 rec ops l F M K = some r → ∃ F' M', K F' M' = some r ∧ ∀ w0 : Base, w0.s0.length ≤ k0 → ListGoes P n0 w0 ops l F M F' M'
  | [], F, M, h => ⟨F, M, h, fun _ _ _ _ _ hS _ hQ => hQ _ _ _ hS⟩
  | o :: rest, F, M, h => by
    have skip : ∀ {F1 : List AV}, (∀ (w0 : Base) σ a w, St σ n0 w0 F M a w → Region.wanted o (yielded ops a.tmps) = false ∧ St σ n0 w0 F1 M a w) → regJ P E I N n0 k0 rec ops rest (putA F1 o.dst undefA) M K = some r →
        ∃ F' M', K F' M' = some r ∧ ∀ w0 : Base, w0.s0.length ≤ k0 → ListGoes P n0 w0 ops (o :: rest) F M F' M' := by
      intro F1 hy h1
      obtain ⟨F', M', hK, hw⟩ := regJ_sound hrec rest h1
      refine ⟨F', M', hK, fun w0 hk σ a w hS Q hQ => ?_⟩
      obtain ⟨hn, hS1⟩ := hy w0 σ a w hS
      unfold wpList
      rw [if_neg (by rw [hn]; decide)]
      exact hw w0 hk σ _ _ (hS1.put o.dst (x := undefA) (v := undef) rfl (Ext.refl _)) Q hQ
    have go : ∀ {F1 : List AV}, (∀ (w0 : Base) σ a w, St σ n0 w0 F M a w → Region.wanted o (yielded ops a.tmps) = true ∧ St σ n0 w0 F1 M a w) → (stJ P E I N n0 k0 rec o.op o.dst F1 M fun F M => regJ P E I N n0 k0 rec ops rest F M K) = some r →
        ∃ F' M', K F' M' = some r ∧ ∀ w0 : Base, w0.s0.length ≤ k0 → ListGoes P n0 w0 ops (o :: rest) F M F' M' := by
      intro F1 hy h1
      obtain ⟨F2, M2, hK2, hop⟩ := stJ_sound hrec h1
      obtain ⟨F', M', hK, hrest⟩ := regJ_sound hrec rest hK2
      refine ⟨F', M', hK, fun w0 hk σ a w hS Q hQ => ?_⟩
      obtain ⟨hn, hS1⟩ := hy w0 σ a w hS
      unfold wpList
      rw [if_pos hn]
      exact .inl (hop w0 hk σ a w hS1 o.type o.pos o.after o.guard _ _ fun σ' a' w' hs => hrest w0 hk σ' a' w' hs Q hQ)
    simp only [regJ] at h
    split at h
    · rename_i hg
      exact go (fun w0 σ a w hS => ⟨by simp [Region.wanted, hg], hS⟩) h
    · rename_i j want hg
      split at h
      · cases h
      · rename_i d hd
        split at h
        · rename_i b hb
          have hy : ∀ (w0 : Base) σ a w, St σ n0 w0 F M a w → yielded ops a.tmps j = some b := fun w0 σ a w hS => (yielded_of hS hd).1 b hb
          cases b with
          | true =>
            cases want with
            | true => exact go (fun w0 σ a w hS => ⟨by simp [Region.wanted, hg, hy w0 σ a w hS], hS.know hb⟩) h
            | false => exact skip (fun w0 σ a w hS => ⟨by simp [Region.wanted, hg, hy w0 σ a w hS], hS.know hb⟩) h
          | false =>
            cases want with
            | true => exact skip (fun w0 σ a w hS => ⟨by simp [Region.wanted, hg, hy w0 σ a w hS], hS.know hb⟩) h
            | false => exact go (fun w0 σ a w hS => ⟨by simp [Region.wanted, hg, hy w0 σ a w hS], hS.know hb⟩) h
        · rename_i vs hb
          exact skip (fun w0 σ a w hS => ⟨by simp [Region.wanted, hg, (yielded_of hS hd).2 vs hb], hS⟩) h
        · cases h

/-- Code; n rounds deep at most; calls of the functions in I run in place. -/
def exJ (P : Program) (E : List (Entry P)) (I : List FuncId) (N : List (EntryN P)) (n0 : Nat) : Nat → Nat → Code → List AV → List (List AC) → (Out → List AV → List (List AC) → Option R) → Option R
  | 0, _, _, _, _, _ => none
  | n + 1, k0, c, F, M, K =>
    match c with
    | .skip => K .norm F M
    | .region _ ops draw => cond draw (cond (P.follows .mixedOrders && (stillOps ops.toList && (Region.lexB .any ops && memLexB .any ops))) (regA P E n0 ops ops.toList F M fun F M => K .norm F M) none)
        (regJ P E I N n0 k0 (fun k c F M K => exJ P E I N n0 n k c F M K) ops ops.toList F M fun F M => K .norm F M)
    | .seq x y => exJ P E I N n0 n k0 x F M fun o F M =>
      match o with
      | .norm => exJ P E I N n0 n k0 y F M K
      | .exit id => K (.exit id) F M
      | .ret => K .ret F M
    | .cond (.tmp t) x y =>
      match F[t]? with
      | some (.c (.sb b)) => cond b (exJ P E I N n0 n k0 x (F.set t (.c (.sb true))) M K) (exJ P E I N n0 n k0 y (F.set t (.c (.sb false))) M K)
      | _ => none
    | .block id x => exJ P E I N n0 n k0 x F M fun o F M =>
      match o with
      | .norm => K .norm F M
      | .exit i => cond (i == id) (K .norm F M) (K (.exit i) F M)
      | .ret => K .ret F M
    | .loop x => exJ P E I N n0 n k0 x F M fun o F M =>
      match o with
      | .norm => exJ P E I N n0 n k0 (.loop x) F M K
      | .exit id => K (.exit id) F M
      | .ret => K .ret F M
    | .exit id => K (.exit id) F M
    | .ret => K .ret F M
    | _ => none

theorem exJ_sound {P : Program} {E : List (Entry P)} {I : List FuncId} {N : List (EntryN P)} {n0 : Nat} : ∀ (n : Nat),
    (∀ (k0 : Nat) (c : Code) (F : List AV) (M : List (List AC)) (K : Out → List AV → List (List AC) → Option R) (r : R), exJ P E I N n0 n k0 c F M K = some r → ∃ o F' M', K o F' M' = some r ∧ ∀ w0 : Base, w0.s0.length ≤ k0 → CodeGoes P n0 w0 c F M o F' M') ∧
    (∀ (k0 : Nat) (x : Code) (F : List AV) (M : List (List AC)) (K : Out → List AV → List (List AC) → Option R) (r : R), exJ P E I N n0 n k0 (.loop x) F M K = some r → ∃ o F' M', K o F' M' = some r ∧ ∀ w0 : Base, w0.s0.length ≤ k0 → ∃ N, ∀ (σ : List (Nat × Nat)) (a : Act) (w : World), St σ n0 w0 F M a w →
      ∀ (Q : Exit → Act → World → Prop), (∀ σ' a' w', St σ' n0 w0 F' M' a' w' → Q o.toExit a' w') → Code.rounds P x Q N a w)
  | 0 => ⟨(fun _ _ _ _ _ _ h => by cases h), (fun _ _ _ _ _ _ h => by cases h)⟩
  | n + 1 => by
    obtain ⟨ih1, ih2⟩ := exJ_sound n
    have hloop : ∀ (k0 : Nat) (x : Code) (F : List AV) (M : List (List AC)) (K : Out → List AV → List (List AC) → Option R) (r : R), exJ P E I N n0 (n + 1) k0 (.loop x) F M K = some r → ∃ o F' M', K o F' M' = some r ∧ ∀ w0 : Base, w0.s0.length ≤ k0 → ∃ N, ∀ (σ : List (Nat × Nat)) (a : Act) (w : World), St σ n0 w0 F M a w →
      ∀ (Q : Exit → Act → World → Prop), (∀ σ' a' w', St σ' n0 w0 F' M' a' w' → Q o.toExit a' w') → Code.rounds P x Q N a w := by
      intro k0 x F M K r h
      simp only [exJ] at h
      obtain ⟨o, F1, M1, hK1, hx⟩ := ih1 k0 x F M _ r h
      cases o with
      | norm =>
        obtain ⟨o, F', M', hK, hN⟩ := ih2 k0 x F1 M1 K r hK1
        refine ⟨o, F', M', hK, fun w0 hk => ?_⟩
        obtain ⟨N, hN⟩ := hN w0 hk
        exact ⟨N + 1, fun σ a w hS Q hQ => hx w0 hk σ a w hS _ fun σ' a' w' hs => hN σ' a' w' hs Q hQ⟩
      | exit id => exact ⟨.exit id, F1, M1, hK1, fun w0 hk => ⟨1, fun σ a w hS Q hQ => hx w0 hk σ a w hS _ fun σ' a' w' hs => hQ σ' a' w' hs⟩⟩
      | ret => exact ⟨.ret, F1, M1, hK1, fun w0 hk => ⟨1, fun σ a w hS Q hQ => hx w0 hk σ a w hS _ fun σ' a' w' hs => hQ σ' a' w' hs⟩⟩
    refine ⟨fun k0 c F M K r h => ?_, hloop⟩
    cases c with
    | skip => exact ⟨.norm, F, M, h, fun w0 _ σ a w hS Q hQ => wp_skip (hQ σ a w hS)⟩
    | region id ops draw =>
      simp only [exJ] at h
      cases draw with
      | true =>
        cases hp : (P.follows .mixedOrders && (stillOps ops.toList && (Region.lexB .any ops && memLexB .any ops))) with
        | false => simp only [hp, cond_true, cond_false] at h; cases h
        | true =>
          simp only [hp, cond_true] at h
          simp only [Bool.and_eq_true] at hp
          obtain ⟨F', M', hK, hg⟩ := regM_all hp.1 hp.2.1 hp.2.2.1 hp.2.2.2 h
          exact ⟨.norm, F', M', hK, fun w0 _ => hg w0⟩
      | false =>
        simp only [cond_false] at h
        obtain ⟨F', M', hK, hl⟩ := regJ_sound (fun k c F M K r h => ih1 k c F M K r h) ops.toList h
        exact ⟨.norm, F', M', hK, fun w0 hk σ a w hS Q hQ => wp_region_list (hl w0 hk σ a w hS Q hQ)⟩
    | seq x y =>
      simp only [exJ] at h
      obtain ⟨o, F1, M1, hK1, hx⟩ := ih1 k0 x F M _ r h
      cases o with
      | norm =>
        obtain ⟨o, F', M', hK, hy⟩ := ih1 k0 y F1 M1 K r hK1
        exact ⟨o, F', M', hK, fun w0 hk σ a w hS Q hQ => wp_seq (hx w0 hk σ a w hS _ fun σ' a' w' hs => hy w0 hk σ' a' w' hs Q hQ)⟩
      | exit id => exact ⟨.exit id, F1, M1, hK1, fun w0 hk σ a w hS Q hQ => wp_seq (hx w0 hk σ a w hS _ fun σ' a' w' hs => hQ σ' a' w' hs)⟩
      | ret => exact ⟨.ret, F1, M1, hK1, fun w0 hk σ a w hS Q hQ => wp_seq (hx w0 hk σ a w hS _ fun σ' a' w' hs => hQ σ' a' w' hs)⟩
    | cond c x y =>
      cases c with
      | tmp t =>
        simp only [exJ] at h
        split at h
        · rename_i b hb
          have hev : ∀ (w0 : Base) σ a w, St σ n0 w0 F M a w → a.eval (.tmp t) = .bool b := by
            intro w0 σ a w hS
            obtain ⟨v, hv, hr⟩ := hS.frame.get? hb
            have hr' : v = .bool b := hr
            subst hr'
            have hv' : a.tmps[t]? = some (.bool b) := by simpa using hv
            simp [Act.eval, Array.getD_eq_getD_getElem?, hv']
          cases b with
          | true =>
            obtain ⟨o, F', M', hK, hx⟩ := ih1 k0 x _ M K r h
            exact ⟨o, F', M', hK, fun w0 hk σ a w hS Q hQ => wp_cond_true (hev w0 σ a w hS) (hx w0 hk σ a w (hS.know hb) Q hQ)⟩
          | false =>
            obtain ⟨o, F', M', hK, hx⟩ := ih1 k0 y _ M K r h
            exact ⟨o, F', M', hK, fun w0 hk σ a w hS Q hQ => wp_cond_false (hev w0 σ a w hS) (hx w0 hk σ a w (hS.know hb) Q hQ)⟩
        · cases h
      | const v => cases h
      | global g => cases h
      | func f => cases h
    | block id x =>
      simp only [exJ] at h
      obtain ⟨o, F1, M1, hK1, hx⟩ := ih1 k0 x F M _ r h
      cases o with
      | norm => exact ⟨.norm, F1, M1, hK1, fun w0 hk σ a w hS Q hQ => wp_block (hx w0 hk σ a w hS _ fun σ' a' w' hs => hQ σ' a' w' hs)⟩
      | exit i =>
        by_cases hi : i = id
        · subst hi
          simp only [beq_self_eq_true, cond_true] at hK1
          exact ⟨.norm, F1, M1, hK1, fun w0 hk σ a w hS Q hQ => wp_block (hx w0 hk σ a w hS _ fun σ' a' w' hs => by simp only [Out.toExit, Exit.inBlock, if_true]; exact hQ σ' a' w' hs)⟩
        · have hb : (i == id) = false := by simpa using hi
          simp only [hb, cond_false] at hK1
          exact ⟨.exit i, F1, M1, hK1, fun w0 hk σ a w hS Q hQ => wp_block (hx w0 hk σ a w hS _ fun σ' a' w' hs => by simp only [Out.toExit, Exit.inBlock, hi, if_false]; exact hQ σ' a' w' hs)⟩
      | ret => exact ⟨.ret, F1, M1, hK1, fun w0 hk σ a w hS Q hQ => wp_block (hx w0 hk σ a w hS _ fun σ' a' w' hs => hQ σ' a' w' hs)⟩
    | loop x =>
      obtain ⟨o, F', M', hK, hN⟩ := hloop k0 x F M K r h
      refine ⟨o, F', M', hK, fun w0 hk σ a w hS Q hQ => ?_⟩
      obtain ⟨N, hN⟩ := hN w0 hk
      exact wp_loop_rounds N (hN σ a w hS Q hQ)
    | exit id => exact ⟨.exit id, F, M, h, fun w0 _ σ a w hS Q hQ => wp_exit (hQ σ a w hS)⟩
    | ret => exact ⟨.ret, F, M, h, fun w0 _ σ a w hS Q hQ => wp_ret (hQ σ a w hS)⟩
    | _ => cases h

/-- A function's answer, with the calls of I run in place. -/
def runJ (P : Program) (E : List (Entry P)) (I : List FuncId) (N : List (EntryN P)) (fn : Func) (args : List AV) : Option AV :=
  match fn.body with
  | none => none
  | some c => exJ P E I N 0 4000 0 c (args ++ List.replicate (fn.ntmps - args.length) undefA) [] fun o F M =>
    match o with
    | .exit _ => none
    | _ => match resultA P fn F M with
      | some v => cond (plainA v) (some v) none
      | none => none

theorem runJ_sound {P : Program} {E : List (Entry P)} {I : List FuncId} {N : List (EntryN P)} {f : FuncId} {fn : Func} (hf : P.funcs[f]? = some fn) {args : List AV} {r : AV} (hp : args.all plainA = true) (h : runJ P E I N fn args = some r)
    {σ : List (Nat × Nat)} {vs : List Value} {w : World} (ha : RepF σ args vs) :
    Calls P f vs.toArray w fun e w' => ∃ v, e = .returned v ∧ Rep σ r v ∧ Ext w w' := by
  unfold runJ at h
  split at h
  · cases h
  · rename_i c hb
    obtain ⟨o, F', M', hK, hg⟩ := (exJ_sound 4000).1 0 c _ [] _ r h
    exact calls_of_goes' hf hb hK (fun w => hg ⟨w, []⟩ (Nat.le_refl _)) hp ha

end Go.Proofs.Ytlpahmefebgdlaa.Fx

