/- The executor, twelfth part: calls of functions that read what the world held when the run began. No condition. -/
import Derived.Test.YtlpahmefebgdlaaEu
namespace Go.Proofs.Ytlpahmefebgdlaa.Fx
open Go Go.RowKit

variable {R : Type}

/-- A function's answer, in worlds of which G holds. -/
structure EntryW (P : Program) (G : World → Prop) where
  f : FuncId
  fn : List AV → Option (Bool × AV)
  ok : ∀ args r, fn args = some (true, r) → ∀ σ vs w, G w → RepF σ args vs → Gives P f vs.toArray w fun v w' => Rep σ r v ∧ Ext w w'

def findW {P : Program} {G : World → Prop} : List (EntryW P G) → FuncId → Option (EntryW P G)
  | [], _ => none
  | e :: l, f => if e.f == f then some e else findW l f
theorem findW_f {P : Program} {G : World → Prop} {E : List (EntryW P G)} {f : FuncId} {e : EntryW P G} (h : findW E f = some e) : e.f = f := by
  induction E with
  | nil => cases h
  | cons a l ih =>
    simp only [findW] at h
    split at h
    · rename_i hf; cases h; simpa using hf
    · exact ih h

/-- An operation; calls of the functions in I are run in place. -/
def stK (P : Program) (E : List (Entry P)) (I : List FuncId) (N : List (EntryN P)) {G : World → Prop} (X : List (EntryW P G)) (n0 k0 : Nat) (rec : Nat → Code → List AV → List (List AC) → (Out → List AV → List (List AC) → Option R) → Option R) (op : Op) (dst : Option Tmp) (F : List AV) (M : List (List AC)) (K : List AV → List (List AC) → Option R) : Option R :=
  match op with
  | .buildSlice t len parts => match litA P F t len parts.toList with
    | some l => K (putA F dst (.c (.slc M.length len))) (M ++ [l])
    | none => none
  | .call c => match c.callee with
    | .builtin .append => match c.args.toList, c.argTypes.toList with
      | [s, x], [t, t'] => if t = t' then match appA P n0 k0 t (evA F s) (evA F x) F M with
          | some (r, F1, M1) => K (putA F1 dst r) M1
          | none => none
        else none
      | _, _ => none
    | .value f => match evA F f with
      | .c (.val (.func (.func id) ⟨[]⟩ ⟨[]⟩)) =>
        match findW X id with
        | some e => match e.fn (c.args.toList.map (evA F)) with
          | some (q, r) => cond q (K (putA F dst r) M) none
          | none => none
        | none => match findN N id with
        | some e => match e.fn (c.args.toList.map (evA F)) with
          | some (q, b, cells) => cond (q && ((c.args.toList.map (evA F)).all plainA && cells.all plainC)) (cond b (K (putA F dst (.tup [.slc M.length cells.length, .sb true])) (M ++ [cells])) (K (putA F dst (.tup [.val (.slice none 0 0), .sb false])) M)) none
          | none => none
        | none => cond (I.contains id) (match P.funcs[id]? with
          | some fn => match fn.body with
            | some body => cond (fn.name == "runtime.NumGoroutine") none (rec M.length body (c.args.toList.map (evA F) ++ List.replicate (fn.ntmps - c.args.toList.length) undefA) M fun o F' M' => match o with
                | .exit _ => none
                | _ => match resultA P fn F' M' with
                  | some v => K (putA F dst v) M'
                  | none => none)
            | none => none
          | none => none)
          (stA P E n0 (.call c) dst F M K)
      | _ => none
    | _ => stA P E n0 (.call c) dst F M K
  | op => stA P E n0 op dst F M K

theorem stK_sound {P : Program} {E : List (Entry P)} {I : List FuncId} {N : List (EntryN P)} {G : World → Prop} {X : List (EntryW P G)} {n0 k0 : Nat} {rec : Nat → Code → List AV → List (List AC) → (Out → List AV → List (List AC) → Option R) → Option R}
    (hmono : ∀ w w', G w → Ext w w' → G w') (hrec : ∀ (k : Nat) (c : Code) (F : List AV) (M : List (List AC)) (K : Out → List AV → List (List AC) → Option R) (r : R), rec k c F M K = some r → ∃ o F' M', K o F' M' = some r ∧ ∀ w0 : Base, G w0.toWorld → w0.s0.length ≤ k → CodeGoes P n0 w0 c F M o F' M')
    {op : Op} {dst : Option Tmp} {F : List AV} {M : List (List AC)} {K : List AV → List (List AC) → Option R} {r : R}
    (h : stK P E I N X n0 k0 rec op dst F M K = some r) : ∃ F' M', K F' M' = some r ∧ ∀ w0 : Base, G w0.toWorld → w0.s0.length ≤ k0 → OpGoes P n0 w0 op dst F M F' M' := by
  have viaSt : ∀ {op : Op}, stA P E n0 op dst F M K = some r → ∃ F' M', K F' M' = some r ∧ ∀ w0 : Base, G w0.toWorld → w0.s0.length ≤ k0 → OpGoes P n0 w0 op dst F M F' M' := by
    intro op h
    obtain ⟨F', M', hK, hg⟩ := stA_nat h
    exact ⟨F', M', hK, fun w0 _ _ => hg w0⟩
  unfold stK at h
  split at h
  · rename_i t len parts
    split at h
    · rename_i l hl
      exact ⟨_, _, h, fun w0 _ _ => litA_sound hl dst⟩
    · cases h
  · rename_i c
    split at h
    · rename_i hcal
      split at h
      · rename_i s x t t' hargs htys
        split at h
        · rename_i htt
          subst htt
          split at h
          · rename_i q F1 M1 happ
            refine ⟨_, _, h, fun w0 hG hk σ a w hS ty pos after gd next Q hn => ?_⟩
            obtain ⟨σ', v, w', hr, hs⟩ := app_sound (ty := ty) hk happ dst hS
            unfold Oper.wp
            have e1 : c.args.map a.eval = #[a.eval s, a.eval x] := by
              apply Array.ext'
              rw [Array.toList_map, hargs]; rfl
            have e2 : c.argTypes = #[t, t] := by
              apply Array.ext'
              rw [htys]
            have : (execOp a.eval ⟨dst, .call c, ty, pos, after, gd⟩).run P w = .ok (.value v) w' := by
              simp only [execOp, Go.resolve, hcal, e1, e2]
              simp [invoke, builtin, hr]
            rw [this]
            exact hn _ _ _ hs
          · cases h
        · cases h
      · cases h
    · rename_i f hcal
      split at h
      · rename_i id ef
        split at h
        · rename_i e hfind
          split at h
          · rename_i q r' hfn
            cases q with
            | false => cases h
            | true =>
              simp only [cond_true] at h
              have hid := findW_f hfind
              subst hid
              refine ⟨_, _, h, fun w0 hG hk σ a w hS ty pos after gd next Q hn => ?_⟩
              have hfv := rep_ev hS.frame f
              rw [ef] at hfv
              have hf' : a.eval f = .func (.func e.f) #[] #[] := hfv
              have hg := e.ok _ _ hfn σ (c.args.toList.map a.eval) w (hmono _ _ hG hS.ext) (repF_map hS.frame _)
              have hargs : (c.args.toList.map a.eval).toArray = c.args.map a.eval := by rw [← Array.toList_map, Array.toArray_toList]
              rw [hargs] at hg
              have hres : ∀ Y, (execOp a.eval ⟨dst, .call c, ty, pos, after, gd⟩).run P w = Y ↔ (callFunc e.f (c.args.map a.eval)).run P w = Y := by
                intro Y
                have : (execOp a.eval ⟨dst, .call c, ty, pos, after, gd⟩).run P w = (callFunc e.f (c.args.map a.eval)).run P w := by
                  simp only [execOp, Go.resolve, hcal, hf', Deferred.ofValue]
                  simp [invoke]
                rw [this]
              rcases hg with ⟨v, w', hr, hv, hw⟩ | ⟨hr, hcalls⟩
              · unfold Oper.wp
                rw [(hres _).2 hr]
                exact hn _ _ _ (hS.put dst hv hw)
              · unfold Oper.wp
                rw [(hres _).2 hr]
                exact hcalls.mono fun en w' ⟨v, he, hv, hw⟩ => by subst he; exact hn _ _ _ (hS.put dst hv hw)
          · cases h
        split at h
        · rename_i e hfind
          split at h
          · rename_i q b cells hfn
            cases hq : (q && ((c.args.toList.map (evA F)).all plainA && cells.all plainC)) with
            | false => rw [hq] at h; cases h
            | true =>
              rw [hq] at h
              simp only [cond_true] at h
              simp only [Bool.and_eq_true] at hq
              obtain ⟨rfl, hpa, hpc⟩ := hq
              have hid := findN_f hfind
              subst hid
              have enter : ∀ {a : Act} {w : World} {σ : List (Nat × Nat)} {w0 : Base}, St σ n0 w0 F M a w → ∀ (ty : TypeId) (pos : String) (after : Array Edge) (gd : Option (Nat × Bool)),
                  (execOp a.eval ⟨dst, .call c, ty, pos, after, gd⟩).run P w = .ok (.enter e.f (c.args.map a.eval)) w := by
                intro a w σ w0 hS ty pos after gd
                have hfv := rep_ev hS.frame f
                rw [ef] at hfv
                have hf' : a.eval f = .func (.func e.f) #[] #[] := hfv
                have : (execOp a.eval ⟨dst, .call c, ty, pos, after, gd⟩).run P w = (callFunc e.f (c.args.map a.eval)).run P w := by
                  simp only [execOp, Go.resolve, hcal, hf', Deferred.ofValue]
                  simp [invoke]
                rw [this]; exact e.enter _ _
              have hargs : ∀ (a : Act), (c.args.toList.map a.eval).toArray = c.args.map a.eval := fun a => by rw [← Array.toList_map, Array.toArray_toList]
              cases b with
              | true =>
                refine ⟨_, _, h, fun w0 hG hk σ a w hS ty pos after gd next Q hn => ?_⟩
                unfold Oper.wp
                rw [enter hS ty pos after gd, ← hargs a]
                refine (e.ok _ _ _ hfn _ w (plainF hpa (repF_map hS.frame _)) hpa).mono fun en w' ⟨hx, hr⟩ => ?_
                obtain ⟨blk, cap, us, t, rfl, h1, h2, h3, h4, h5⟩ := hr
                obtain ⟨kk, h3⟩ := h3
                have h3' : RepP (σ ++ [(blk, cap)]) cells us.toList := ⟨kk, plainL_rep (by simp [hpc]; right; rfl) h3⟩
                exact hn (σ ++ [(blk, cap)]) _ _ ⟨by cases dst <;> exact hS.defers, rep_put (hS.frame.mono _) dst ⟨_, rfl, .cons ⟨(blk, cap), by rw [← hS.mem.len, List.getElem?_append_right (Nat.le_refl _), Nat.sub_self]; rfl, h5, rfl⟩ (.cons rfl .nil)⟩,
                  hS.mem.pushAt hx h1 h2 h3' h4, hS.ext.trans hx, fun id b hid hb => (by
                    by_cases hi : id < σ.length
                    · rw [List.getElem?_append_left hi] at hb; exact hS.own id b hid hb
                    · have hid' : id = σ.length := by
                        have := (List.getElem?_eq_some_iff.1 hb).1
                        simp at this; omega
                      subst hid'
                      simp only [List.getElem?_append_right (Nat.le_refl _), Nat.sub_self, List.getElem?_cons_zero, Option.some.injEq] at hb
                      subst hb
                      exact Nat.le_trans hS.ext.size h1), hS.pre.trans (List.prefix_append _ _)⟩
              | false =>
                refine ⟨_, _, h, fun w0 hG hk σ a w hS ty pos after gd next Q hn => ?_⟩
                unfold Oper.wp
                rw [enter hS ty pos after gd, ← hargs a]
                refine (e.ok _ _ _ hfn _ w (plainF hpa (repF_map hS.frame _)) hpa).mono fun en w' ⟨hx, hr⟩ => ?_
                have hr' : en = .returned (.tuple #[.slice none 0 0, .bool false]) := hr
                subst hr'
                exact hn σ _ _ (hS.put dst (x := .tup [.val (.slice none 0 0), .sb false]) ⟨_, rfl, .cons rfl (.cons rfl .nil)⟩ hx)
          · cases h
        cases hI : I.contains id with
        | false => rw [hI] at h; exact viaSt h
        | true =>
          rw [hI] at h
          simp only [cond_true] at h
          split at h
          · rename_i fn hf
            split at h
            · rename_i body hb
              cases hnm : (fn.name == "runtime.NumGoroutine") with
              | true => rw [hnm] at h; cases h
              | false =>
                rw [hnm] at h
                simp only [cond_false] at h
                obtain ⟨o, F', M', hK, hg⟩ := hrec _ _ _ _ _ _ h
                have main : ∀ {v : AV}, o.toExit ≠ .normal ∨ True → (match o with | .exit _ => False | _ => True) → resultA P fn F' M' = some v → ∀ w0 : Base, G w0.toWorld → w0.s0.length ≤ k0 → OpGoes P n0 w0 (.call c) dst F M (putA F dst v) M' := by
                  intro v _ ho hres w0 hG hk σ a w hS ty pos after gd next Q hn
                  have hfv := rep_ev hS.frame f
                  rw [ef] at hfv
                  have hf' : a.eval f = .func (.func id) #[] #[] := hfv
                  have hrun : (execOp a.eval ⟨dst, .call c, ty, pos, after, gd⟩).run P w = .ok (.enter id (c.args.map a.eval)) w := by
                    have : (execOp a.eval ⟨dst, .call c, ty, pos, after, gd⟩).run P w = (callFunc id (c.args.map a.eval)).run P w := by
                      simp only [execOp, Go.resolve, hcal, hf', Deferred.ofValue]
                      simp [invoke]
                    rw [this]; exact enter_of hf hnm hb
                  unfold Oper.wp
                  rw [hrun]
                  have hargs : (c.args.toList.map a.eval).toArray = c.args.map a.eval := by rw [← Array.toList_map, Array.toArray_toList]
                  rw [← hargs]
                  have ha : RepF σ (c.args.toList.map (evA F)) (c.args.toList.map a.eval) := repF_map hS.frame _
                  have fin : ∀ {σ' : List (Nat × Nat)} {a' : Act} {w' : World}, St σ' n0 ⟨w0.toWorld, σ⟩ F' M' a' w' →
                      a'.defers = [] ∧ ∃ u, (results fn a'.tmps).run P w' = .ok u w' ∧ next (a.put dst u) w' := by
                    intro σ' a' w' hs
                    obtain ⟨z, hz, hrz⟩ := results_sound (P := P) hs hres
                    obtain ⟨t, ht⟩ := hs.pre
                    refine ⟨hs.defers, z, hz, hn σ' _ _ ⟨by cases dst <;> exact hS.defers, rep_put ?_ dst hrz, hs.mem, hs.ext, hs.own, hS.pre.trans hs.pre⟩⟩
                    rw [← ht]; exact hS.frame.mono t
                  have hstart : RepF σ (c.args.toList.map (evA F) ++ List.replicate (fn.ntmps - c.args.toList.length) undefA) (c.args.toList.map a.eval ++ List.replicate (fn.ntmps - (c.args.toList.map a.eval).length) undef) := by
                    have h1 : ∀ (n : Nat), RepF σ (List.replicate n undefA) (List.replicate n undef) := by
                      intro n
                      induction n with
                      | zero => exact .nil
                      | succ n ih => exact .cons rfl ih
                    have h2 : ∀ {l l' : List AV} {us us' : List Value}, RepF σ l us → RepF σ l' us' → RepF σ (l ++ l') (us ++ us') := by
                      intro l l' us us' h h'
                      induction h with
                      | nil => exact h'
                      | cons h _ ih => exact .cons h ih
                    rw [List.length_map]
                    exact h2 ha (h1 _)
                  refine (calls_of_wp (R := fun e w' => ∃ u, e = .returned u ∧ next (a.put dst u) w') hf hb (hg ⟨w0.toWorld, σ⟩ hG (by rw [hS.mem.len]; exact Nat.le_refl _) σ _ w ⟨rfl, ?_, hS.mem, hS.ext, hS.own, List.prefix_refl _⟩ _ fun σ' a' w' hs => ?_)).mono fun e w' ⟨u, he, hu⟩ => by subst he; exact hu
                  · simpa using hstart
                  · obtain ⟨g1, u, g2, g3⟩ := fin hs
                    cases o with
                    | norm => exact ⟨g1, u, g2, u, rfl, g3⟩
                    | ret => exact ⟨g1, u, g2, u, rfl, g3⟩
                    | exit id => exact ho.elim
                cases o with
                | exit id => cases hK
                | norm =>
                  cases hres : resultA P fn F' M' with
                  | none => simp [hres] at hK
                  | some v => simp only [hres] at hK; exact ⟨_, _, hK, main (.inr trivial) trivial hres⟩
                | ret =>
                  cases hres : resultA P fn F' M' with
                  | none => simp [hres] at hK
                  | some v => simp only [hres] at hK; exact ⟨_, _, hK, main (.inr trivial) trivial hres⟩
            · cases h
          · cases h
      · cases h
    · exact viaSt h
  · exact viaSt h

/-- A region, in the text's order. -/
def regK (P : Program) (E : List (Entry P)) (I : List FuncId) (N : List (EntryN P)) {G : World → Prop} (X : List (EntryW P G)) (n0 k0 : Nat) (rec : Nat → Code → List AV → List (List AC) → (Out → List AV → List (List AC) → Option R) → Option R) (ops : Array Oper) : List Oper → List AV → List (List AC) → (List AV → List (List AC) → Option R) → Option R
  | [], F, M, K => K F M
  | o :: rest, F, M, K =>
    match o.guard with
    | none => stK P E I N X n0 k0 rec o.op o.dst F M fun F M => regK P E I N X n0 k0 rec ops rest F M K
    | some (j, want) =>
      match (ops[j]?).bind (·.dst) with
      | none => none
      | some d =>
        match F[d]? with
        | some (.c (.sb b)) =>
          cond b
            (cond want (stK P E I N X n0 k0 rec o.op o.dst (F.set d (.c (.sb true))) M fun F M => regK P E I N X n0 k0 rec ops rest F M K)
              (regK P E I N X n0 k0 rec ops rest (putA (F.set d (.c (.sb true))) o.dst undefA) M K))
            (cond want (regK P E I N X n0 k0 rec ops rest (putA (F.set d (.c (.sb false))) o.dst undefA) M K)
              (stK P E I N X n0 k0 rec o.op o.dst (F.set d (.c (.sb false))) M fun F M => regK P E I N X n0 k0 rec ops rest F M K))
        | some (.c (.val (.tuple _))) => regK P E I N X n0 k0 rec ops rest (putA F o.dst undefA) M K
        | _ => none

theorem regK_sound {P : Program} {E : List (Entry P)} {I : List FuncId} {N : List (EntryN P)} {G : World → Prop} {X : List (EntryW P G)} {n0 k0 : Nat} {rec : Nat → Code → List AV → List (List AC) → (Out → List AV → List (List AC) → Option R) → Option R} {ops : Array Oper}
    (hmono : ∀ w w', G w → Ext w w' → G w') (hrec : ∀ (k : Nat) (c : Code) (F : List AV) (M : List (List AC)) (K : Out → List AV → List (List AC) → Option R) (r : R), rec k c F M K = some r → ∃ o F' M', K o F' M' = some r ∧ ∀ w0 : Base, G w0.toWorld → w0.s0.length ≤ k → CodeGoes P n0 w0 c F M o F' M')
    {K : List AV → List (List AC) → Option R} {r : R} : ∀ (l : List Oper) {F : List AV} {M : List (List AC)},
    regK P E I N X n0 k0 rec ops l F M K = some r → ∃ F' M', K F' M' = some r ∧ ∀ w0 : Base, G w0.toWorld → w0.s0.length ≤ k0 → ListGoes P n0 w0 ops l F M F' M'
  | [], F, M, h => ⟨F, M, h, fun _ _ _ _ _ _ hS _ hQ => hQ _ _ _ hS⟩
  | o :: rest, F, M, h => by
    have skip : ∀ {F1 : List AV}, (∀ (w0 : Base) σ a w, St σ n0 w0 F M a w → Region.wanted o (yielded ops a.tmps) = false ∧ St σ n0 w0 F1 M a w) → regK P E I N X n0 k0 rec ops rest (putA F1 o.dst undefA) M K = some r →
        ∃ F' M', K F' M' = some r ∧ ∀ w0 : Base, G w0.toWorld → w0.s0.length ≤ k0 → ListGoes P n0 w0 ops (o :: rest) F M F' M' := by
      intro F1 hy h1
      obtain ⟨F', M', hK, hw⟩ := regK_sound hmono hrec rest h1
      refine ⟨F', M', hK, fun w0 hG hk σ a w hS Q hQ => ?_⟩
      obtain ⟨hn, hS1⟩ := hy w0 σ a w hS
      unfold wpList
      rw [if_neg (by rw [hn]; decide)]
      exact hw w0 hG hk σ _ _ (hS1.put o.dst (x := undefA) (v := undef) rfl (Ext.refl _)) Q hQ
    have go : ∀ {F1 : List AV}, (∀ (w0 : Base) σ a w, St σ n0 w0 F M a w → Region.wanted o (yielded ops a.tmps) = true ∧ St σ n0 w0 F1 M a w) → (stK P E I N X n0 k0 rec o.op o.dst F1 M fun F M => regK P E I N X n0 k0 rec ops rest F M K) = some r →
        ∃ F' M', K F' M' = some r ∧ ∀ w0 : Base, G w0.toWorld → w0.s0.length ≤ k0 → ListGoes P n0 w0 ops (o :: rest) F M F' M' := by
      intro F1 hy h1
      obtain ⟨F2, M2, hK2, hop⟩ := stK_sound hmono hrec h1
      obtain ⟨F', M', hK, hrest⟩ := regK_sound hmono hrec rest hK2
      refine ⟨F', M', hK, fun w0 hG hk σ a w hS Q hQ => ?_⟩
      obtain ⟨hn, hS1⟩ := hy w0 σ a w hS
      unfold wpList
      rw [if_pos hn]
      exact .inl (hop w0 hG hk σ a w hS1 o.type o.pos o.after o.guard _ _ fun σ' a' w' hs => hrest w0 hG hk σ' a' w' hs Q hQ)
    simp only [regK] at h
    split at h
    · rename_i hg
      exact go (fun w0 σ a w hS => ⟨by simp [Region.wanted, hg], hS⟩) h
    · rename_i j want hg
      split at h
      · cases h
      · rename_i d hd
        split at h
        · rename_i b hb
          have hy : ∀ (w0 : Base) σ a w, St σ n0 w0 F M a w → yielded ops a.tmps j = some b := fun w0 σ a w hS => (yielded_of hS hd).1 b hb
          cases b with
          | true =>
            cases want with
            | true => exact go (fun w0 σ a w hS => ⟨by simp [Region.wanted, hg, hy w0 σ a w hS], hS.know hb⟩) h
            | false => exact skip (fun w0 σ a w hS => ⟨by simp [Region.wanted, hg, hy w0 σ a w hS], hS.know hb⟩) h
          | false =>
            cases want with
            | true => exact skip (fun w0 σ a w hS => ⟨by simp [Region.wanted, hg, hy w0 σ a w hS], hS.know hb⟩) h
            | false => exact go (fun w0 σ a w hS => ⟨by simp [Region.wanted, hg, hy w0 σ a w hS], hS.know hb⟩) h
        · rename_i vs hb
          exact skip (fun w0 σ a w hS => ⟨by simp [Region.wanted, hg, (yielded_of hS hd).2 vs hb], hS⟩) h
        · cases h

/-- A loop's run, told from the beginning of a round. -/
def wpIn (P : Program) (c : Code) (Q : Exit → Act → World → Prop) (a : Act) (w : World) : Prop :=
  ∀ (b : Frame) (k : List Item) (cs : List Frame), ∃ e a' w', Q e a' w' ∧ Arrives P (lone (b.at a (.code c :: .inLoop c :: k)) cs w) b k cs e a' w'
theorem wpIn.wp {P : Program} {c : Code} {Q : Exit → Act → World → Prop} {a : Act} {w : World} (h : wpIn P c Q a w) : (Code.loop c).wp P Q a w := by
  intro b k cs
  obtain ⟨e, a', w', hq, harr⟩ := h b k cs
  exact ⟨e, a', w', hq, .of_steps (.one step_loop) harr⟩
theorem wpIn_body {P : Program} {c : Code} {Q : Exit → Act → World → Prop} {a : Act} {w : World} (h : c.wp P (fun e a w => match e with | .normal => wpIn P c Q a w | e => Q e a w) a w) : wpIn P c Q a w := by
  intro b k cs
  obtain ⟨e, a1, w1, hq, harr⟩ := h b (.inLoop c :: k) cs
  cases e with
  | normal =>
    obtain ⟨e2, a2, w2, hq2, harr2⟩ := hq b k cs
    exact ⟨e2, a2, w2, hq2, .of_steps (Steps.trans harr (.one step_inLoop)) harr2⟩
  | exit id => exact ⟨_, a1, w1, hq, .pass (x := .inLoop c) rfl (fun _ _ => .inl (by simp)) harr⟩
  | goto l => exact ⟨_, a1, w1, hq, .pass (x := .inLoop c) rfl (fun _ _ => .inl (by simp)) harr⟩
  | ret => exact ⟨_, a1, w1, hq, .pass (x := .inLoop c) rfl (fun _ _ => .inl (by simp)) harr⟩
  | panic ch => exact ⟨_, a1, w1, hq, .pass (x := .inLoop c) rfl (fun _ _ => .inl (by simp)) harr⟩
  | outgrown => exact ⟨_, a1, w1, hq, .pass (x := .inLoop c) rfl (fun _ _ => .inl (by simp)) harr⟩
/-- From every state that fits, a loop leads to states that fit. -/
def InGoes (P : Program) (n0 : Nat) (w0 : Base) (x : Code) (F : List AV) (M : List (List AC)) (o : Out) (F' : List AV) (M' : List (List AC)) : Prop :=
  ∀ (σ : List (Nat × Nat)) (a : Act) (w : World), St σ n0 w0 F M a w → ∀ (Q : Exit → Act → World → Prop), (∀ σ' a' w', St σ' n0 w0 F' M' a' w' → Q o.toExit a' w') → wpIn P x Q a w
theorem InGoes.code {P : Program} {n0 : Nat} {w0 : Base} {x : Code} {F F' : List AV} {M M' : List (List AC)} {o : Out} (h : InGoes P n0 w0 x F M o F' M') : CodeGoes P n0 w0 (.loop x) F M o F' M' :=
  fun σ a w hS Q hQ => (h σ a w hS Q hQ).wp
theorem goes_round {P : Program} {n0 : Nat} {w0 : Base} {x : Code} {F F1 F' : List AV} {M M1 M' : List (List AC)} {o : Out} (h1 : CodeGoes P n0 w0 x F M .norm F1 M1) (h2 : InGoes P n0 w0 x F1 M1 o F' M') : InGoes P n0 w0 x F M o F' M' :=
  fun σ a w hS Q hQ => wpIn_body (h1 σ a w hS _ fun σ' a' w' hs => h2 σ' a' w' hs Q hQ)
theorem goes_last {P : Program} {n0 : Nat} {w0 : Base} {x : Code} {F F' : List AV} {M M' : List (List AC)} {o : Out} (ho : o ≠ .norm) (h1 : CodeGoes P n0 w0 x F M o F' M') : InGoes P n0 w0 x F M o F' M' :=
  fun σ a w hS Q hQ => wpIn_body (h1 σ a w hS _ fun σ' a' w' hs => by
    cases o with
    | norm => exact (ho rfl).elim
    | exit id => exact hQ _ _ _ hs
    | ret => exact hQ _ _ _ hs)

/-- A rule for loops: by the loop's number in the text, the frame and the memory; what is asked, the outcome. -/
abbrev LoopRule := Nat → List AV → List (List AC) → Option (Bool × Out × List AV × List (List AC))
/-- A number that no loop of a function bears. -/
def farOff : Nat := 1000000
def noRule : LoopRule := fun _ _ _ => none

def loopCount : Code → Nat
  | .seq x y => loopCount x + loopCount y
  | .cond _ x y => loopCount x + loopCount y
  | .block _ x => loopCount x
  | .loop x => loopCount x + 1
  | _ => 0
/-- The loops of a code in the text's order, an outer one ahead of those in it. -/
def loopsAll : Code → List Code
  | .seq x y => loopsAll x ++ loopsAll y
  | .cond _ x y => loopsAll x ++ loopsAll y
  | .block _ x => loopsAll x
  | .loop x => x :: loopsAll x
  | _ => []
theorem loopsAll_length : ∀ c, (loopsAll c).length = loopCount c
  | .seq x y => by simp [loopsAll, loopCount, loopsAll_length x, loopsAll_length y]
  | .cond _ x y => by simp [loopsAll, loopCount, loopsAll_length x, loopsAll_length y]
  | .block _ x => by simp [loopsAll, loopCount, loopsAll_length x]
  | .loop x => by simp [loopsAll, loopCount, loopsAll_length x]
  | .skip => rfl
  | .region .. => rfl
  | .rangeFunc .. => rfl
  | .exit .. => rfl
  | .ret => rfl
  | .scope .. => rfl
  | .label .. => rfl
  | .goto .. => rfl
  | .refuse .. => rfl
/-- The rules are right for the loops of a code whose first one bears the number i. -/
def LoopsOk (P : Program) (n0 : Nat) (G : World → Prop) (lp : LoopRule) (i : Nat) (c : Code) : Prop :=
  ∀ (j : Nat) (x : Code), (loopsAll c)[j]? = some x → ∀ F M o F' M', lp (i + j) F M = some (true, o, F', M') → ∀ w0 : Base, G w0.toWorld → InGoes P n0 w0 x F M o F' M'
theorem LoopsOk.left {P : Program} {n0 : Nat} {G : World → Prop} {lp : LoopRule} {i : Nat} {c x y : Code} (h : LoopsOk P n0 G lp i c) (hc : loopsAll c = loopsAll x ++ loopsAll y) : LoopsOk P n0 G lp i x := by
  intro j z hz
  exact h j z (by rw [hc, List.getElem?_append_left (List.getElem?_eq_some_iff.1 hz).1]; exact hz)
theorem LoopsOk.right {P : Program} {n0 : Nat} {G : World → Prop} {lp : LoopRule} {i : Nat} {c x y : Code} (h : LoopsOk P n0 G lp i c) (hc : loopsAll c = loopsAll x ++ loopsAll y) : LoopsOk P n0 G lp (i + loopCount x) y := by
  intro j z hz F M o F' M' hl
  refine h (loopCount x + j) z ?_ F M o F' M' (by rw [← Nat.add_assoc]; exact hl)
  rw [hc, List.getElem?_append_right (by rw [loopsAll_length]; omega), loopsAll_length, Nat.add_sub_cancel_left]
  exact hz
theorem LoopsOk.body {P : Program} {n0 : Nat} {G : World → Prop} {lp : LoopRule} {i : Nat} {x : Code} (h : LoopsOk P n0 G lp i (.loop x)) : LoopsOk P n0 G lp (i + 1) x := by
  intro j z hz F M o F' M' hl
  exact h (j + 1) z (by simpa [loopsAll] using hz) F M o F' M' (by rw [show i + (j + 1) = i + 1 + j by omega]; exact hl)
theorem loopsOk_far {P : Program} {n0 : Nat} {G : World → Prop} {lp : LoopRule} (hf : ∀ j, farOff ≤ j → ∀ F M, lp j F M = none) (c : Code) : LoopsOk P n0 G lp farOff c := by
  intro j z _ F M o F' M' hl
  rw [hf _ (Nat.le_add_right _ _)] at hl; cases hl
/-- What is asked of a region that draws its order. -/
def drawB (P : Program) (ops : Array Oper) : Bool := P.follows .mixedOrders && (stillOps ops.toList && (Region.lexB .any ops && memLexB .any ops))
/-- A code's regions that draw their order. -/
def drawnIn : Code → List (Nat × Array Oper)
  | .seq x y => drawnIn x ++ drawnIn y
  | .cond _ x y => drawnIn x ++ drawnIn y
  | .block _ x => drawnIn x
  | .loop x => drawnIn x
  | .region id ops true => [(id, ops)]
  | _ => []
/-- The regions in D have been looked at. -/
def DrawOk (P : Program) (D : List Nat) (i : Nat) (c : Code) : Prop := i < farOff → ∀ r ∈ drawnIn c, D.contains r.1 = true → drawB P r.2 = true
theorem DrawOk.sub {P : Program} {D : List Nat} {i j : Nat} {c x : Code} (h : DrawOk P D i c) (hi : i ≤ j) (hx : ∀ r ∈ drawnIn x, r ∈ drawnIn c) : DrawOk P D j x := fun hj r hr hd => h (Nat.lt_of_le_of_lt hi hj) r (hx r hr) hd
theorem drawOk_far {P : Program} {D : List Nat} (c : Code) : DrawOk P D farOff c := fun h => absurd h (Nat.lt_irrefl _)
theorem drawOk_nil {P : Program} (i : Nat) (c : Code) : DrawOk P [] i c := fun _ _ _ h => by cases h
theorem loopsOk_none {P : Program} {n0 : Nat} {G : World → Prop} (i : Nat) (c : Code) : LoopsOk P n0 G noRule i c := fun _ _ _ _ _ _ _ _ hl => by cases hl

/-- Code; n rounds deep at most; calls of the functions in I run in place. -/
def exK (P : Program) (E : List (Entry P)) (I : List FuncId) (N : List (EntryN P)) {G : World → Prop} (X : List (EntryW P G)) (n0 : Nat) (lp : LoopRule) (D : List Nat) : Nat → Nat → Nat → Code → List AV → List (List AC) → (Out → List AV → List (List AC) → Option R) → Option R
  | 0, _, _, _, _, _, _ => none
  | n + 1, i, k0, c, F, M, K =>
    match c with
    | .skip => K .norm F M
    | .region id ops draw => cond draw (cond (decide (i < farOff) && D.contains id) (regA P E n0 ops ops.toList F M fun F M => K .norm F M) (cond (P.follows .mixedOrders && (stillOps ops.toList && (Region.lexB .any ops && memLexB .any ops))) (regA P E n0 ops ops.toList F M fun F M => K .norm F M) none))
        (regK P E I N X n0 k0 (fun k c F M K => exK P E I N X n0 lp D n farOff k c F M K) ops ops.toList F M fun F M => K .norm F M)
    | .seq x y => exK P E I N X n0 lp D n i k0 x F M fun o F M =>
      match o with
      | .norm => exK P E I N X n0 lp D n (i + loopCount x) k0 y F M K
      | .exit id => K (.exit id) F M
      | .ret => K .ret F M
    | .cond (.tmp t) x y =>
      match F[t]? with
      | some (.c (.sb b)) => cond b (exK P E I N X n0 lp D n i k0 x (F.set t (.c (.sb true))) M K) (exK P E I N X n0 lp D n (i + loopCount x) k0 y (F.set t (.c (.sb false))) M K)
      | _ => none
    | .block id x => exK P E I N X n0 lp D n i k0 x F M fun o F M =>
      match o with
      | .norm => K .norm F M
      | .exit i => cond (i == id) (K .norm F M) (K (.exit i) F M)
      | .ret => K .ret F M
    | .loop x => match lp i F M with
      | some (q, o, F', M') => cond q (K o F' M') none
      | none => exK P E I N X n0 lp D n (i + 1) k0 x F M fun o F M =>
        match o with
        | .norm => exK P E I N X n0 lp D n i k0 (.loop x) F M K
        | .exit id => K (.exit id) F M
        | .ret => K .ret F M
    | .exit id => K (.exit id) F M
    | .ret => K .ret F M
    | _ => none

theorem exK_sound {P : Program} {E : List (Entry P)} {I : List FuncId} {N : List (EntryN P)} {G : World → Prop} {X : List (EntryW P G)} {n0 : Nat} {lp : LoopRule} {D : List Nat} (hfar : ∀ j, farOff ≤ j → ∀ F M, lp j F M = none) (hmono : ∀ w w', G w → Ext w w' → G w') : ∀ (n : Nat),
    (∀ (i k0 : Nat) (c : Code) (F : List AV) (M : List (List AC)) (K : Out → List AV → List (List AC) → Option R) (r : R), LoopsOk P n0 G lp i c → DrawOk P D i c → exK P E I N X n0 lp D n i k0 c F M K = some r → ∃ o F' M', K o F' M' = some r ∧ ∀ w0 : Base, G w0.toWorld → w0.s0.length ≤ k0 → CodeGoes P n0 w0 c F M o F' M') ∧
    (∀ (i k0 : Nat) (x : Code) (F : List AV) (M : List (List AC)) (K : Out → List AV → List (List AC) → Option R) (r : R), LoopsOk P n0 G lp i (.loop x) → DrawOk P D i x → exK P E I N X n0 lp D n i k0 (.loop x) F M K = some r → ∃ o F' M', K o F' M' = some r ∧ ∀ w0 : Base, G w0.toWorld → w0.s0.length ≤ k0 → InGoes P n0 w0 x F M o F' M')
  | 0 => ⟨(fun _ _ _ _ _ _ _ _ _ h => by cases h), (fun _ _ _ _ _ _ _ _ _ h => by cases h)⟩
  | n + 1 => by
    obtain ⟨ih1, ih2⟩ := exK_sound hfar hmono n
    have hloop : ∀ (i k0 : Nat) (x : Code) (F : List AV) (M : List (List AC)) (K : Out → List AV → List (List AC) → Option R) (r : R), LoopsOk P n0 G lp i (.loop x) → DrawOk P D i x → exK P E I N X n0 lp D (n + 1) i k0 (.loop x) F M K = some r → ∃ o F' M', K o F' M' = some r ∧ ∀ w0 : Base, G w0.toWorld → w0.s0.length ≤ k0 → InGoes P n0 w0 x F M o F' M' := by
      intro i k0 x F M K r hl hd h
      simp only [exK] at h
      split at h
      · rename_i q o F' M' hlp
        cases q with
        | false => cases h
        | true => exact ⟨o, F', M', h, fun w0 hG _ => hl 0 x rfl F M o F' M' hlp w0 hG⟩
      · obtain ⟨o, F1, M1, hK1, hx⟩ := ih1 (i + 1) k0 x F M _ r hl.body (hd.sub (Nat.le_succ _) fun _ h => h) h
        cases o with
        | norm =>
          obtain ⟨o, F', M', hK, hN⟩ := ih2 i k0 x F1 M1 K r hl hd hK1
          exact ⟨o, F', M', hK, fun w0 hG hk => goes_round (hx w0 hG hk) (hN w0 hG hk)⟩
        | exit id => exact ⟨.exit id, F1, M1, hK1, fun w0 hG hk => goes_last (fun h => by cases h) (hx w0 hG hk)⟩
        | ret => exact ⟨.ret, F1, M1, hK1, fun w0 hG hk => goes_last (fun h => by cases h) (hx w0 hG hk)⟩
    refine ⟨fun i k0 c F M K r hl hd h => ?_, hloop⟩
    cases c with
    | skip => exact ⟨.norm, F, M, h, fun w0 _ _ σ a w hS Q hQ => wp_skip (hQ σ a w hS)⟩
    | region id ops draw =>
      simp only [exK] at h
      cases draw with
      | true =>
        simp only [cond_true] at h
        have go : drawB P ops = true → regA P E n0 ops ops.toList F M (fun F M => K .norm F M) = some r → ∃ o F' M', K o F' M' = some r ∧ ∀ w0 : Base, G w0.toWorld → w0.s0.length ≤ k0 → CodeGoes P n0 w0 (.region id ops true) F M o F' M' := by
          intro hp h
          unfold drawB at hp
          simp only [Bool.and_eq_true] at hp
          obtain ⟨F', M', hK, hg⟩ := regM_all hp.1 hp.2.1 hp.2.2.1 hp.2.2.2 h
          exact ⟨.norm, F', M', hK, fun w0 _ _ => hg w0⟩
        cases hD : (decide (i < farOff) && D.contains id) with
        | true =>
          rw [hD] at h
          simp only [Bool.and_eq_true, decide_eq_true_eq] at hD
          exact go (hd hD.1 (id, ops) (List.mem_singleton.2 rfl) hD.2) h
        | false =>
          rw [hD] at h
          simp only [cond_false] at h
          cases hp : (P.follows .mixedOrders && (stillOps ops.toList && (Region.lexB .any ops && memLexB .any ops))) with
          | false => rw [hp] at h; cases h
          | true => rw [hp] at h; exact go hp h
      | false =>
        simp only [cond_false] at h
        obtain ⟨F', M', hK, hl⟩ := regK_sound hmono (fun k c F M K r h => ih1 farOff k c F M K r (loopsOk_far hfar c) (drawOk_far c) h) ops.toList h
        exact ⟨.norm, F', M', hK, fun w0 hG hk σ a w hS Q hQ => wp_region_list (hl w0 hG hk σ a w hS Q hQ)⟩
    | seq x y =>
      simp only [exK] at h
      obtain ⟨o, F1, M1, hK1, hx⟩ := ih1 i k0 x F M _ r (hl.left rfl) (hd.sub (Nat.le_refl _) fun _ h => List.mem_append_left _ h) h
      cases o with
      | norm =>
        obtain ⟨o, F', M', hK, hy⟩ := ih1 (i + loopCount x) k0 y F1 M1 K r (hl.right rfl) (hd.sub (Nat.le_add_right _ _) fun _ h => List.mem_append_right _ h) hK1
        exact ⟨o, F', M', hK, fun w0 hG hk σ a w hS Q hQ => wp_seq (hx w0 hG hk σ a w hS _ fun σ' a' w' hs => hy w0 hG hk σ' a' w' hs Q hQ)⟩
      | exit id => exact ⟨.exit id, F1, M1, hK1, fun w0 hG hk σ a w hS Q hQ => wp_seq (hx w0 hG hk σ a w hS _ fun σ' a' w' hs => hQ σ' a' w' hs)⟩
      | ret => exact ⟨.ret, F1, M1, hK1, fun w0 hG hk σ a w hS Q hQ => wp_seq (hx w0 hG hk σ a w hS _ fun σ' a' w' hs => hQ σ' a' w' hs)⟩
    | cond c x y =>
      cases c with
      | tmp t =>
        simp only [exK] at h
        split at h
        · rename_i b hb
          have hev : ∀ (w0 : Base) σ a w, St σ n0 w0 F M a w → a.eval (.tmp t) = .bool b := by
            intro w0 σ a w hS
            obtain ⟨v, hv, hr⟩ := hS.frame.get? hb
            have hr' : v = .bool b := hr
            subst hr'
            have hv' : a.tmps[t]? = some (.bool b) := by simpa using hv
            simp [Act.eval, Array.getD_eq_getD_getElem?, hv']
          cases b with
          | true =>
            obtain ⟨o, F', M', hK, hx⟩ := ih1 i k0 x _ M K r (hl.left rfl) (hd.sub (Nat.le_refl _) fun _ h => List.mem_append_left _ h) h
            exact ⟨o, F', M', hK, fun w0 hG hk σ a w hS Q hQ => wp_cond_true (hev w0 σ a w hS) (hx w0 hG hk σ a w (hS.know hb) Q hQ)⟩
          | false =>
            obtain ⟨o, F', M', hK, hx⟩ := ih1 (i + loopCount x) k0 y _ M K r (hl.right rfl) (hd.sub (Nat.le_add_right _ _) fun _ h => List.mem_append_right _ h) h
            exact ⟨o, F', M', hK, fun w0 hG hk σ a w hS Q hQ => wp_cond_false (hev w0 σ a w hS) (hx w0 hG hk σ a w (hS.know hb) Q hQ)⟩
        · cases h
      | const v => cases h
      | global g => cases h
      | func f => cases h
    | block id x =>
      simp only [exK] at h
      obtain ⟨o, F1, M1, hK1, hx⟩ := ih1 i k0 x F M _ r hl hd h
      cases o with
      | norm => exact ⟨.norm, F1, M1, hK1, fun w0 hG hk σ a w hS Q hQ => wp_block (hx w0 hG hk σ a w hS _ fun σ' a' w' hs => hQ σ' a' w' hs)⟩
      | exit i =>
        by_cases hi : i = id
        · subst hi
          simp only [beq_self_eq_true, cond_true] at hK1
          exact ⟨.norm, F1, M1, hK1, fun w0 hG hk σ a w hS Q hQ => wp_block (hx w0 hG hk σ a w hS _ fun σ' a' w' hs => by simp only [Out.toExit, Exit.inBlock, if_true]; exact hQ σ' a' w' hs)⟩
        · have hb : (i == id) = false := by simpa using hi
          simp only [hb, cond_false] at hK1
          exact ⟨.exit i, F1, M1, hK1, fun w0 hG hk σ a w hS Q hQ => wp_block (hx w0 hG hk σ a w hS _ fun σ' a' w' hs => by simp only [Out.toExit, Exit.inBlock, hi, if_false]; exact hQ σ' a' w' hs)⟩
      | ret => exact ⟨.ret, F1, M1, hK1, fun w0 hG hk σ a w hS Q hQ => wp_block (hx w0 hG hk σ a w hS _ fun σ' a' w' hs => hQ σ' a' w' hs)⟩
    | loop x =>
      obtain ⟨o, F', M', hK, hN⟩ := hloop i k0 x F M K r hl hd h
      exact ⟨o, F', M', hK, fun w0 hG hk => (hN w0 hG hk).code⟩
    | exit id => exact ⟨.exit id, F, M, h, fun w0 _ _ σ a w hS Q hQ => wp_exit (hQ σ a w hS)⟩
    | ret => exact ⟨.ret, F, M, h, fun w0 _ _ σ a w hS Q hQ => wp_ret (hQ σ a w hS)⟩
    | _ => cases h

theorem calls_of_goesG {w : World} {P : Program} {f : FuncId} {fn : Func} {c : Code} (hf : P.funcs[f]? = some fn) (hb : fn.body = some c) {args : List AV} {r : AV} {o : Out} {F' : List AV} {M' : List (List AC)} (hK : (match o with
      | .exit _ => none
      | _ => match resultA P fn F' M' with
        | some v => cond (plainA v) (some v) none
        | none => none) = some r) (h : CodeGoes P 0 ⟨w, []⟩ c (args ++ List.replicate (fn.ntmps - args.length) undefA) [] o F' M')
    (hp : args.all plainA = true) {σ : List (Nat × Nat)} {vs : List Value} (ha0 : RepF σ args vs) : Calls P f vs.toArray w fun e w' => ∃ v, e = .returned v ∧ Rep σ r v ∧ Ext w w' := by
  have ha : RepF [] args vs := plainF hp ha0
  have fin : ∀ (hK' : (match resultA P fn F' M' with | some v => cond (plainA v) (some v) none | none => none) = some r) {σ' : List (Nat × Nat)} {a' : Act} {w' : World} (hs : St σ' 0 ⟨w, []⟩ F' M' a' w'),
      a'.defers = [] ∧ ∃ v, (results fn a'.tmps).run P w' = .ok v w' ∧ ∃ u, (Ending.returned v) = .returned u ∧ Rep σ r u ∧ Ext w w' := by
    intro hK' σ' a' w' hs
    cases hr : resultA P fn F' M' with
    | none => simp [hr] at hK'
    | some v =>
      simp only [hr] at hK'
      cases hp : plainA v with
      | false => simp [hp] at hK'
      | true =>
        simp only [hp, cond_true, Option.some.injEq] at hK'
        subst hK'
        obtain ⟨z, hz, hrz⟩ := results_sound (P := P) hs hr
        exact ⟨hs.defers, z, hz, z, rfl, plain_rep hp hrz, hs.ext⟩
  refine calls_of_wp hf hb (h [] _ w ⟨rfl, ?_, MemOk.nil w, Ext.refl _, fun id b hid hbb => (by cases hbb), List.prefix_refl _⟩ _ fun σ' a' w' hs => ?_)
  · have hlen := ha.length
    have h1 : ∀ (n : Nat), RepF [] (List.replicate n undefA) (List.replicate n undef) := by
      intro n
      induction n with
      | zero => exact .nil
      | succ n ih => exact .cons rfl ih
    have h2 : ∀ {l l' : List AV} {us us' : List Value}, RepF [] l us → RepF [] l' us' → RepF [] (l ++ l') (us ++ us') := by
      intro l l' us us' h h'
      induction h with
      | nil => exact h'
      | cons h _ ih => exact .cons h ih
    simpa [hlen] using h2 ha (h1 (fn.ntmps - vs.length))
  · cases o with
    | norm => exact fin hK hs
    | ret => exact fin hK hs
    | exit id => cases hK

/-- A function's answer, with the calls of I run in place. -/
def runK (P : Program) (E : List (Entry P)) (I : List FuncId) (N : List (EntryN P)) {G : World → Prop} (X : List (EntryW P G)) (lp : LoopRule) (D : List Nat) (fn : Func) (args : List AV) : Option AV :=
  match fn.body with
  | none => none
  | some c => exK P E I N X 0 lp D 4000 0 0 c (args ++ List.replicate (fn.ntmps - args.length) undefA) [] fun o F M =>
    match o with
    | .exit _ => none
    | _ => match resultA P fn F M with
      | some v => cond (plainA v) (some v) none
      | none => none

theorem runK_sound {P : Program} {lp : LoopRule} {D : List Nat} {E : List (Entry P)} {I : List FuncId} {N : List (EntryN P)} {G : World → Prop} {X : List (EntryW P G)} {f : FuncId} {fn : Func} (hf : P.funcs[f]? = some fn) {args : List AV} {r : AV} (hp : args.all plainA = true) (h : runK P E I N X lp D fn args = some r)
    {σ : List (Nat × Nat)} {vs : List Value} {w : World} (hfar : ∀ j, farOff ≤ j → ∀ F M, lp j F M = none) (hl : LoopsOk P 0 G lp 0 (fn.body.getD .skip)) (hd : DrawOk P D 0 (fn.body.getD .skip)) (hmono : ∀ w w', G w → Ext w w' → G w') (hG : G w) (ha : RepF σ args vs) :
    Calls P f vs.toArray w fun e w' => ∃ v, e = .returned v ∧ Rep σ r v ∧ Ext w w' := by
  unfold runK at h
  split at h
  · cases h
  · rename_i c hb
    obtain ⟨o, F', M', hK, hg⟩ := (exK_sound hfar hmono 4000).1 0 0 c _ [] _ r (by rw [hb] at hl; exact hl) (by rw [hb] at hd; exact hd) h
    exact calls_of_goesG hf hb hK (hg ⟨w, []⟩ hG (Nat.le_refl _)) hp ha

end Go.Proofs.Ytlpahmefebgdlaa.Fx

