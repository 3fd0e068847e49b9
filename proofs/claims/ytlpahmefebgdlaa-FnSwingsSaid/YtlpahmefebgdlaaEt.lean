/- The executor, tenth part: code whose calls are run in place. No condition. -/
import Derived.Test.YtlpahmefebgdlaaEs
import Derived.Test.YtlpahmefebgdlaaCl
namespace Go.Proofs.Ytlpahmefebgdlaa.Fx
open Go Go.RowKit

variable {R : Type}

/-- What is done with the end does not matter. -/
theorem stA_nat {P : Program} {E : List (Entry P)} {n0 : Nat} {op : Op} {dst : Option Tmp} {F : List AV} {M : List (List AC)} {K : List AV → List (List AC) → Option R} {r : R} (h : stA P E n0 op dst F M K = some r) :
    ∃ F' M', K F' M' = some r ∧ ∀ w0 : Base, OpGoes P n0 w0 op dst F M F' M' := by
  have key : ∃ F' M', K F' M' = some r ∧ stA P E n0 op dst F M (fun F M => some (F, M)) = some (F', M') := by
    have viaOp : (match opA P E F M op with
      | some (ok, v) => cond ok (K (putA F dst v) M) none
      | none => none) = some r → ∃ F' M', K F' M' = some r ∧ (match opA P E F M op with
      | some (ok, v) => cond ok (some (putA F dst v, M)) none
      | none => none) = some (F', M') := by
      intro h
      split at h
      · rename_i ok v ho
        cases ok with
        | false => cases h
        | true => exact ⟨_, _, h, rfl⟩
      · cases h
    unfold stA at h ⊢
    split at h
    · split at h
      · rename_i b eb
        cases b with
        | true => exact ⟨_, _, h, rfl⟩
        | false => exact ⟨_, _, h, rfl⟩
      · cases h
    · split at h
      · rename_i l hl; exact ⟨_, _, h, rfl⟩
      · cases h
    · split at h
      · rename_i z hz; exact ⟨_, _, h, rfl⟩
      · cases h
    · split at h
      · rename_i id off l i ex hl hi
        split at h
        · rename_i cs hcs
          split at h
          · rename_i hc; exact ⟨_, _, h, by rw [if_pos hc]⟩
          · cases h
        · cases h
      · cases h
    · split at h
      · rename_i e hu
        split at h
        · rename_i ie l hie hl
          split at h
          · rename_i hc; exact ⟨_, _, h, by rw [if_pos hc]⟩
          · cases h
        · cases h
      · cases h
    · exact viaOp h
  obtain ⟨F', M', hK, hs⟩ := key
  refine ⟨F', M', hK, fun w0 => ?_⟩
  obtain ⟨F1, M1, h1, hg⟩ := stA_sound w0 hs
  cases h1
  exact hg

/-- A slice literal of any cells. -/
def litA (P : Program) (F : List AV) (t : TypeId) (len : Nat) (parts : List (Nat × Operand)) : Option (List AC) :=
  match P.underlying t with
  | some (.slice e) => match P.info? e with
    | some ie => match ie.zero with
      | some z =>
        cond (len == 0 && parts.isEmpty) (some []) (match partsA F parts with
          | some ps => match fillA (fun i => some (i * ie.size, ie.size)) (((Array.range (len * ie.size)).map (z.cells[· % z.cells.size]!)).toList.map toC) ps with
            | some l => if 0 < len ∧ len ≤ 1000 ∧ 0 < ie.size ∧ ie.size ≤ 100 then some l else none
            | none => none
          | none => none)
      | none => none
    | none => none
  | _ => none

theorem litA_sound {P : Program} {n0 : Nat} {w0 : Base} {F : List AV} {M : List (List AC)} {t : TypeId} {len : Nat} {parts : Array (Nat × Operand)} {l : List AC} (h : litA P F t len parts.toList = some l) (dst : Option Tmp) :
    OpGoes P n0 w0 (.buildSlice t len parts) dst F M (putA F dst (.c (.slc M.length len))) (M ++ [l]) := by
  unfold litA at h
  split at h
  · rename_i e hu
    split at h
    · rename_i ie hie
      split at h
      · rename_i z hz
        cases h0 : (len == 0 && parts.toList.isEmpty) with
        | true =>
          rw [h0] at h
          simp only [cond_true, Option.some.injEq] at h
          subst h
          rw [Bool.and_eq_true] at h0
          obtain ⟨hl0, hp0⟩ := h0
          have hl0' : len = 0 := by simpa using hl0
          subst hl0'
          have hp0' : parts = #[] := by cases parts; simp_all
          subst hp0'
          intro σ a w hS
          have hrun : (Instr.buildSlice t 0 (Array.map (fun (x : Nat × Operand) => (x.1, a.eval x.2)) #[])).run P w = .ok (.slice (some ⟨w.heap.size, 0, none⟩) 0 0) (w.alloc (.cells #[] e)) := by
            simp [Instr.buildSlice, run_underlying hu, sizeOf, typeInfo, hie, Instr.fill, newRow]
            have e0 : Array.range 0 = #[] := by apply Array.ext'; simp
            rw [e0, Array.map_empty]
          exact goes_val (v := .slice (some ⟨w.heap.size, 0, none⟩) 0 0) (w' := w.alloc (.cells #[] e)) (fun ty pos after gd => run_v hrun)
            (hS.push (vs := #[]) (c := 0) .nil (Nat.le_refl _) dst ⟨(w.heap.size, 0), new_id hS.mem, Nat.le_refl _, rfl⟩)
        | false =>
          rw [h0] at h
          simp only [cond_false] at h
          split at h
          · rename_i ps hps
            split at h
            · rename_i l' hl'
              split at h
              · rename_i hc
                obtain ⟨c1, c2, c3, c4⟩ := hc
                cases h
                intro σ a w hS
                obtain ⟨g1, g2⟩ := partsA_sound hS.frame _ _ hps
                obtain ⟨zs, hf, hr⟩ := fillA_sound (σ := σ) _ ps _ _ ((Array.range (len * ie.size)).map (z.cells[· % z.cells.size]!)) _ g1 g2 (rep_map_toC σ _) hl'
                have hsz : zs.size = len * ie.size := by
                  have h1 := hr.length
                  have h2 : ∀ (ps : List (Nat × List AC)) (cs r : List AC), fillA (fun i => some (i * ie.size, ie.size)) cs ps = some r → r.length = cs.length := by
                    intro ps
                    induction ps with
                    | nil => intro cs r h; cases h; rfl
                    | cons p ps ih =>
                      intro cs r h
                      obtain ⟨i, l⟩ := p
                      simp only [fillA] at h
                      split at h
                      · cases h
                      · rw [ih _ _ h]
                        unfold setAt
                        have : ∀ (l : List (AC × Nat)) (cs : List AC), (l.foldl (fun cs x => cs.set (i * ie.size + x.2) x.1) cs).length = cs.length := by
                          intro l
                          induction l with
                          | nil => intro cs; rfl
                          | cons x l ih => intro cs; rw [List.foldl_cons, ih, List.length_set]
                        exact this _ _
                  have h3 := h2 _ _ _ hl'
                  simp at h3
                  simp at h1
                  omega
                have hpos : 1 ≤ len * ie.size := Nat.mul_pos c1 c3
                have hbig : len * ie.size ≤ 1000 * 100 := Nat.mul_le_mul c2 c4
                have hle : len ≤ len * ie.size := Nat.le_mul_of_pos_right _ c3
                have hrun := run_buildSlice (P := P) w t e len (parts.map fun (i, x) => (i, a.eval x)) zs ie z hu hie hz (by omega) (by omega) (by
                  rw [Array.toList_map]; exact hf)
                exact goes_val (v := .slice (some ⟨w.heap.size, 0, none⟩) len len) (w' := w.alloc (.cells zs e)) (fun ty pos after gd => run_v hrun)
                  (hS.push (vs := zs) (c := len) hr (by omega) dst ⟨(w.heap.size, len), new_id hS.mem, Nat.le_refl _, rfl⟩)
              · cases h
            · cases h
          · cases h
      · cases h
    · cases h
  · cases h

/-- An operation; calls of the functions in I are run in place. -/
def stI (P : Program) (E : List (Entry P)) (I : List FuncId) (n0 k0 : Nat) (rec : Nat → Code → List AV → List (List AC) → (Out → List AV → List (List AC) → Option R) → Option R) (op : Op) (dst : Option Tmp) (F : List AV) (M : List (List AC)) (K : List AV → List (List AC) → Option R) : Option R :=
  match op with
  | .buildSlice t len parts => match litA P F t len parts.toList with
    | some l => K (putA F dst (.c (.slc M.length len))) (M ++ [l])
    | none => none
  | .call c => match c.callee with
    | .builtin .append => match c.args.toList, c.argTypes.toList with
      | [s, x], [t, t'] => if t = t' then match appA P n0 k0 t (evA F s) (evA F x) F M with
          | some (r, F1, M1) => K (putA F1 dst r) M1
          | none => none
        else none
      | _, _ => none
    | .value f => match evA F f with
      | .c (.val (.func (.func id) ⟨[]⟩ ⟨[]⟩)) =>
        cond (I.contains id) (match P.funcs[id]? with
          | some fn => match fn.body with
            | some body => cond (fn.name == "runtime.NumGoroutine") none (rec M.length body (c.args.toList.map (evA F) ++ List.replicate (fn.ntmps - c.args.toList.length) undefA) M fun o F' M' => match o with
                | .exit _ => none
                | _ => match resultA P fn F' M' with
                  | some v => K (putA F dst v) M'
                  | none => none)
            | none => none
          | none => none)
          (stA P E n0 (.call c) dst F M K)
      | _ => none
    | _ => stA P E n0 (.call c) dst F M K
  | op => stA P E n0 op dst F M K

theorem stI_sound {P : Program} {E : List (Entry P)} {I : List FuncId} {n0 k0 : Nat} {rec : Nat → Code → List AV → List (List AC) → (Out → List AV → List (List AC) → Option R) → Option R}
    (hrec : ∀ (k : Nat) (c : Code) (F : List AV) (M : List (List AC)) (K : Out → List AV → List (List AC) → Option R) (r : R), rec k c F M K = some r → ∃ o F' M', K o F' M' = some r ∧ ∀ w0 : Base, w0.s0.length ≤ k → CodeGoes P n0 w0 c F M o F' M')
    {op : Op} {dst : Option Tmp} {F : List AV} {M : List (List AC)} {K : List AV → List (List AC) → Option R} {r : R}
    (h : stI P E I n0 k0 rec op dst F M K = some r) : ∃ F' M', K F' M' = some r ∧ ∀ w0 : Base, w0.s0.length ≤ k0 → OpGoes P n0 w0 op dst F M F' M' := by
  have viaSt : ∀ {op : Op}, stA P E n0 op dst F M K = some r → ∃ F' M', K F' M' = some r ∧ ∀ w0 : Base, w0.s0.length ≤ k0 → OpGoes P n0 w0 op dst F M F' M' := by
    intro op h
    obtain ⟨F', M', hK, hg⟩ := stA_nat h
    exact ⟨F', M', hK, fun w0 _ => hg w0⟩
  unfold stI at h
  split at h
  · rename_i t len parts
    split at h
    · rename_i l hl
      exact ⟨_, _, h, fun w0 _ => litA_sound hl dst⟩
    · cases h
  · rename_i c
    split at h
    · rename_i hcal
      split at h
      · rename_i s x t t' hargs htys
        split at h
        · rename_i htt
          subst htt
          split at h
          · rename_i q F1 M1 happ
            refine ⟨_, _, h, fun w0 hk σ a w hS ty pos after gd next Q hn => ?_⟩
            obtain ⟨σ', v, w', hr, hs⟩ := app_sound (ty := ty) hk happ dst hS
            unfold Oper.wp
            have e1 : c.args.map a.eval = #[a.eval s, a.eval x] := by
              apply Array.ext'
              rw [Array.toList_map, hargs]; rfl
            have e2 : c.argTypes = #[t, t] := by
              apply Array.ext'
              rw [htys]
            have : (execOp a.eval ⟨dst, .call c, ty, pos, after, gd⟩).run P w = .ok (.value v) w' := by
              simp only [execOp, Go.resolve, hcal, e1, e2]
              simp [invoke, builtin, hr]
            rw [this]
            exact hn _ _ _ hs
          · cases h
        · cases h
      · cases h
    · rename_i f hcal
      split at h
      · rename_i id ef
        cases hI : I.contains id with
        | false => rw [hI] at h; exact viaSt h
        | true =>
          rw [hI] at h
          simp only [cond_true] at h
          split at h
          · rename_i fn hf
            split at h
            · rename_i body hb
              cases hnm : (fn.name == "runtime.NumGoroutine") with
              | true => rw [hnm] at h; cases h
              | false =>
                rw [hnm] at h
                simp only [cond_false] at h
                obtain ⟨o, F', M', hK, hg⟩ := hrec _ _ _ _ _ _ h
                have main : ∀ {v : AV}, o.toExit ≠ .normal ∨ True → (match o with | .exit _ => False | _ => True) → resultA P fn F' M' = some v → ∀ w0 : Base, w0.s0.length ≤ k0 → OpGoes P n0 w0 (.call c) dst F M (putA F dst v) M' := by
                  intro v _ ho hres w0 hk σ a w hS ty pos after gd next Q hn
                  have hfv := rep_ev hS.frame f
                  rw [ef] at hfv
                  have hf' : a.eval f = .func (.func id) #[] #[] := hfv
                  have hrun : (execOp a.eval ⟨dst, .call c, ty, pos, after, gd⟩).run P w = .ok (.enter id (c.args.map a.eval)) w := by
                    have : (execOp a.eval ⟨dst, .call c, ty, pos, after, gd⟩).run P w = (callFunc id (c.args.map a.eval)).run P w := by
                      simp only [execOp, Go.resolve, hcal, hf', Deferred.ofValue]
                      simp [invoke]
                    rw [this]; exact enter_of hf hnm hb
                  unfold Oper.wp
                  rw [hrun]
                  have hargs : (c.args.toList.map a.eval).toArray = c.args.map a.eval := by rw [← Array.toList_map, Array.toArray_toList]
                  rw [← hargs]
                  have ha : RepF σ (c.args.toList.map (evA F)) (c.args.toList.map a.eval) := repF_map hS.frame _
                  have fin : ∀ {σ' : List (Nat × Nat)} {a' : Act} {w' : World}, St σ' n0 ⟨w0.toWorld, σ⟩ F' M' a' w' →
                      a'.defers = [] ∧ ∃ u, (results fn a'.tmps).run P w' = .ok u w' ∧ next (a.put dst u) w' := by
                    intro σ' a' w' hs
                    obtain ⟨z, hz, hrz⟩ := results_sound (P := P) hs hres
                    obtain ⟨t, ht⟩ := hs.pre
                    refine ⟨hs.defers, z, hz, hn σ' _ _ ⟨by cases dst <;> exact hS.defers, rep_put ?_ dst hrz, hs.mem, hs.ext, hs.own, hS.pre.trans hs.pre⟩⟩
                    rw [← ht]; exact hS.frame.mono t
                  have hstart : RepF σ (c.args.toList.map (evA F) ++ List.replicate (fn.ntmps - c.args.toList.length) undefA) (c.args.toList.map a.eval ++ List.replicate (fn.ntmps - (c.args.toList.map a.eval).length) undef) := by
                    have h1 : ∀ (n : Nat), RepF σ (List.replicate n undefA) (List.replicate n undef) := by
                      intro n
                      induction n with
                      | zero => exact .nil
                      | succ n ih => exact .cons rfl ih
                    have h2 : ∀ {l l' : List AV} {us us' : List Value}, RepF σ l us → RepF σ l' us' → RepF σ (l ++ l') (us ++ us') := by
                      intro l l' us us' h h'
                      induction h with
                      | nil => exact h'
                      | cons h _ ih => exact .cons h ih
                    rw [List.length_map]
                    exact h2 ha (h1 _)
                  refine (calls_of_wp (R := fun e w' => ∃ u, e = .returned u ∧ next (a.put dst u) w') hf hb (hg ⟨w0.toWorld, σ⟩ (by rw [hS.mem.len]; exact Nat.le_refl _) σ _ w ⟨rfl, ?_, hS.mem, hS.ext, hS.own, List.prefix_refl _⟩ _ fun σ' a' w' hs => ?_)).mono fun e w' ⟨u, he, hu⟩ => by subst he; exact hu
                  · simpa using hstart
                  · obtain ⟨g1, u, g2, g3⟩ := fin hs
                    cases o with
                    | norm => exact ⟨g1, u, g2, u, rfl, g3⟩
                    | ret => exact ⟨g1, u, g2, u, rfl, g3⟩
                    | exit id => exact ho.elim
                cases o with
                | exit id => cases hK
                | norm =>
                  cases hres : resultA P fn F' M' with
                  | none => simp [hres] at hK
                  | some v => simp only [hres] at hK; exact ⟨_, _, hK, main (.inr trivial) trivial hres⟩
                | ret =>
                  cases hres : resultA P fn F' M' with
                  | none => simp [hres] at hK
                  | some v => simp only [hres] at hK; exact ⟨_, _, hK, main (.inr trivial) trivial hres⟩
            · cases h
          · cases h
      · cases h
    · exact viaSt h
  · exact viaSt h

/-- A region, in the text's order. -/
def regI (P : Program) (E : List (Entry P)) (I : List FuncId) (n0 k0 : Nat) (rec : Nat → Code → List AV → List (List AC) → (Out → List AV → List (List AC) → Option R) → Option R) (ops : Array Oper) : List Oper → List AV → List (List AC) → (List AV → List (List AC) → Option R) → Option R
  | [], F, M, K => K F M
  | o :: rest, F, M, K =>
    match o.guard with
    | none => stI P E I n0 k0 rec o.op o.dst F M fun F M => regI P E I n0 k0 rec ops rest F M K
    | some (j, want) =>
      match (ops[j]?).bind (·.dst) with
      | none => none
      | some d =>
        match F[d]? with
        | some (.c (.sb b)) =>
          cond b
            (cond want (stI P E I n0 k0 rec o.op o.dst (F.set d (.c (.sb true))) M fun F M => regI P E I n0 k0 rec ops rest F M K)
              (regI P E I n0 k0 rec ops rest (putA (F.set d (.c (.sb true))) o.dst undefA) M K))
            (cond want (regI P E I n0 k0 rec ops rest (putA (F.set d (.c (.sb false))) o.dst undefA) M K)
              (stI P E I n0 k0 rec o.op o.dst (F.set d (.c (.sb false))) M fun F M => regI P E I n0 k0 rec ops rest F M K))
        | some (.c (.val (.tuple _))) => regI P E I n0 k0 rec ops rest (putA F o.dst undefA) M K
        | _ => none

theorem regI_sound {P : Program} {E : List (Entry P)} {I : List FuncId} {n0 k0 : Nat} {rec : Nat → Code → List AV → List (List AC) → (Out → List AV → List (List AC) → Option R) → Option R} {ops : Array Oper}
    (hrec : ∀ (k : Nat) (c : Code) (F : List AV) (M : List (List AC)) (K : Out → List AV → List (List AC) → Option R) (r : R), rec k c F M K = some r → ∃ o F' M', K o F' M' = some r ∧ ∀ w0 : Base, w0.s0.length ≤ k → CodeGoes P n0 w0 c F M o F' M')
    {K : List AV → List (List AC) → Option R} {r : R} : ∀ (l : List Oper) {F : List AV} {M : List (List AC)},
    regI P E I n0 k0 rec ops l F M K = some r → ∃ F' M', K F' M' = some r ∧ ∀ w0 : Base, w0.s0.length ≤ k0 → ListGoes P n0 w0 ops l F M F' M'
  | [], F, M, h => ⟨F, M, h, fun _ _ _ _ _ hS _ hQ => hQ _ _ _ hS⟩
  | o :: rest, F, M, h => by
    have skip : ∀ {F1 : List AV}, (∀ (w0 : Base) σ a w, St σ n0 w0 F M a w → Region.wanted o (yielded ops a.tmps) = false ∧ St σ n0 w0 F1 M a w) → regI P E I n0 k0 rec ops rest (putA F1 o.dst undefA) M K = some r →
        ∃ F' M', K F' M' = some r ∧ ∀ w0 : Base, w0.s0.length ≤ k0 → ListGoes P n0 w0 ops (o :: rest) F M F' M' := by
      intro F1 hy h1
      obtain ⟨F', M', hK, hw⟩ := regI_sound hrec rest h1
      refine ⟨F', M', hK, fun w0 hk σ a w hS Q hQ => ?_⟩
      obtain ⟨hn, hS1⟩ := hy w0 σ a w hS
      unfold wpList
      rw [if_neg (by rw [hn]; decide)]
      exact hw w0 hk σ _ _ (hS1.put o.dst (x := undefA) (v := undef) rfl (Ext.refl _)) Q hQ
    have go : ∀ {F1 : List AV}, (∀ (w0 : Base) σ a w, St σ n0 w0 F M a w → Region.wanted o (yielded ops a.tmps) = true ∧ St σ n0 w0 F1 M a w) → (stI P E I n0 k0 rec o.op o.dst F1 M fun F M => regI P E I n0 k0 rec ops rest F M K) = some r →
        ∃ F' M', K F' M' = some r ∧ ∀ w0 : Base, w0.s0.length ≤ k0 → ListGoes P n0 w0 ops (o :: rest) F M F' M' := by
      intro F1 hy h1
      obtain ⟨F2, M2, hK2, hop⟩ := stI_sound hrec h1
      obtain ⟨F', M', hK, hrest⟩ := regI_sound hrec rest hK2
      refine ⟨F', M', hK, fun w0 hk σ a w hS Q hQ => ?_⟩
      obtain ⟨hn, hS1⟩ := hy w0 σ a w hS
      unfold wpList
      rw [if_pos hn]
      exact .inl (hop w0 hk σ a w hS1 o.type o.pos o.after o.guard _ _ fun σ' a' w' hs => hrest w0 hk σ' a' w' hs Q hQ)
    simp only [regI] at h
    split at h
    · rename_i hg
      exact go (fun w0 σ a w hS => ⟨by simp [Region.wanted, hg], hS⟩) h
    · rename_i j want hg
      split at h
      · cases h
      · rename_i d hd
        split at h
        · rename_i b hb
          have hy : ∀ (w0 : Base) σ a w, St σ n0 w0 F M a w → yielded ops a.tmps j = some b := fun w0 σ a w hS => (yielded_of hS hd).1 b hb
          cases b with
          | true =>
            cases want with
            | true => exact go (fun w0 σ a w hS => ⟨by simp [Region.wanted, hg, hy w0 σ a w hS], hS.know hb⟩) h
            | false => exact skip (fun w0 σ a w hS => ⟨by simp [Region.wanted, hg, hy w0 σ a w hS], hS.know hb⟩) h
          | false =>
            cases want with
            | true => exact skip (fun w0 σ a w hS => ⟨by simp [Region.wanted, hg, hy w0 σ a w hS], hS.know hb⟩) h
            | false => exact go (fun w0 σ a w hS => ⟨by simp [Region.wanted, hg, hy w0 σ a w hS], hS.know hb⟩) h
        · rename_i vs hb
          exact skip (fun w0 σ a w hS => ⟨by simp [Region.wanted, hg, (yielded_of hS hd).2 vs hb], hS⟩) h
        · cases h

theorem regM_all {P : Program} {E : List (Entry P)} {n0 : Nat} {id : Nat} {ops : Array Oper} {K : List AV → List (List AC) → Option R} {r : R} (hm : P.follows .mixedOrders = true) {F : List AV} {M : List (List AC)}
    (hp : stillOps ops.toList = true) (hB : Region.lexB .any ops = true) (hC : memLexB .any ops = true) (h : regA P E n0 ops ops.toList F M K = some r) : ∃ F' M', K F' M' = some r ∧ ∀ w0 : Base, CodeGoes P n0 w0 (.region id ops true) F M .norm F' M' := by
  obtain ⟨F', M', hr, hK⟩ := regA_runM ops.toList hp h
  simp only [Region.lexB, Bool.and_eq_true] at hB
  refine ⟨F', M', hK, fun w0 σ a w hS Q hQ => wp_region_any hm ?_⟩
  have := anyM_lex (md := .any) ops.toList 0 (Array.replicate ops.size false) F M (by simp) (by simpa using hB.2) (by simpa [memLexB] using hC) hr
  exact anyM_sound ops.size _ F M σ a _ (by simpa using this) hS.drew hQ

/-- Code; n rounds deep at most; calls of the functions in I run in place. -/
def exI (P : Program) (E : List (Entry P)) (I : List FuncId) (n0 : Nat) : Nat → Nat → Code → List AV → List (List AC) → (Out → List AV → List (List AC) → Option R) → Option R
  | 0, _, _, _, _, _ => none
  | n + 1, k0, c, F, M, K =>
    match c with
    | .skip => K .norm F M
    | .region _ ops draw => cond draw (cond (P.follows .mixedOrders && (stillOps ops.toList && (Region.lexB .any ops && memLexB .any ops))) (regA P E n0 ops ops.toList F M fun F M => K .norm F M) none)
        (regI P E I n0 k0 (fun k c F M K => exI P E I n0 n k c F M K) ops ops.toList F M fun F M => K .norm F M)
    | .seq x y => exI P E I n0 n k0 x F M fun o F M =>
      match o with
      | .norm => exI P E I n0 n k0 y F M K
      | .exit id => K (.exit id) F M
      | .ret => K .ret F M
    | .cond (.tmp t) x y =>
      match F[t]? with
      | some (.c (.sb b)) => cond b (exI P E I n0 n k0 x (F.set t (.c (.sb true))) M K) (exI P E I n0 n k0 y (F.set t (.c (.sb false))) M K)
      | _ => none
    | .block id x => exI P E I n0 n k0 x F M fun o F M =>
      match o with
      | .norm => K .norm F M
      | .exit i => cond (i == id) (K .norm F M) (K (.exit i) F M)
      | .ret => K .ret F M
    | .loop x => exI P E I n0 n k0 x F M fun o F M =>
      match o with
      | .norm => exI P E I n0 n k0 (.loop x) F M K
      | .exit id => K (.exit id) F M
      | .ret => K .ret F M
    | .exit id => K (.exit id) F M
    | .ret => K .ret F M
    | _ => none

theorem exI_sound {P : Program} {E : List (Entry P)} {I : List FuncId} {n0 : Nat} : ∀ (n : Nat),
    (∀ (k0 : Nat) (c : Code) (F : List AV) (M : List (List AC)) (K : Out → List AV → List (List AC) → Option R) (r : R), exI P E I n0 n k0 c F M K = some r → ∃ o F' M', K o F' M' = some r ∧ ∀ w0 : Base, w0.s0.length ≤ k0 → CodeGoes P n0 w0 c F M o F' M') ∧
    (∀ (k0 : Nat) (x : Code) (F : List AV) (M : List (List AC)) (K : Out → List AV → List (List AC) → Option R) (r : R), exI P E I n0 n k0 (.loop x) F M K = some r → ∃ o F' M', K o F' M' = some r ∧ ∀ w0 : Base, w0.s0.length ≤ k0 → ∃ N, ∀ (σ : List (Nat × Nat)) (a : Act) (w : World), St σ n0 w0 F M a w →
      ∀ (Q : Exit → Act → World → Prop), (∀ σ' a' w', St σ' n0 w0 F' M' a' w' → Q o.toExit a' w') → Code.rounds P x Q N a w)
  | 0 => ⟨(fun _ _ _ _ _ _ h => by cases h), (fun _ _ _ _ _ _ h => by cases h)⟩
  | n + 1 => by
    obtain ⟨ih1, ih2⟩ := exI_sound n
    have hloop : ∀ (k0 : Nat) (x : Code) (F : List AV) (M : List (List AC)) (K : Out → List AV → List (List AC) → Option R) (r : R), exI P E I n0 (n + 1) k0 (.loop x) F M K = some r → ∃ o F' M', K o F' M' = some r ∧ ∀ w0 : Base, w0.s0.length ≤ k0 → ∃ N, ∀ (σ : List (Nat × Nat)) (a : Act) (w : World), St σ n0 w0 F M a w →
      ∀ (Q : Exit → Act → World → Prop), (∀ σ' a' w', St σ' n0 w0 F' M' a' w' → Q o.toExit a' w') → Code.rounds P x Q N a w := by
      intro k0 x F M K r h
      simp only [exI] at h
      obtain ⟨o, F1, M1, hK1, hx⟩ := ih1 k0 x F M _ r h
      cases o with
      | norm =>
        obtain ⟨o, F', M', hK, hN⟩ := ih2 k0 x F1 M1 K r hK1
        refine ⟨o, F', M', hK, fun w0 hk => ?_⟩
        obtain ⟨N, hN⟩ := hN w0 hk
        exact ⟨N + 1, fun σ a w hS Q hQ => hx w0 hk σ a w hS _ fun σ' a' w' hs => hN σ' a' w' hs Q hQ⟩
      | exit id => exact ⟨.exit id, F1, M1, hK1, fun w0 hk => ⟨1, fun σ a w hS Q hQ => hx w0 hk σ a w hS _ fun σ' a' w' hs => hQ σ' a' w' hs⟩⟩
      | ret => exact ⟨.ret, F1, M1, hK1, fun w0 hk => ⟨1, fun σ a w hS Q hQ => hx w0 hk σ a w hS _ fun σ' a' w' hs => hQ σ' a' w' hs⟩⟩
    refine ⟨fun k0 c F M K r h => ?_, hloop⟩
    cases c with
    | skip => exact ⟨.norm, F, M, h, fun w0 _ σ a w hS Q hQ => wp_skip (hQ σ a w hS)⟩
    | region id ops draw =>
      simp only [exI] at h
      cases draw with
      | true =>
        cases hp : (P.follows .mixedOrders && (stillOps ops.toList && (Region.lexB .any ops && memLexB .any ops))) with
        | false => simp only [hp, cond_true, cond_false] at h; cases h
        | true =>
          simp only [hp, cond_true] at h
          simp only [Bool.and_eq_true] at hp
          obtain ⟨F', M', hK, hg⟩ := regM_all hp.1 hp.2.1 hp.2.2.1 hp.2.2.2 h
          exact ⟨.norm, F', M', hK, fun w0 _ => hg w0⟩
      | false =>
        simp only [cond_false] at h
        obtain ⟨F', M', hK, hl⟩ := regI_sound (fun k c F M K r h => ih1 k c F M K r h) ops.toList h
        exact ⟨.norm, F', M', hK, fun w0 hk σ a w hS Q hQ => wp_region_list (hl w0 hk σ a w hS Q hQ)⟩
    | seq x y =>
      simp only [exI] at h
      obtain ⟨o, F1, M1, hK1, hx⟩ := ih1 k0 x F M _ r h
      cases o with
      | norm =>
        obtain ⟨o, F', M', hK, hy⟩ := ih1 k0 y F1 M1 K r hK1
        exact ⟨o, F', M', hK, fun w0 hk σ a w hS Q hQ => wp_seq (hx w0 hk σ a w hS _ fun σ' a' w' hs => hy w0 hk σ' a' w' hs Q hQ)⟩
      | exit id => exact ⟨.exit id, F1, M1, hK1, fun w0 hk σ a w hS Q hQ => wp_seq (hx w0 hk σ a w hS _ fun σ' a' w' hs => hQ σ' a' w' hs)⟩
      | ret => exact ⟨.ret, F1, M1, hK1, fun w0 hk σ a w hS Q hQ => wp_seq (hx w0 hk σ a w hS _ fun σ' a' w' hs => hQ σ' a' w' hs)⟩
    | cond c x y =>
      cases c with
      | tmp t =>
        simp only [exI] at h
        split at h
        · rename_i b hb
          have hev : ∀ (w0 : Base) σ a w, St σ n0 w0 F M a w → a.eval (.tmp t) = .bool b := by
            intro w0 σ a w hS
            obtain ⟨v, hv, hr⟩ := hS.frame.get? hb
            have hr' : v = .bool b := hr
            subst hr'
            have hv' : a.tmps[t]? = some (.bool b) := by simpa using hv
            simp [Act.eval, Array.getD_eq_getD_getElem?, hv']
          cases b with
          | true =>
            obtain ⟨o, F', M', hK, hx⟩ := ih1 k0 x _ M K r h
            exact ⟨o, F', M', hK, fun w0 hk σ a w hS Q hQ => wp_cond_true (hev w0 σ a w hS) (hx w0 hk σ a w (hS.know hb) Q hQ)⟩
          | false =>
            obtain ⟨o, F', M', hK, hx⟩ := ih1 k0 y _ M K r h
            exact ⟨o, F', M', hK, fun w0 hk σ a w hS Q hQ => wp_cond_false (hev w0 σ a w hS) (hx w0 hk σ a w (hS.know hb) Q hQ)⟩
        · cases h
      | const v => cases h
      | global g => cases h
      | func f => cases h
    | block id x =>
      simp only [exI] at h
      obtain ⟨o, F1, M1, hK1, hx⟩ := ih1 k0 x F M _ r h
      cases o with
      | norm => exact ⟨.norm, F1, M1, hK1, fun w0 hk σ a w hS Q hQ => wp_block (hx w0 hk σ a w hS _ fun σ' a' w' hs => hQ σ' a' w' hs)⟩
      | exit i =>
        by_cases hi : i = id
        · subst hi
          simp only [beq_self_eq_true, cond_true] at hK1
          exact ⟨.norm, F1, M1, hK1, fun w0 hk σ a w hS Q hQ => wp_block (hx w0 hk σ a w hS _ fun σ' a' w' hs => by simp only [Out.toExit, Exit.inBlock, if_true]; exact hQ σ' a' w' hs)⟩
        · have hb : (i == id) = false := by simpa using hi
          simp only [hb, cond_false] at hK1
          exact ⟨.exit i, F1, M1, hK1, fun w0 hk σ a w hS Q hQ => wp_block (hx w0 hk σ a w hS _ fun σ' a' w' hs => by simp only [Out.toExit, Exit.inBlock, hi, if_false]; exact hQ σ' a' w' hs)⟩
      | ret => exact ⟨.ret, F1, M1, hK1, fun w0 hk σ a w hS Q hQ => wp_block (hx w0 hk σ a w hS _ fun σ' a' w' hs => hQ σ' a' w' hs)⟩
    | loop x =>
      obtain ⟨o, F', M', hK, hN⟩ := hloop k0 x F M K r h
      refine ⟨o, F', M', hK, fun w0 hk σ a w hS Q hQ => ?_⟩
      obtain ⟨N, hN⟩ := hN w0 hk
      exact wp_loop_rounds N (hN σ a w hS Q hQ)
    | exit id => exact ⟨.exit id, F, M, h, fun w0 _ σ a w hS Q hQ => wp_exit (hQ σ a w hS)⟩
    | ret => exact ⟨.ret, F, M, h, fun w0 _ σ a w hS Q hQ => wp_ret (hQ σ a w hS)⟩
    | _ => cases h

theorem calls_of_goes' {P : Program} {f : FuncId} {fn : Func} {c : Code} (hf : P.funcs[f]? = some fn) (hb : fn.body = some c) {args : List AV} {r : AV} {o : Out} {F' : List AV} {M' : List (List AC)} (hK : (match o with
      | .exit _ => none
      | _ => match resultA P fn F' M' with
        | some v => cond (plainA v) (some v) none
        | none => none) = some r) (h : ∀ w : World, CodeGoes P 0 ⟨w, []⟩ c (args ++ List.replicate (fn.ntmps - args.length) undefA) [] o F' M')
    (hp : args.all plainA = true) {σ : List (Nat × Nat)} {vs : List Value} {w : World} (ha0 : RepF σ args vs) : Calls P f vs.toArray w fun e w' => ∃ v, e = .returned v ∧ Rep σ r v ∧ Ext w w' := by
  have ha : RepF [] args vs := plainF hp ha0
  have fin : ∀ (hK' : (match resultA P fn F' M' with | some v => cond (plainA v) (some v) none | none => none) = some r) {σ' : List (Nat × Nat)} {a' : Act} {w' : World} (hs : St σ' 0 ⟨w, []⟩ F' M' a' w'),
      a'.defers = [] ∧ ∃ v, (results fn a'.tmps).run P w' = .ok v w' ∧ ∃ u, (Ending.returned v) = .returned u ∧ Rep σ r u ∧ Ext w w' := by
    intro hK' σ' a' w' hs
    cases hr : resultA P fn F' M' with
    | none => simp [hr] at hK'
    | some v =>
      simp only [hr] at hK'
      cases hp : plainA v with
      | false => simp [hp] at hK'
      | true =>
        simp only [hp, cond_true, Option.some.injEq] at hK'
        subst hK'
        obtain ⟨z, hz, hrz⟩ := results_sound (P := P) hs hr
        exact ⟨hs.defers, z, hz, z, rfl, plain_rep hp hrz, hs.ext⟩
  refine calls_of_wp hf hb (h w [] _ w ⟨rfl, ?_, MemOk.nil w, Ext.refl _, fun id b hid hbb => (by cases hbb), List.prefix_refl _⟩ _ fun σ' a' w' hs => ?_)
  · have hlen := ha.length
    have h1 : ∀ (n : Nat), RepF [] (List.replicate n undefA) (List.replicate n undef) := by
      intro n
      induction n with
      | zero => exact .nil
      | succ n ih => exact .cons rfl ih
    have h2 : ∀ {l l' : List AV} {us us' : List Value}, RepF [] l us → RepF [] l' us' → RepF [] (l ++ l') (us ++ us') := by
      intro l l' us us' h h'
      induction h with
      | nil => exact h'
      | cons h _ ih => exact .cons h ih
    simpa [hlen] using h2 ha (h1 (fn.ntmps - vs.length))
  · cases o with
    | norm => exact fin hK hs
    | ret => exact fin hK hs
    | exit id => cases hK

/-- A function's answer, with the calls of I run in place. -/
def runI (P : Program) (E : List (Entry P)) (I : List FuncId) (fn : Func) (args : List AV) : Option AV :=
  match fn.body with
  | none => none
  | some c => exI P E I 0 4000 0 c (args ++ List.replicate (fn.ntmps - args.length) undefA) [] fun o F M =>
    match o with
    | .exit _ => none
    | _ => match resultA P fn F M with
      | some v => cond (plainA v) (some v) none
      | none => none

theorem runI_sound {P : Program} {E : List (Entry P)} {I : List FuncId} {f : FuncId} {fn : Func} (hf : P.funcs[f]? = some fn) {args : List AV} {r : AV} (hp : args.all plainA = true) (h : runI P E I fn args = some r)
    {σ : List (Nat × Nat)} {vs : List Value} {w : World} (ha : RepF σ args vs) :
    Calls P f vs.toArray w fun e w' => ∃ v, e = .returned v ∧ Rep σ r v ∧ Ext w w' := by
  unfold runI at h
  split at h
  · cases h
  · rename_i c hb
    obtain ⟨o, F', M', hK, hg⟩ := (exI_sound 4000).1 0 c _ [] _ r h
    exact calls_of_goes' hf hb hK (fun w => hg ⟨w, []⟩ (Nat.le_refl _)) hp ha

end Go.Proofs.Ytlpahmefebgdlaa.Fx
