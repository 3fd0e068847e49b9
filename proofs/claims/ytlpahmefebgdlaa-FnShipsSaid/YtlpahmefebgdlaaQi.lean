/- Texts put together: Ev, Ek, Ta, Kb, Kc. No condition. -/
import Derived.Test.YtlpahmefebgdlaaQg
import Derived.Test.YtlpahmefebgdlaaQh
import Derived.Test.YtlpahmefebgdlaaQd
import Derived.Test.YtlpahmefebgdlaaQf
/- The executor, twelfth part: calls of functions that read what the world held when the run began. No condition. -/
namespace Go.Proofs.Ytlpahmefebgdlaa.Fx
open Go Go.RowKit

variable {R : Type}

/-- A function's answer, in worlds of which G holds. -/
structure EntryW (P : Program) (G : World → Prop) where
  f : FuncId
  fn : List AV → Option (Bool × AV)
  ok : ∀ args r, fn args = some (true, r) → ∀ σ vs w, G w → RepF σ args vs → Gives P f vs.toArray w fun v w' => Rep σ r v ∧ Ext w w'

def findW {P : Program} {G : World → Prop} : List (EntryW P G) → FuncId → Option (EntryW P G)
  | [], _ => none
  | e :: l, f => if e.f == f then some e else findW l f
theorem findW_f {P : Program} {G : World → Prop} {E : List (EntryW P G)} {f : FuncId} {e : EntryW P G} (h : findW E f = some e) : e.f = f := by
  induction E with
  | nil => cases h
  | cons a l ih =>
    simp only [findW] at h
    split at h
    · rename_i hf; cases h; simpa using hf
    · exact ih h

/-- A slice literal of elements of two cells. -/
def litW (P : Program) (F : List AV) (t : TypeId) (len : Nat) (parts : List (Nat × Operand)) : Option (List AC) :=
  match P.underlying t with
  | some (.slice e) => match P.info? e with
    | some ie => if ie.size = 2 ∧ 0 < len then litA P F t len parts else none
    | none => none
  | _ => none
theorem litW_sound {P : Program} {n0 : Nat} {w0 : Base} {F : List AV} {M : List (List AC)} {t : TypeId} {len : Nat} {parts : Array (Nat × Operand)} {l : List AC} (h : litW P F t len parts.toList = some l) (dst : Option Tmp) :
    OpGoes P n0 w0 (.buildSlice t len parts) dst F M (putA F dst (.c (.slw M.length len))) (M ++ [l]) := by
  unfold litW at h
  split at h
  · rename_i e hu
    split at h
    · rename_i ie hie
      split at h
      · rename_i hsz2
        unfold litA at h
        rw [hu] at h
        simp only [hie] at h
        split at h
        · rename_i z hz
          cases h0 : (len == 0 && parts.toList.isEmpty) with
          | true =>
            rw [Bool.and_eq_true] at h0
            have : len = 0 := by simpa using h0.1
            omega
          | false =>
            rw [h0] at h
            simp only [cond_false] at h
            split at h
            · rename_i ps hps
              split at h
              · rename_i l' hl'
                split at h
                · rename_i hc
                  obtain ⟨c1, c2, c3, c4⟩ := hc
                  cases h
                  intro σ a w hS
                  obtain ⟨g1, g2⟩ := partsA_sound hS.frame _ _ hps
                  obtain ⟨zs, hf, hr⟩ := fillA_sound (σ := σ) _ ps _ _ ((Array.range (len * ie.size)).map (z.cells[· % z.cells.size]!)) _ g1 g2 (rep_map_toC σ _) hl'
                  have hsz : zs.size = len * ie.size := by
                    have h1 := hr.length
                    have h2 : ∀ (ps : List (Nat × List AC)) (cs r : List AC), fillA (fun i => some (i * ie.size, ie.size)) cs ps = some r → r.length = cs.length := by
                      intro ps
                      induction ps with
                      | nil => intro cs r h; cases h; rfl
                      | cons p ps ih =>
                        intro cs r h
                        obtain ⟨i, l⟩ := p
                        simp only [fillA] at h
                        split at h
                        · cases h
                        · rw [ih _ _ h]
                          unfold setAt
                          have : ∀ (l : List (AC × Nat)) (cs : List AC), (l.foldl (fun cs x => cs.set (i * ie.size + x.2) x.1) cs).length = cs.length := by
                            intro l
                            induction l with
                            | nil => intro cs; rfl
                            | cons x l ih => intro cs; rw [List.foldl_cons, ih, List.length_set]
                          exact this _ _
                    have h3 := h2 _ _ _ hl'
                    simp at h3
                    simp at h1
                    omega
                  have hpos : 1 ≤ len * ie.size := Nat.mul_pos c1 c3
                  have hbig : len * ie.size ≤ 1000 * 100 := Nat.mul_le_mul c2 c4
                  have hle : len ≤ len * ie.size := Nat.le_mul_of_pos_right _ c3
                  have hrun := run_buildSlice (P := P) w t e len (parts.map fun (i, x) => (i, a.eval x)) zs ie z hu hie hz (by omega) (by omega) (by
                    rw [Array.toList_map]; exact hf)
                  exact goes_val (v := .slice (some ⟨w.heap.size, 0, none⟩) len len) (w' := w.alloc (.cells zs e)) (fun ty pos after gd => run_v hrun)
                    (hS.push (vs := zs) (c := len * 2) hr (by rw [hsz, hsz2.1]; exact Nat.le_refl _) dst ⟨(w.heap.size, len * 2), len, new_id hS.mem, Nat.le_refl _, rfl, rfl⟩)
                · cases h
              · cases h
            · cases h
        · cases h
      · cases h
    · cases h
  · cases h

/-- An operation; calls of the functions in I are run in place. -/
def stK (P : Program) (E : List (Entry P)) (I : List FuncId) (N : List (EntryN P)) {G : World → Prop} (X : List (EntryW P G)) (n0 k0 : Nat) (rec : Nat → Code → List AV → List (List AC) → (Out → List AV → List (List AC) → Option R) → Option R) (op : Op) (dst : Option Tmp) (F : List AV) (M : List (List AC)) (K : List AV → List (List AC) → Option R) : Option R :=
  match op with
  | .buildSlice t len parts => match litW P F t len parts.toList with
    | some l => K (putA F dst (.c (.slw M.length len))) (M ++ [l])
    | none => match litA P F t len parts.toList with
      | some l => K (putA F dst (.c (.slc M.length len))) (M ++ [l])
      | none => none
  | .call c => match c.callee with
    | .builtin .append => match c.args.toList, c.argTypes.toList with
      | [s, x], [t, t'] => if t = t' then match appA P n0 k0 t (evA F s) (evA F x) F M with
          | some (r, F1, M1) => K (putA F1 dst r) M1
          | none => match appW P n0 k0 t (evA F s) (evA F x) F M with
            | some (r, F1, M1) => K (putA F1 dst r) M1
            | none => none
        else none
      | _, _ => none
    | .value f => match evA F f with
      | .c (.val (.func (.func id) ⟨[]⟩ ⟨[]⟩)) =>
        match findW X id with
        | some e => match e.fn (c.args.toList.map (evA F)) with
          | some (q, r) => cond q (K (putA F dst r) M) none
          | none => none
        | none => match findN N id with
        | some e => match e.fn (c.args.toList.map (evA F)) with
          | some (q, b, cells) => cond (q && ((c.args.toList.map (evA F)).all plainA && cells.all plainC)) (cond b (K (putA F dst (.tup [.slc M.length (e.len cells), .sb true])) (M ++ [cells])) (K (putA F dst (.tup [.val (.slice none 0 0), .sb false])) M)) none
          | none => none
        | none => cond (I.contains id) (match P.funcs[id]? with
          | some fn => match fn.body with
            | some body => cond (fn.name == "runtime.NumGoroutine") none (rec M.length body (c.args.toList.map (evA F) ++ List.replicate (fn.ntmps - c.args.toList.length) undefA) M fun o F' M' => match o with
                | .exit _ => none
                | _ => match resultA P fn F' M' with
                  | some v => K (putA F dst v) M'
                  | none => none)
            | none => none
          | none => none)
          (stA P E n0 (.call c) dst F M K)
      | .c (.clo id i j) => match P.funcs[id]? with
        | some fn => match fn.body with
          | some body => cond (fn.name == "runtime.NumGoroutine") none (rec M.length body (c.args.toList.map (evA F) ++ [.c (.ptr i 0), .c (.ptr j 0)] ++ List.replicate (fn.ntmps - (c.args.toList.length + 2)) undefA) M fun o F' M' => match o with
              | .exit _ => none
              | _ => match resultA P fn F' M' with
                | some v => K (putA F dst v) M'
                | none => none)
          | none => none
        | none => none
      | _ => none
    | _ => stA P E n0 (.call c) dst F M K
  | .makeFunc (.func f) first captured => match first.toList, captured.toList.map (evA F) with
    | [], [.c (.ptr i 0), .c (.ptr j 0)] => K (putA F dst (.c (.clo f i j))) M
    | _, _ => none
  | op => stA P E n0 op dst F M K

theorem stK_sound {P : Program} {E : List (Entry P)} {I : List FuncId} {N : List (EntryN P)} {G : World → Prop} {X : List (EntryW P G)} {n0 k0 : Nat} {rec : Nat → Code → List AV → List (List AC) → (Out → List AV → List (List AC) → Option R) → Option R}
    (hmono : ∀ w w', G w → Ext w w' → G w') (hrec : ∀ (k : Nat) (c : Code) (F : List AV) (M : List (List AC)) (K : Out → List AV → List (List AC) → Option R) (r : R), rec k c F M K = some r → ∃ o F' M', K o F' M' = some r ∧ ∀ w0 : Base, G w0.toWorld → w0.s0.length ≤ k → CodeGoes P n0 w0 c F M o F' M')
    {op : Op} {dst : Option Tmp} {F : List AV} {M : List (List AC)} {K : List AV → List (List AC) → Option R} {r : R}
    (h : stK P E I N X n0 k0 rec op dst F M K = some r) : ∃ F' M', K F' M' = some r ∧ ∀ w0 : Base, G w0.toWorld → w0.s0.length ≤ k0 → OpGoes P n0 w0 op dst F M F' M' := by
  have viaSt : ∀ {op : Op}, stA P E n0 op dst F M K = some r → ∃ F' M', K F' M' = some r ∧ ∀ w0 : Base, G w0.toWorld → w0.s0.length ≤ k0 → OpGoes P n0 w0 op dst F M F' M' := by
    intro op h
    obtain ⟨F', M', hK, hg⟩ := stA_nat h
    exact ⟨F', M', hK, fun w0 _ _ => hg w0⟩
  unfold stK at h
  split at h
  · rename_i t len parts
    split at h
    · rename_i l hl
      exact ⟨_, _, h, fun w0 _ _ => litW_sound hl dst⟩
    · split at h
      · rename_i l hl
        exact ⟨_, _, h, fun w0 _ _ => litA_sound hl dst⟩
      · cases h
  · rename_i c
    split at h
    · rename_i hcal
      split at h
      · rename_i s x t t' hargs htys
        split at h
        · rename_i htt
          subst htt
          split at h
          · rename_i q F1 M1 happ
            refine ⟨_, _, h, fun w0 hG hk σ a w hS ty pos after gd next Q hn => ?_⟩
            obtain ⟨σ', v, w', hr, hs⟩ := app_sound (ty := ty) hk happ dst hS
            unfold Oper.wp
            have e1 : c.args.map a.eval = #[a.eval s, a.eval x] := by
              apply Array.ext'
              rw [Array.toList_map, hargs]; rfl
            have e2 : c.argTypes = #[t, t] := by
              apply Array.ext'
              rw [htys]
            have : (execOp a.eval ⟨dst, .call c, ty, pos, after, gd⟩).run P w = .ok (.value v) w' := by
              simp only [execOp, Go.resolve, hcal, e1, e2]
              simp [invoke, builtin, hr]
            rw [this]
            exact hn _ _ _ hs
          · split at h
            · rename_i q F1 M1 happ
              refine ⟨_, _, h, fun w0 hG hk σ a w hS ty pos after gd next Q hn => ?_⟩
              obtain ⟨σ', v, w', hr, hs⟩ := appW_sound (ty := ty) hk happ dst hS
              unfold Oper.wp
              have e1 : c.args.map a.eval = #[a.eval s, a.eval x] := by
                apply Array.ext'
                rw [Array.toList_map, hargs]; rfl
              have e2 : c.argTypes = #[t, t] := by
                apply Array.ext'
                rw [htys]
              have : (execOp a.eval ⟨dst, .call c, ty, pos, after, gd⟩).run P w = .ok (.value v) w' := by
                simp only [execOp, Go.resolve, hcal, e1, e2]
                simp [invoke, builtin, hr]
              rw [this]
              exact hn _ _ _ hs
            · cases h
        · cases h
      · cases h
    · rename_i f hcal
      split at h
      · rename_i id ef
        split at h
        · rename_i e hfind
          split at h
          · rename_i q r' hfn
            cases q with
            | false => cases h
            | true =>
              simp only [cond_true] at h
              have hid := findW_f hfind
              subst hid
              refine ⟨_, _, h, fun w0 hG hk σ a w hS ty pos after gd next Q hn => ?_⟩
              have hfv := rep_ev hS.frame f
              rw [ef] at hfv
              have hf' : a.eval f = .func (.func e.f) #[] #[] := hfv
              have hg := e.ok _ _ hfn σ (c.args.toList.map a.eval) w (hmono _ _ hG hS.ext) (repF_map hS.frame _)
              have hargs : (c.args.toList.map a.eval).toArray = c.args.map a.eval := by rw [← Array.toList_map, Array.toArray_toList]
              rw [hargs] at hg
              have hres : ∀ Y, (execOp a.eval ⟨dst, .call c, ty, pos, after, gd⟩).run P w = Y ↔ (callFunc e.f (c.args.map a.eval)).run P w = Y := by
                intro Y
                have : (execOp a.eval ⟨dst, .call c, ty, pos, after, gd⟩).run P w = (callFunc e.f (c.args.map a.eval)).run P w := by
                  simp only [execOp, Go.resolve, hcal, hf', Deferred.ofValue]
                  simp [invoke]
                rw [this]
              rcases hg with ⟨v, w', hr, hv, hw⟩ | ⟨hr, hcalls⟩
              · unfold Oper.wp
                rw [(hres _).2 hr]
                exact hn _ _ _ (hS.put dst hv hw)
              · unfold Oper.wp
                rw [(hres _).2 hr]
                exact hcalls.mono fun en w' ⟨v, he, hv, hw⟩ => by subst he; exact hn _ _ _ (hS.put dst hv hw)
          · cases h
        split at h
        · rename_i e hfind
          split at h
          · rename_i q b cells hfn
            cases hq : (q && ((c.args.toList.map (evA F)).all plainA && cells.all plainC)) with
            | false => rw [hq] at h; cases h
            | true =>
              rw [hq] at h
              simp only [cond_true] at h
              simp only [Bool.and_eq_true] at hq
              obtain ⟨rfl, hpa, hpc⟩ := hq
              have hid := findN_f hfind
              subst hid
              have enter : ∀ {a : Act} {w : World} {σ : List (Nat × Nat)} {w0 : Base}, St σ n0 w0 F M a w → ∀ (ty : TypeId) (pos : String) (after : Array Edge) (gd : Option (Nat × Bool)),
                  (execOp a.eval ⟨dst, .call c, ty, pos, after, gd⟩).run P w = .ok (.enter e.f (c.args.map a.eval)) w := by
                intro a w σ w0 hS ty pos after gd
                have hfv := rep_ev hS.frame f
                rw [ef] at hfv
                have hf' : a.eval f = .func (.func e.f) #[] #[] := hfv
                have : (execOp a.eval ⟨dst, .call c, ty, pos, after, gd⟩).run P w = (callFunc e.f (c.args.map a.eval)).run P w := by
                  simp only [execOp, Go.resolve, hcal, hf', Deferred.ofValue]
                  simp [invoke]
                rw [this]; exact e.enter _ _
              have hargs : ∀ (a : Act), (c.args.toList.map a.eval).toArray = c.args.map a.eval := fun a => by rw [← Array.toList_map, Array.toArray_toList]
              cases b with
              | true =>
                refine ⟨_, _, h, fun w0 hG hk σ a w hS ty pos after gd next Q hn => ?_⟩
                unfold Oper.wp
                rw [enter hS ty pos after gd, ← hargs a]
                refine (e.ok _ _ _ hfn _ w (plainF hpa (repF_map hS.frame _)) hpa).mono fun en w' ⟨hx, hr⟩ => ?_
                obtain ⟨blk, cap, us, t, rfl, h1, h2, h3, h4, h5⟩ := hr
                obtain ⟨kk, h3⟩ := h3
                have h3' : RepP (σ ++ [(blk, cap)]) cells us.toList := ⟨kk, plainL_rep (by simp [hpc]; right; rfl) h3⟩
                exact hn (σ ++ [(blk, cap)]) _ _ ⟨by cases dst <;> exact hS.defers, rep_put (hS.frame.mono _) dst ⟨_, rfl, .cons ⟨(blk, cap), by rw [← hS.mem.len, List.getElem?_append_right (Nat.le_refl _), Nat.sub_self]; rfl, h5, rfl⟩ (.cons rfl .nil)⟩,
                  hS.mem.pushAt hx h1 h2 h3' h4, hS.ext.trans hx, fun id b hid hb => (by
                    by_cases hi : id < σ.length
                    · rw [List.getElem?_append_left hi] at hb; exact hS.own id b hid hb
                    · have hid' : id = σ.length := by
                        have := (List.getElem?_eq_some_iff.1 hb).1
                        simp at this; omega
                      subst hid'
                      simp only [List.getElem?_append_right (Nat.le_refl _), Nat.sub_self, List.getElem?_cons_zero, Option.some.injEq] at hb
                      subst hb
                      exact Nat.le_trans hS.ext.size h1), hS.pre.trans (List.prefix_append _ _)⟩
              | false =>
                refine ⟨_, _, h, fun w0 hG hk σ a w hS ty pos after gd next Q hn => ?_⟩
                unfold Oper.wp
                rw [enter hS ty pos after gd, ← hargs a]
                refine (e.ok _ _ _ hfn _ w (plainF hpa (repF_map hS.frame _)) hpa).mono fun en w' ⟨hx, hr⟩ => ?_
                have hr' : en = .returned (.tuple #[.slice none 0 0, .bool false]) := hr
                subst hr'
                exact hn σ _ _ (hS.put dst (x := .tup [.val (.slice none 0 0), .sb false]) ⟨_, rfl, .cons rfl (.cons rfl .nil)⟩ hx)
          · cases h
        cases hI : I.contains id with
        | false => rw [hI] at h; exact viaSt h
        | true =>
          rw [hI] at h
          simp only [cond_true] at h
          split at h
          · rename_i fn hf
            split at h
            · rename_i body hb
              cases hnm : (fn.name == "runtime.NumGoroutine") with
              | true => rw [hnm] at h; cases h
              | false =>
                rw [hnm] at h
                simp only [cond_false] at h
                obtain ⟨o, F', M', hK, hg⟩ := hrec _ _ _ _ _ _ h
                have main : ∀ {v : AV}, o.toExit ≠ .normal ∨ True → (match o with | .exit _ => False | _ => True) → resultA P fn F' M' = some v → ∀ w0 : Base, G w0.toWorld → w0.s0.length ≤ k0 → OpGoes P n0 w0 (.call c) dst F M (putA F dst v) M' := by
                  intro v _ ho hres w0 hG hk σ a w hS ty pos after gd next Q hn
                  have hfv := rep_ev hS.frame f
                  rw [ef] at hfv
                  have hf' : a.eval f = .func (.func id) #[] #[] := hfv
                  have hrun : (execOp a.eval ⟨dst, .call c, ty, pos, after, gd⟩).run P w = .ok (.enter id (c.args.map a.eval)) w := by
                    have : (execOp a.eval ⟨dst, .call c, ty, pos, after, gd⟩).run P w = (callFunc id (c.args.map a.eval)).run P w := by
                      simp only [execOp, Go.resolve, hcal, hf', Deferred.ofValue]
                      simp [invoke]
                    rw [this]; exact enter_of hf hnm hb
                  unfold Oper.wp
                  rw [hrun]
                  have hargs : (c.args.toList.map a.eval).toArray = c.args.map a.eval := by rw [← Array.toList_map, Array.toArray_toList]
                  rw [← hargs]
                  have ha : RepF σ (c.args.toList.map (evA F)) (c.args.toList.map a.eval) := repF_map hS.frame _
                  have fin : ∀ {σ' : List (Nat × Nat)} {a' : Act} {w' : World}, St σ' n0 ⟨w0.toWorld, σ⟩ F' M' a' w' →
                      a'.defers = [] ∧ ∃ u, (results fn a'.tmps).run P w' = .ok u w' ∧ next (a.put dst u) w' := by
                    intro σ' a' w' hs
                    obtain ⟨z, hz, hrz⟩ := results_sound (P := P) hs hres
                    obtain ⟨t, ht⟩ := hs.pre
                    refine ⟨hs.defers, z, hz, hn σ' _ _ ⟨by cases dst <;> exact hS.defers, rep_put ?_ dst hrz, hs.mem, hs.ext, hs.own, hS.pre.trans hs.pre⟩⟩
                    rw [← ht]; exact hS.frame.mono t
                  have hstart : RepF σ (c.args.toList.map (evA F) ++ List.replicate (fn.ntmps - c.args.toList.length) undefA) (c.args.toList.map a.eval ++ List.replicate (fn.ntmps - (c.args.toList.map a.eval).length) undef) := by
                    have h1 : ∀ (n : Nat), RepF σ (List.replicate n undefA) (List.replicate n undef) := by
                      intro n
                      induction n with
                      | zero => exact .nil
                      | succ n ih => exact .cons rfl ih
                    have h2 : ∀ {l l' : List AV} {us us' : List Value}, RepF σ l us → RepF σ l' us' → RepF σ (l ++ l') (us ++ us') := by
                      intro l l' us us' h h'
                      induction h with
                      | nil => exact h'
                      | cons h _ ih => exact .cons h ih
                    rw [List.length_map]
                    exact h2 ha (h1 _)
                  refine (calls_of_wp (R := fun e w' => ∃ u, e = .returned u ∧ next (a.put dst u) w') hf hb (hg ⟨w0.toWorld, σ⟩ hG (by rw [hS.mem.len]; exact Nat.le_refl _) σ _ w ⟨rfl, ?_, hS.mem, hS.ext, hS.own, List.prefix_refl _⟩ _ fun σ' a' w' hs => ?_)).mono fun e w' ⟨u, he, hu⟩ => by subst he; exact hu
                  · simpa using hstart
                  · obtain ⟨g1, u, g2, g3⟩ := fin hs
                    cases o with
                    | norm => exact ⟨g1, u, g2, u, rfl, g3⟩
                    | ret => exact ⟨g1, u, g2, u, rfl, g3⟩
                    | exit id => exact ho.elim
                cases o with
                | exit id => cases hK
                | norm =>
                  cases hres : resultA P fn F' M' with
                  | none => simp [hres] at hK
                  | some v => simp only [hres] at hK; exact ⟨_, _, hK, main (.inr trivial) trivial hres⟩
                | ret =>
                  cases hres : resultA P fn F' M' with
                  | none => simp [hres] at hK
                  | some v => simp only [hres] at hK; exact ⟨_, _, hK, main (.inr trivial) trivial hres⟩
            · cases h
          · cases h
      · rename_i id i j ef
        split at h
        · rename_i fn hf
          split at h
          · rename_i body hb
            cases hnm : (fn.name == "runtime.NumGoroutine") with
            | true => rw [hnm] at h; cases h
            | false =>
              rw [hnm] at h
              simp only [cond_false] at h
              obtain ⟨o, F', M', hK, hg⟩ := hrec _ _ _ _ _ _ h
              have main : ∀ {v : AV}, o.toExit ≠ .normal ∨ True → (match o with | .exit _ => False | _ => True) → resultA P fn F' M' = some v → ∀ w0 : Base, G w0.toWorld → w0.s0.length ≤ k0 → OpGoes P n0 w0 (.call c) dst F M (putA F dst v) M' := by
                intro v _ ho hres w0 hG hk σ a w hS ty pos after gd next Q hn
                have hfv := rep_ev hS.frame f
                rw [ef] at hfv
                obtain ⟨b, c', hbi, hbj, hf'⟩ := hfv
                have hrun : (execOp a.eval ⟨dst, .call c, ty, pos, after, gd⟩).run P w = .ok (.enter id (c.args.map a.eval ++ #[.pointer (some ⟨b.1, 0, none⟩), .pointer (some ⟨c'.1, 0, none⟩)])) w := by
                  have : (execOp a.eval ⟨dst, .call c, ty, pos, after, gd⟩).run P w = (callFunc id (c.args.map a.eval ++ #[.pointer (some ⟨b.1, 0, none⟩), .pointer (some ⟨c'.1, 0, none⟩)])).run P w := by
                    simp only [execOp, Go.resolve, hcal, hf', Deferred.ofValue]
                    simp [invoke]
                  rw [this]; exact enter_of hf hnm hb
                unfold Oper.wp
                rw [hrun]
                have hargs : (c.args.toList.map a.eval ++ [Value.pointer (some ⟨b.1, 0, none⟩), Value.pointer (some ⟨c'.1, 0, none⟩)]).toArray = c.args.map a.eval ++ #[.pointer (some ⟨b.1, 0, none⟩), .pointer (some ⟨c'.1, 0, none⟩)] := by
                  apply Array.ext'
                  simp
                rw [← hargs]
                have ha : RepF σ (c.args.toList.map (evA F)) (c.args.toList.map a.eval) := repF_map hS.frame _
                have fin : ∀ {σ' : List (Nat × Nat)} {a' : Act} {w' : World}, St σ' n0 ⟨w0.toWorld, σ⟩ F' M' a' w' →
                    a'.defers = [] ∧ ∃ u, (results fn a'.tmps).run P w' = .ok u w' ∧ next (a.put dst u) w' := by
                  intro σ' a' w' hs
                  obtain ⟨z, hz, hrz⟩ := results_sound (P := P) hs hres
                  obtain ⟨t, ht⟩ := hs.pre
                  refine ⟨hs.defers, z, hz, hn σ' _ _ ⟨by cases dst <;> exact hS.defers, rep_put ?_ dst hrz, hs.mem, hs.ext, hs.own, hS.pre.trans hs.pre⟩⟩
                  rw [← ht]; exact hS.frame.mono t
                have hstart : RepF σ (c.args.toList.map (evA F) ++ [.c (.ptr i 0), .c (.ptr j 0)] ++ List.replicate (fn.ntmps - (c.args.toList.length + 2)) undefA) (c.args.toList.map a.eval ++ [.pointer (some ⟨b.1, 0, none⟩), .pointer (some ⟨c'.1, 0, none⟩)] ++ List.replicate (fn.ntmps - (c.args.toList.length + 2)) undef) := by
                  have h1 : ∀ (n : Nat), RepF σ (List.replicate n undefA) (List.replicate n undef) := by
                    intro n
                    induction n with
                    | zero => exact .nil
                    | succ n ih => exact .cons rfl ih
                  have h2 : ∀ {l l' : List AV} {us us' : List Value}, RepF σ l us → RepF σ l' us' → RepF σ (l ++ l') (us ++ us') := by
                    intro l l' us us' h h'
                    induction h with
                    | nil => exact h'
                    | cons h _ ih => exact .cons h ih
                  exact h2 (h2 ha (.cons ⟨b, hbi, rfl⟩ (.cons ⟨c', hbj, rfl⟩ .nil))) (h1 _)
                refine (calls_of_wp (R := fun e w' => ∃ u, e = .returned u ∧ next (a.put dst u) w') hf hb (hg ⟨w0.toWorld, σ⟩ hG (by rw [hS.mem.len]; exact Nat.le_refl _) σ _ w ⟨rfl, ?_, hS.mem, hS.ext, hS.own, List.prefix_refl _⟩ _ fun σ' a' w' hs => ?_)).mono fun e w' ⟨u, he, hu⟩ => by subst he; exact hu
                · simpa using hstart
                · obtain ⟨g1, u, g2, g3⟩ := fin hs
                  cases o with
                  | norm => exact ⟨g1, u, g2, u, rfl, g3⟩
                  | ret => exact ⟨g1, u, g2, u, rfl, g3⟩
                  | exit id => exact ho.elim
              cases o with
              | exit id => cases hK
              | norm =>
                cases hres : resultA P fn F' M' with
                | none => simp [hres] at hK
                | some v => simp only [hres] at hK; exact ⟨_, _, hK, main (.inr trivial) trivial hres⟩
              | ret =>
                cases hres : resultA P fn F' M' with
                | none => simp [hres] at hK
                | some v => simp only [hres] at hK; exact ⟨_, _, hK, main (.inr trivial) trivial hres⟩
          · cases h
        · cases h
      · cases h
    · exact viaSt h
  · rename_i f first captured
    split at h
    · rename_i i j hf hc
      refine ⟨_, _, h, fun w0 _ _ σ a w hS => ?_⟩
      have h1 : first = #[] := by cases first; simp_all
      have h2 := repF_map hS.frame captured.toList
      rw [hc] at h2
      have h3 : ∃ x y, captured.toList.map a.eval = [x, y] ∧ Rep σ (.c (.ptr i 0)) x ∧ Rep σ (.c (.ptr j 0)) y := by
        generalize captured.toList.map a.eval = l at h2
        cases h2 with
        | cons q1 q2 => cases q2 with
          | cons q3 q4 => cases q4; exact ⟨_, _, rfl, q1, q3⟩
      obtain ⟨x, y, h4, ⟨b, hb, rfl⟩, ⟨c, hc', rfl⟩⟩ := h3
      have h5 : captured.map a.eval = #[.pointer (some ⟨b.1, 0, none⟩), .pointer (some ⟨c.1, 0, none⟩)] := by
        apply Array.ext'
        rw [Array.toList_map, h4]
      subst h1
      exact goes_val (v := .func (.func f) #[] #[.pointer (some ⟨b.1, 0, none⟩), .pointer (some ⟨c.1, 0, none⟩)]) (w' := w) (fun ty pos after gd => by simp [execOp, Instr.makeFunc, h5]) (hS.put dst (x := .c (.clo f i j)) ⟨b, c, hb, hc', rfl⟩ (Ext.refl _))
    · cases h
  · exact viaSt h

/-- A region, in the text's order. -/
def regK (P : Program) (E : List (Entry P)) (I : List FuncId) (N : List (EntryN P)) {G : World → Prop} (X : List (EntryW P G)) (n0 k0 : Nat) (rec : Nat → Code → List AV → List (List AC) → (Out → List AV → List (List AC) → Option R) → Option R) (ops : Array Oper) : List Oper → List AV → List (List AC) → (List AV → List (List AC) → Option R) → Option R
  | [], F, M, K => K F M
  | o :: rest, F, M, K =>
    match o.guard with
    | none => stK P E I N X n0 k0 rec o.op o.dst F M fun F M => regK P E I N X n0 k0 rec ops rest F M K
    | some (j, want) =>
      match (ops[j]?).bind (·.dst) with
      | none => none
      | some d =>
        match F[d]? with
        | some (.c (.sb b)) =>
          cond b
            (cond want (stK P E I N X n0 k0 rec o.op o.dst (F.set d (.c (.sb true))) M fun F M => regK P E I N X n0 k0 rec ops rest F M K)
              (regK P E I N X n0 k0 rec ops rest (putA (F.set d (.c (.sb true))) o.dst undefA) M K))
            (cond want (regK P E I N X n0 k0 rec ops rest (putA (F.set d (.c (.sb false))) o.dst undefA) M K)
              (stK P E I N X n0 k0 rec o.op o.dst (F.set d (.c (.sb false))) M fun F M => regK P E I N X n0 k0 rec ops rest F M K))
        | some (.c (.val (.tuple _))) => regK P E I N X n0 k0 rec ops rest (putA F o.dst undefA) M K
        | _ => none

theorem regK_sound {P : Program} {E : List (Entry P)} {I : List FuncId} {N : List (EntryN P)} {G : World → Prop} {X : List (EntryW P G)} {n0 k0 : Nat} {rec : Nat → Code → List AV → List (List AC) → (Out → List AV → List (List AC) → Option R) → Option R} {ops : Array Oper}
    (hmono : ∀ w w', G w → Ext w w' → G w') (hrec : ∀ (k : Nat) (c : Code) (F : List AV) (M : List (List AC)) (K : Out → List AV → List (List AC) → Option R) (r : R), rec k c F M K = some r → ∃ o F' M', K o F' M' = some r ∧ ∀ w0 : Base, G w0.toWorld → w0.s0.length ≤ k → CodeGoes P n0 w0 c F M o F' M')
    {K : List AV → List (List AC) → Option R} {r : R} : ∀ (l : List Oper) {F : List AV} {M : List (List AC)},
    regK P E I N X n0 k0 rec ops l F M K = some r → ∃ F' M', K F' M' = some r ∧ ∀ w0 : Base, G w0.toWorld → w0.s0.length ≤ k0 → ListGoes P n0 w0 ops l F M F' M'
  | [], F, M, h => ⟨F, M, h, fun _ _ _ _ _ _ hS _ hQ => hQ _ _ _ hS⟩
  | o :: rest, F, M, h => by
    have skip : ∀ {F1 : List AV}, (∀ (w0 : Base) σ a w, St σ n0 w0 F M a w → Region.wanted o (yielded ops a.tmps) = false ∧ St σ n0 w0 F1 M a w) → regK P E I N X n0 k0 rec ops rest (putA F1 o.dst undefA) M K = some r →
        ∃ F' M', K F' M' = some r ∧ ∀ w0 : Base, G w0.toWorld → w0.s0.length ≤ k0 → ListGoes P n0 w0 ops (o :: rest) F M F' M' := by
      intro F1 hy h1
      obtain ⟨F', M', hK, hw⟩ := regK_sound hmono hrec rest h1
      refine ⟨F', M', hK, fun w0 hG hk σ a w hS Q hQ => ?_⟩
      obtain ⟨hn, hS1⟩ := hy w0 σ a w hS
      unfold wpList
      rw [if_neg (by rw [hn]; decide)]
      exact hw w0 hG hk σ _ _ (hS1.put o.dst (x := undefA) (v := undef) rfl (Ext.refl _)) Q hQ
    have go : ∀ {F1 : List AV}, (∀ (w0 : Base) σ a w, St σ n0 w0 F M a w → Region.wanted o (yielded ops a.tmps) = true ∧ St σ n0 w0 F1 M a w) → (stK P E I N X n0 k0 rec o.op o.dst F1 M fun F M => regK P E I N X n0 k0 rec ops rest F M K) = some r →
        ∃ F' M', K F' M' = some r ∧ ∀ w0 : Base, G w0.toWorld → w0.s0.length ≤ k0 → ListGoes P n0 w0 ops (o :: rest) F M F' M' := by
      intro F1 hy h1
      obtain ⟨F2, M2, hK2, hop⟩ := stK_sound hmono hrec h1
      obtain ⟨F', M', hK, hrest⟩ := regK_sound hmono hrec rest hK2
      refine ⟨F', M', hK, fun w0 hG hk σ a w hS Q hQ => ?_⟩
      obtain ⟨hn, hS1⟩ := hy w0 σ a w hS
      unfold wpList
      rw [if_pos hn]
      exact .inl (hop w0 hG hk σ a w hS1 o.type o.pos o.after o.guard _ _ fun σ' a' w' hs => hrest w0 hG hk σ' a' w' hs Q hQ)
    simp only [regK] at h
    split at h
    · rename_i hg
      exact go (fun w0 σ a w hS => ⟨by simp [Region.wanted, hg], hS⟩) h
    · rename_i j want hg
      split at h
      · cases h
      · rename_i d hd
        split at h
        · rename_i b hb
          have hy : ∀ (w0 : Base) σ a w, St σ n0 w0 F M a w → yielded ops a.tmps j = some b := fun w0 σ a w hS => (yielded_of hS hd).1 b hb
          cases b with
          | true =>
            cases want with
            | true => exact go (fun w0 σ a w hS => ⟨by simp [Region.wanted, hg, hy w0 σ a w hS], hS.know hb⟩) h
            | false => exact skip (fun w0 σ a w hS => ⟨by simp [Region.wanted, hg, hy w0 σ a w hS], hS.know hb⟩) h
          | false =>
            cases want with
            | true => exact skip (fun w0 σ a w hS => ⟨by simp [Region.wanted, hg, hy w0 σ a w hS], hS.know hb⟩) h
            | false => exact go (fun w0 σ a w hS => ⟨by simp [Region.wanted, hg, hy w0 σ a w hS], hS.know hb⟩) h
        · rename_i vs hb
          exact skip (fun w0 σ a w hS => ⟨by simp [Region.wanted, hg, (yielded_of hS hd).2 vs hb], hS⟩) h
        · cases h

/-- A loop's run, told from the beginning of a round. -/
def wpIn (P : Program) (c : Code) (Q : Exit → Act → World → Prop) (a : Act) (w : World) : Prop :=
  ∀ (b : Frame) (k : List Item) (cs : List Frame), ∃ e a' w', Q e a' w' ∧ Arrives P (lone (b.at a (.code c :: .inLoop c :: k)) cs w) b k cs e a' w'
theorem wpIn.wp {P : Program} {c : Code} {Q : Exit → Act → World → Prop} {a : Act} {w : World} (h : wpIn P c Q a w) : (Code.loop c).wp P Q a w := by
  intro b k cs
  obtain ⟨e, a', w', hq, harr⟩ := h b k cs
  exact ⟨e, a', w', hq, .of_steps (.one step_loop) harr⟩
theorem wpIn_body {P : Program} {c : Code} {Q : Exit → Act → World → Prop} {a : Act} {w : World} (h : c.wp P (fun e a w => match e with | .normal => wpIn P c Q a w | e => Q e a w) a w) : wpIn P c Q a w := by
  intro b k cs
  obtain ⟨e, a1, w1, hq, harr⟩ := h b (.inLoop c :: k) cs
  cases e with
  | normal =>
    obtain ⟨e2, a2, w2, hq2, harr2⟩ := hq b k cs
    exact ⟨e2, a2, w2, hq2, .of_steps (Steps.trans harr (.one step_inLoop)) harr2⟩
  | exit id => exact ⟨_, a1, w1, hq, .pass (x := .inLoop c) rfl (fun _ _ => .inl (by simp)) harr⟩
  | goto l => exact ⟨_, a1, w1, hq, .pass (x := .inLoop c) rfl (fun _ _ => .inl (by simp)) harr⟩
  | ret => exact ⟨_, a1, w1, hq, .pass (x := .inLoop c) rfl (fun _ _ => .inl (by simp)) harr⟩
  | panic ch => exact ⟨_, a1, w1, hq, .pass (x := .inLoop c) rfl (fun _ _ => .inl (by simp)) harr⟩
  | outgrown => exact ⟨_, a1, w1, hq, .pass (x := .inLoop c) rfl (fun _ _ => .inl (by simp)) harr⟩
/-- From every state that fits, a loop leads to states that fit. -/
def InGoes (P : Program) (n0 : Nat) (w0 : Base) (x : Code) (F : List AV) (M : List (List AC)) (o : Out) (F' : List AV) (M' : List (List AC)) : Prop :=
  ∀ (σ : List (Nat × Nat)) (a : Act) (w : World), St σ n0 w0 F M a w → ∀ (Q : Exit → Act → World → Prop), (∀ σ' a' w', St σ' n0 w0 F' M' a' w' → Q o.toExit a' w') → wpIn P x Q a w
theorem InGoes.code {P : Program} {n0 : Nat} {w0 : Base} {x : Code} {F F' : List AV} {M M' : List (List AC)} {o : Out} (h : InGoes P n0 w0 x F M o F' M') : CodeGoes P n0 w0 (.loop x) F M o F' M' :=
  fun σ a w hS Q hQ => (h σ a w hS Q hQ).wp
theorem goes_round {P : Program} {n0 : Nat} {w0 : Base} {x : Code} {F F1 F' : List AV} {M M1 M' : List (List AC)} {o : Out} (h1 : CodeGoes P n0 w0 x F M .norm F1 M1) (h2 : InGoes P n0 w0 x F1 M1 o F' M') : InGoes P n0 w0 x F M o F' M' :=
  fun σ a w hS Q hQ => wpIn_body (h1 σ a w hS _ fun σ' a' w' hs => h2 σ' a' w' hs Q hQ)
theorem goes_last {P : Program} {n0 : Nat} {w0 : Base} {x : Code} {F F' : List AV} {M M' : List (List AC)} {o : Out} (ho : o ≠ .norm) (h1 : CodeGoes P n0 w0 x F M o F' M') : InGoes P n0 w0 x F M o F' M' :=
  fun σ a w hS Q hQ => wpIn_body (h1 σ a w hS _ fun σ' a' w' hs => by
    cases o with
    | norm => exact (ho rfl).elim
    | exit id => exact hQ _ _ _ hs
    | ret => exact hQ _ _ _ hs)

/-- A rule for loops: by the loop's number in the text, the frame and the memory; what is asked, the outcome. -/
abbrev LoopRule := Nat → List AV → List (List AC) → Option (Bool × Out × List AV × List (List AC))
/-- A number that no loop of a function bears. -/
def farOff : Nat := 1000000
def noRule : LoopRule := fun _ _ _ => none

def loopCount : Code → Nat
  | .seq x y => loopCount x + loopCount y
  | .cond _ x y => loopCount x + loopCount y
  | .block _ x => loopCount x
  | .loop x => loopCount x + 1
  | _ => 0
/-- The loops of a code in the text's order, an outer one ahead of those in it. -/
def loopsAll : Code → List Code
  | .seq x y => loopsAll x ++ loopsAll y
  | .cond _ x y => loopsAll x ++ loopsAll y
  | .block _ x => loopsAll x
  | .loop x => x :: loopsAll x
  | _ => []
theorem loopsAll_length : ∀ c, (loopsAll c).length = loopCount c
  | .seq x y => by simp [loopsAll, loopCount, loopsAll_length x, loopsAll_length y]
  | .cond _ x y => by simp [loopsAll, loopCount, loopsAll_length x, loopsAll_length y]
  | .block _ x => by simp [loopsAll, loopCount, loopsAll_length x]
  | .loop x => by simp [loopsAll, loopCount, loopsAll_length x]
  | .skip => rfl
  | .region .. => rfl
  | .rangeFunc .. => rfl
  | .exit .. => rfl
  | .ret => rfl
  | .scope .. => rfl
  | .label .. => rfl
  | .goto .. => rfl
  | .refuse .. => rfl
/-- The rules are right for the loops of a code whose first one bears the number i. -/
def LoopsOk (P : Program) (n0 : Nat) (G : World → Prop) (lp : LoopRule) (i : Nat) (c : Code) (k0 : Nat := n0) : Prop :=
  ∀ (j : Nat) (x : Code), (loopsAll c)[j]? = some x → ∀ F M o F' M', lp (i + j) F M = some (true, o, F', M') → ∀ w0 : Base, G w0.toWorld → w0.s0.length ≤ k0 → InGoes P n0 w0 x F M o F' M'
theorem LoopsOk.left {P : Program} {n0 k0 : Nat} {G : World → Prop} {lp : LoopRule} {i : Nat} {c x y : Code} (h : LoopsOk P n0 G lp i c k0) (hc : loopsAll c = loopsAll x ++ loopsAll y) : LoopsOk P n0 G lp i x k0 := by
  intro j z hz
  exact h j z (by rw [hc, List.getElem?_append_left (List.getElem?_eq_some_iff.1 hz).1]; exact hz)
theorem LoopsOk.right {P : Program} {n0 k0 : Nat} {G : World → Prop} {lp : LoopRule} {i : Nat} {c x y : Code} (h : LoopsOk P n0 G lp i c k0) (hc : loopsAll c = loopsAll x ++ loopsAll y) : LoopsOk P n0 G lp (i + loopCount x) y k0 := by
  intro j z hz F M o F' M' hl
  refine h (loopCount x + j) z ?_ F M o F' M' (by rw [← Nat.add_assoc]; exact hl)
  rw [hc, List.getElem?_append_right (by rw [loopsAll_length]; omega), loopsAll_length, Nat.add_sub_cancel_left]
  exact hz
theorem LoopsOk.body {P : Program} {n0 k0 : Nat} {G : World → Prop} {lp : LoopRule} {i : Nat} {x : Code} (h : LoopsOk P n0 G lp i (.loop x) k0) : LoopsOk P n0 G lp (i + 1) x k0 := by
  intro j z hz F M o F' M' hl
  exact h (j + 1) z (by simpa [loopsAll] using hz) F M o F' M' (by rw [show i + (j + 1) = i + 1 + j by omega]; exact hl)
theorem loopsOk_far {P : Program} {n0 k0 : Nat} {G : World → Prop} {lp : LoopRule} (hf : ∀ j, farOff ≤ j → ∀ F M, lp j F M = none) (c : Code) : LoopsOk P n0 G lp farOff c k0 := by
  intro j z _ F M o F' M' hl
  rw [hf _ (Nat.le_add_right _ _)] at hl; cases hl
/-- What is asked of a region that draws its order. -/
def drawB (P : Program) (ops : Array Oper) : Bool := P.follows .mixedOrders && (stillOps ops.toList && (Region.lexB .any ops && memLexB .any ops))
/-- A code's regions that draw their order. -/
def drawnIn : Code → List (Nat × Array Oper)
  | .seq x y => drawnIn x ++ drawnIn y
  | .cond _ x y => drawnIn x ++ drawnIn y
  | .block _ x => drawnIn x
  | .loop x => drawnIn x
  | .region id ops true => [(id, ops)]
  | _ => []
/-- The regions in D have been looked at. -/
def DrawOk (P : Program) (D : List Nat) (i : Nat) (c : Code) : Prop := i < farOff → ∀ r ∈ drawnIn c, D.contains r.1 = true → drawB P r.2 = true
theorem DrawOk.sub {P : Program} {D : List Nat} {i j : Nat} {c x : Code} (h : DrawOk P D i c) (hi : i ≤ j) (hx : ∀ r ∈ drawnIn x, r ∈ drawnIn c) : DrawOk P D j x := fun hj r hr hd => h (Nat.lt_of_le_of_lt hi hj) r (hx r hr) hd
theorem drawOk_far {P : Program} {D : List Nat} (c : Code) : DrawOk P D farOff c := fun h => absurd h (Nat.lt_irrefl _)
theorem drawOk_nil {P : Program} (i : Nat) (c : Code) : DrawOk P [] i c := fun _ _ _ h => by cases h
theorem loopsOk_none {P : Program} {n0 k0 : Nat} {G : World → Prop} (i : Nat) (c : Code) : LoopsOk P n0 G noRule i c k0 := fun _ _ _ _ _ _ _ _ hl => by cases hl

/-- Code; n rounds deep at most; calls of the functions in I run in place. -/
def exK (P : Program) (E : List (Entry P)) (I : List FuncId) (N : List (EntryN P)) {G : World → Prop} (X : List (EntryW P G)) (n0 : Nat) (lp : LoopRule) (D : List Nat) : Nat → Nat → Nat → Code → List AV → List (List AC) → (Out → List AV → List (List AC) → Option R) → Option R
  | 0, _, _, _, _, _, _ => none
  | n + 1, i, k0, c, F, M, K =>
    match c with
    | .skip => K .norm F M
    | .region id ops draw => cond draw (cond (decide (i < farOff) && D.contains id) (regA P E n0 ops ops.toList F M fun F M => K .norm F M) (cond (P.follows .mixedOrders && (stillOps ops.toList && (Region.lexB .any ops && memLexB .any ops))) (regA P E n0 ops ops.toList F M fun F M => K .norm F M) (cond (ghostsB P ops) (regG P E ops F M fun F M => K .norm F M) none)))
        (regK P E I N X n0 k0 (fun k c F M K => exK P E I N X n0 lp D n farOff k c F M K) ops ops.toList F M fun F M => K .norm F M)
    | .seq x y => exK P E I N X n0 lp D n i k0 x F M fun o F M =>
      match o with
      | .norm => exK P E I N X n0 lp D n (i + loopCount x) k0 y F M K
      | .exit id => K (.exit id) F M
      | .ret => K .ret F M
    | .cond (.tmp t) x y =>
      match F[t]? with
      | some (.c (.sb b)) => cond b (exK P E I N X n0 lp D n i k0 x (F.set t (.c (.sb true))) M K) (exK P E I N X n0 lp D n (i + loopCount x) k0 y (F.set t (.c (.sb false))) M K)
      | _ => none
    | .block id x => exK P E I N X n0 lp D n i k0 x F M fun o F M =>
      match o with
      | .norm => K .norm F M
      | .exit i => cond (i == id) (K .norm F M) (K (.exit i) F M)
      | .ret => K .ret F M
    | .loop x => match lp i F M with
      | some (q, o, F', M') => cond q (K o F' M') none
      | none => exK P E I N X n0 lp D n (i + 1) k0 x F M fun o F M =>
        match o with
        | .norm => exK P E I N X n0 lp D n i k0 (.loop x) F M K
        | .exit id => K (.exit id) F M
        | .ret => K .ret F M
    | .exit id => K (.exit id) F M
    | .ret => K .ret F M
    | _ => none

theorem exK_sound {P : Program} {E : List (Entry P)} {I : List FuncId} {N : List (EntryN P)} {G : World → Prop} {X : List (EntryW P G)} {n0 : Nat} {lp : LoopRule} {D : List Nat} (hfar : ∀ j, farOff ≤ j → ∀ F M, lp j F M = none) (hmono : ∀ w w', G w → Ext w w' → G w') : ∀ (n : Nat),
    (∀ (i k0 : Nat) (c : Code) (F : List AV) (M : List (List AC)) (K : Out → List AV → List (List AC) → Option R) (r : R), LoopsOk P n0 G lp i c k0 → DrawOk P D i c → exK P E I N X n0 lp D n i k0 c F M K = some r → ∃ o F' M', K o F' M' = some r ∧ ∀ w0 : Base, G w0.toWorld → w0.s0.length ≤ k0 → CodeGoes P n0 w0 c F M o F' M') ∧
    (∀ (i k0 : Nat) (x : Code) (F : List AV) (M : List (List AC)) (K : Out → List AV → List (List AC) → Option R) (r : R), LoopsOk P n0 G lp i (.loop x) k0 → DrawOk P D i x → exK P E I N X n0 lp D n i k0 (.loop x) F M K = some r → ∃ o F' M', K o F' M' = some r ∧ ∀ w0 : Base, G w0.toWorld → w0.s0.length ≤ k0 → InGoes P n0 w0 x F M o F' M')
  | 0 => ⟨(fun _ _ _ _ _ _ _ _ _ h => by cases h), (fun _ _ _ _ _ _ _ _ _ h => by cases h)⟩
  | n + 1 => by
    obtain ⟨ih1, ih2⟩ := exK_sound hfar hmono n
    have hloop : ∀ (i k0 : Nat) (x : Code) (F : List AV) (M : List (List AC)) (K : Out → List AV → List (List AC) → Option R) (r : R), LoopsOk P n0 G lp i (.loop x) k0 → DrawOk P D i x → exK P E I N X n0 lp D (n + 1) i k0 (.loop x) F M K = some r → ∃ o F' M', K o F' M' = some r ∧ ∀ w0 : Base, G w0.toWorld → w0.s0.length ≤ k0 → InGoes P n0 w0 x F M o F' M' := by
      intro i k0 x F M K r hl hd h
      simp only [exK] at h
      split at h
      · rename_i q o F' M' hlp
        cases q with
        | false => cases h
        | true => exact ⟨o, F', M', h, fun w0 hG hk => hl 0 x rfl F M o F' M' hlp w0 hG hk⟩
      · obtain ⟨o, F1, M1, hK1, hx⟩ := ih1 (i + 1) k0 x F M _ r hl.body (hd.sub (Nat.le_succ _) fun _ h => h) h
        cases o with
        | norm =>
          obtain ⟨o, F', M', hK, hN⟩ := ih2 i k0 x F1 M1 K r hl hd hK1
          exact ⟨o, F', M', hK, fun w0 hG hk => goes_round (hx w0 hG hk) (hN w0 hG hk)⟩
        | exit id => exact ⟨.exit id, F1, M1, hK1, fun w0 hG hk => goes_last (fun h => by cases h) (hx w0 hG hk)⟩
        | ret => exact ⟨.ret, F1, M1, hK1, fun w0 hG hk => goes_last (fun h => by cases h) (hx w0 hG hk)⟩
    refine ⟨fun i k0 c F M K r hl hd h => ?_, hloop⟩
    cases c with
    | skip => exact ⟨.norm, F, M, h, fun w0 _ _ σ a w hS Q hQ => wp_skip (hQ σ a w hS)⟩
    | region id ops draw =>
      simp only [exK] at h
      cases draw with
      | true =>
        simp only [cond_true] at h
        have go : drawB P ops = true → regA P E n0 ops ops.toList F M (fun F M => K .norm F M) = some r → ∃ o F' M', K o F' M' = some r ∧ ∀ w0 : Base, G w0.toWorld → w0.s0.length ≤ k0 → CodeGoes P n0 w0 (.region id ops true) F M o F' M' := by
          intro hp h
          unfold drawB at hp
          simp only [Bool.and_eq_true] at hp
          obtain ⟨F', M', hK, hg⟩ := regM_all hp.1 hp.2.1 hp.2.2.1 hp.2.2.2 h
          exact ⟨.norm, F', M', hK, fun w0 _ _ => hg w0⟩
        cases hD : (decide (i < farOff) && D.contains id) with
        | true =>
          rw [hD] at h
          simp only [Bool.and_eq_true, decide_eq_true_eq] at hD
          exact go (hd hD.1 (id, ops) (List.mem_singleton.2 rfl) hD.2) h
        | false =>
          rw [hD] at h
          simp only [cond_false] at h
          cases hp : (P.follows .mixedOrders && (stillOps ops.toList && (Region.lexB .any ops && memLexB .any ops))) with
          | false =>
            rw [hp] at h
            simp only [cond_false] at h
            cases hgb : ghostsB P ops with
            | false => rw [hgb] at h; cases h
            | true =>
              rw [hgb] at h
              obtain ⟨F', M', hK, hg⟩ := regG_sound (n0 := n0) (id := id) hgb h
              exact ⟨.norm, F', M', hK, fun w0 _ _ => hg w0⟩
          | true => rw [hp] at h; exact go hp h
      | false =>
        simp only [cond_false] at h
        obtain ⟨F', M', hK, hl⟩ := regK_sound hmono (fun k c F M K r h => ih1 farOff k c F M K r (loopsOk_far hfar c) (drawOk_far c) h) ops.toList h
        exact ⟨.norm, F', M', hK, fun w0 hG hk σ a w hS Q hQ => wp_region_list (hl w0 hG hk σ a w hS Q hQ)⟩
    | seq x y =>
      simp only [exK] at h
      obtain ⟨o, F1, M1, hK1, hx⟩ := ih1 i k0 x F M _ r (hl.left rfl) (hd.sub (Nat.le_refl _) fun _ h => List.mem_append_left _ h) h
      cases o with
      | norm =>
        obtain ⟨o, F', M', hK, hy⟩ := ih1 (i + loopCount x) k0 y F1 M1 K r (hl.right rfl) (hd.sub (Nat.le_add_right _ _) fun _ h => List.mem_append_right _ h) hK1
        exact ⟨o, F', M', hK, fun w0 hG hk σ a w hS Q hQ => wp_seq (hx w0 hG hk σ a w hS _ fun σ' a' w' hs => hy w0 hG hk σ' a' w' hs Q hQ)⟩
      | exit id => exact ⟨.exit id, F1, M1, hK1, fun w0 hG hk σ a w hS Q hQ => wp_seq (hx w0 hG hk σ a w hS _ fun σ' a' w' hs => hQ σ' a' w' hs)⟩
      | ret => exact ⟨.ret, F1, M1, hK1, fun w0 hG hk σ a w hS Q hQ => wp_seq (hx w0 hG hk σ a w hS _ fun σ' a' w' hs => hQ σ' a' w' hs)⟩
    | cond c x y =>
      cases c with
      | tmp t =>
        simp only [exK] at h
        split at h
        · rename_i b hb
          have hev : ∀ (w0 : Base) σ a w, St σ n0 w0 F M a w → a.eval (.tmp t) = .bool b := by
            intro w0 σ a w hS
            obtain ⟨v, hv, hr⟩ := hS.frame.get? hb
            have hr' : v = .bool b := hr
            subst hr'
            have hv' : a.tmps[t]? = some (.bool b) := by simpa using hv
            simp [Act.eval, Array.getD_eq_getD_getElem?, hv']
          cases b with
          | true =>
            obtain ⟨o, F', M', hK, hx⟩ := ih1 i k0 x _ M K r (hl.left rfl) (hd.sub (Nat.le_refl _) fun _ h => List.mem_append_left _ h) h
            exact ⟨o, F', M', hK, fun w0 hG hk σ a w hS Q hQ => wp_cond_true (hev w0 σ a w hS) (hx w0 hG hk σ a w (hS.know hb) Q hQ)⟩
          | false =>
            obtain ⟨o, F', M', hK, hx⟩ := ih1 (i + loopCount x) k0 y _ M K r (hl.right rfl) (hd.sub (Nat.le_add_right _ _) fun _ h => List.mem_append_right _ h) h
            exact ⟨o, F', M', hK, fun w0 hG hk σ a w hS Q hQ => wp_cond_false (hev w0 σ a w hS) (hx w0 hG hk σ a w (hS.know hb) Q hQ)⟩
        · cases h
      | const v => cases h
      | global g => cases h
      | func f => cases h
    | block id x =>
      simp only [exK] at h
      obtain ⟨o, F1, M1, hK1, hx⟩ := ih1 i k0 x F M _ r hl hd h
      cases o with
      | norm => exact ⟨.norm, F1, M1, hK1, fun w0 hG hk σ a w hS Q hQ => wp_block (hx w0 hG hk σ a w hS _ fun σ' a' w' hs => hQ σ' a' w' hs)⟩
      | exit i =>
        by_cases hi : i = id
        · subst hi
          simp only [beq_self_eq_true, cond_true] at hK1
          exact ⟨.norm, F1, M1, hK1, fun w0 hG hk σ a w hS Q hQ => wp_block (hx w0 hG hk σ a w hS _ fun σ' a' w' hs => by simp only [Out.toExit, Exit.inBlock, if_true]; exact hQ σ' a' w' hs)⟩
        · have hb : (i == id) = false := by simpa using hi
          simp only [hb, cond_false] at hK1
          exact ⟨.exit i, F1, M1, hK1, fun w0 hG hk σ a w hS Q hQ => wp_block (hx w0 hG hk σ a w hS _ fun σ' a' w' hs => by simp only [Out.toExit, Exit.inBlock, hi, if_false]; exact hQ σ' a' w' hs)⟩
      | ret => exact ⟨.ret, F1, M1, hK1, fun w0 hG hk σ a w hS Q hQ => wp_block (hx w0 hG hk σ a w hS _ fun σ' a' w' hs => hQ σ' a' w' hs)⟩
    | loop x =>
      obtain ⟨o, F', M', hK, hN⟩ := hloop i k0 x F M K r hl hd h
      exact ⟨o, F', M', hK, fun w0 hG hk => (hN w0 hG hk).code⟩
    | exit id => exact ⟨.exit id, F, M, h, fun w0 _ _ σ a w hS Q hQ => wp_exit (hQ σ a w hS)⟩
    | ret => exact ⟨.ret, F, M, h, fun w0 _ _ σ a w hS Q hQ => wp_ret (hQ σ a w hS)⟩
    | _ => cases h

theorem calls_of_goesG {w : World} {P : Program} {f : FuncId} {fn : Func} {c : Code} (hf : P.funcs[f]? = some fn) (hb : fn.body = some c) {args : List AV} {r : AV} {o : Out} {F' : List AV} {M' : List (List AC)} (hK : (match o with
      | .exit _ => none
      | _ => match resultA P fn F' M' with
        | some v => cond (plainA v) (some v) none
        | none => none) = some r) (h : CodeGoes P 0 ⟨w, []⟩ c (args ++ List.replicate (fn.ntmps - args.length) undefA) [] o F' M')
    (hp : args.all plainA = true) {σ : List (Nat × Nat)} {vs : List Value} (ha0 : RepF σ args vs) : Calls P f vs.toArray w fun e w' => ∃ v, e = .returned v ∧ Rep σ r v ∧ Ext w w' := by
  have ha : RepF [] args vs := plainF hp ha0
  have fin : ∀ (hK' : (match resultA P fn F' M' with | some v => cond (plainA v) (some v) none | none => none) = some r) {σ' : List (Nat × Nat)} {a' : Act} {w' : World} (hs : St σ' 0 ⟨w, []⟩ F' M' a' w'),
      a'.defers = [] ∧ ∃ v, (results fn a'.tmps).run P w' = .ok v w' ∧ ∃ u, (Ending.returned v) = .returned u ∧ Rep σ r u ∧ Ext w w' := by
    intro hK' σ' a' w' hs
    cases hr : resultA P fn F' M' with
    | none => simp [hr] at hK'
    | some v =>
      simp only [hr] at hK'
      cases hp : plainA v with
      | false => simp [hp] at hK'
      | true =>
        simp only [hp, cond_true, Option.some.injEq] at hK'
        subst hK'
        obtain ⟨z, hz, hrz⟩ := results_sound (P := P) hs hr
        exact ⟨hs.defers, z, hz, z, rfl, plain_rep hp hrz, hs.ext⟩
  refine calls_of_wp hf hb (h [] _ w ⟨rfl, ?_, MemOk.nil w, Ext.refl _, fun id b hid hbb => (by cases hbb), List.prefix_refl _⟩ _ fun σ' a' w' hs => ?_)
  · have hlen := ha.length
    have h1 : ∀ (n : Nat), RepF [] (List.replicate n undefA) (List.replicate n undef) := by
      intro n
      induction n with
      | zero => exact .nil
      | succ n ih => exact .cons rfl ih
    have h2 : ∀ {l l' : List AV} {us us' : List Value}, RepF [] l us → RepF [] l' us' → RepF [] (l ++ l') (us ++ us') := by
      intro l l' us us' h h'
      induction h with
      | nil => exact h'
      | cons h _ ih => exact .cons h ih
    simpa [hlen] using h2 ha (h1 (fn.ntmps - vs.length))
  · cases o with
    | norm => exact fin hK hs
    | ret => exact fin hK hs
    | exit id => cases hK

/-- A function's answer, with the calls of I run in place. -/
def runK (P : Program) (E : List (Entry P)) (I : List FuncId) (N : List (EntryN P)) {G : World → Prop} (X : List (EntryW P G)) (lp : LoopRule) (D : List Nat) (fn : Func) (args : List AV) : Option AV :=
  match fn.body with
  | none => none
  | some c => exK P E I N X 0 lp D 4000 0 0 c (args ++ List.replicate (fn.ntmps - args.length) undefA) [] fun o F M =>
    match o with
    | .exit _ => none
    | _ => match resultA P fn F M with
      | some v => cond (plainA v) (some v) none
      | none => none

theorem runK_sound {P : Program} {lp : LoopRule} {D : List Nat} {E : List (Entry P)} {I : List FuncId} {N : List (EntryN P)} {G : World → Prop} {X : List (EntryW P G)} {f : FuncId} {fn : Func} (hf : P.funcs[f]? = some fn) {args : List AV} {r : AV} (hp : args.all plainA = true) (h : runK P E I N X lp D fn args = some r)
    {σ : List (Nat × Nat)} {vs : List Value} {w : World} (hfar : ∀ j, farOff ≤ j → ∀ F M, lp j F M = none) (hl : LoopsOk P 0 G lp 0 (fn.body.getD .skip)) (hd : DrawOk P D 0 (fn.body.getD .skip)) (hmono : ∀ w w', G w → Ext w w' → G w') (hG : G w) (ha : RepF σ args vs) :
    Calls P f vs.toArray w fun e w' => ∃ v, e = .returned v ∧ Rep σ r v ∧ Ext w w' := by
  unfold runK at h
  split at h
  · cases h
  · rename_i c hb
    obtain ⟨o, F', M', hK, hg⟩ := (exK_sound hfar hmono 4000).1 0 0 c _ [] _ r (by rw [hb] at hl; exact hl) (by rw [hb] at hd; exact hd) h
    exact calls_of_goesG hf hb hK (hg ⟨w, []⟩ hG (Nat.le_refl _)) hp ha

end Go.Proofs.Ytlpahmefebgdlaa.Fx
/- Entries by the executor with loop rules. No condition. -/
namespace Go.Proofs.Ytlpahmefebgdlaa.Fx
open Go Go.RowKit

/-- A function's answer, of arguments that may lead into known blocks. -/
def runKM (P : Program) (E : List (Entry P)) (I : List FuncId) (N : List (EntryN P)) {G : World → Prop} (X : List (EntryW P G)) (lp : LoopRule) (fn : Func) (args : List AV) (M : List (List AC)) : Option AV :=
  match fn.body with
  | none => none
  | some c => exK P E I N X M.length lp [] 4000 0 M.length c (args ++ List.replicate (fn.ntmps - args.length) undefA) M fun o F M' =>
    match o with
    | .exit _ => none
    | _ => match resultA P fn F M' with
      | some v => cond (plainA v) (some v) none
      | none => none

theorem runKM_calls {P : Program} {E : List (Entry P)} {I : List FuncId} {N : List (EntryN P)} {G : World → Prop} {X : List (EntryW P G)} {lp : LoopRule} {f : FuncId} {fn : Func} (hf : P.funcs[f]? = some fn) {args : List AV} {M : List (List AC)} {r : AV}
    (hfar : ∀ j, farOff ≤ j → ∀ F M, lp j F M = none) (hl : LoopsOk P M.length G lp 0 (fn.body.getD .skip)) (hmono : ∀ w w', G w → Ext w w' → G w')
    (h : runKM P E I N X lp fn args M = some r) {σ : List (Nat × Nat)} {vs : List Value} {w : World} (hG : G w) (hM : MemOk σ M w) (ha : RepF σ args vs) :
    Calls P f vs.toArray w fun e w' => ∃ v, e = .returned v ∧ (∀ τ, Rep τ r v) ∧ Ext w w' := by
  unfold runKM at h
  split at h
  · cases h
  · rename_i c hb
    rw [hb] at hl
    obtain ⟨o, F', M', hK, hg⟩ := (exK_sound hfar hmono 4000).1 0 M.length c _ M _ r hl (drawOk_nil 0 c) h
    have hlenM := hM.len
    have h := hg ⟨w, σ⟩ hG (by show σ.length ≤ M.length; omega)
    have fin : ∀ (hK' : (match resultA P fn F' M' with | some v => cond (plainA v) (some v) none | none => none) = some r) {σ' : List (Nat × Nat)} {a' : Act} {w' : World} (hs : St σ' M.length ⟨w, σ⟩ F' M' a' w'),
        a'.defers = [] ∧ ∃ v, (results fn a'.tmps).run P w' = .ok v w' ∧ ∃ u, (Ending.returned v) = .returned u ∧ (∀ τ, Rep τ r u) ∧ Ext w w' := by
      intro hK' σ' a' w' hs
      cases hr : resultA P fn F' M' with
      | none => simp [hr] at hK'
      | some v =>
        simp only [hr] at hK'
        cases hp : plainA v with
        | false => simp [hp] at hK'
        | true =>
          simp only [hp, cond_true, Option.some.injEq] at hK'
          subst hK'
          obtain ⟨z, hz, hrz⟩ := results_sound (P := P) hs hr
          exact ⟨hs.defers, z, hz, z, rfl, fun τ => plain_rep hp hrz, hs.ext⟩
    refine calls_of_wp hf hb (h σ _ w ⟨rfl, ?_, hM, Ext.refl _, fun id b hid hbb => ?_, List.prefix_refl _⟩ _ fun σ' a' w' hs => ?_)
    · have hlen := ha.length
      have h1 : ∀ (n : Nat), RepF σ (List.replicate n undefA) (List.replicate n undef) := by
        intro n
        induction n with
        | zero => exact .nil
        | succ n ih => exact .cons rfl ih
      have h2 : ∀ {l l' : List AV} {us us' : List Value}, RepF σ l us → RepF σ l' us' → RepF σ (l ++ l') (us ++ us') := by
        intro l l' us us' h h'
        induction h with
        | nil => exact h'
        | cons h _ ih => exact .cons h ih
      simpa [hlen] using h2 ha (h1 (fn.ntmps - vs.length))
    · have := (List.getElem?_eq_some_iff.1 hbb).1
      omega
    · cases o with
      | norm => exact fin hK hs
      | ret => exact fin hK hs
      | exit id => cases hK

def anyW : World → Prop := fun _ => True
theorem anyW_mono : ∀ w w', anyW w → Ext w w' → anyW w' := fun _ _ _ _ => trivial

/-- An entry's proof. -/
theorem givesM {P : Program} {E : List (Entry P)} {I : List FuncId} {N : List (EntryN P)} {lp : LoopRule} {f : FuncId} {fn : Func} (hf : P.funcs[f]? = some fn) (hn : (fn.name == "runtime.NumGoroutine") = false) {args : List AV} {r : AV}
    (hfar : ∀ j, farOff ≤ j → ∀ F M, lp j F M = none) (hl : LoopsOk P 0 anyW lp 0 (fn.body.getD .skip)) (hp : args.all plainA = true)
    (h : runKM P E I N (G := anyW) [] lp fn args [] = some r) {σ : List (Nat × Nat)} {vs : List Value} {w : World} (ha : RepF σ args vs) : Gives P f vs.toArray w fun v w' => Rep σ r v ∧ Ext w w' := by
  have hb : ∃ c, fn.body = some c := by
    unfold runKM at h
    split at h
    · cases h
    · exact ⟨_, by assumption⟩
  obtain ⟨c, hb⟩ := hb
  exact .inr ⟨enter_of hf hn hb, (runKM_calls (M := []) hf hfar hl anyW_mono h (w := w) trivial (MemOk.nil w) (plainF (τ := []) hp ha)).mono fun e w' ⟨v, he, hv, hw⟩ => ⟨v, he, hv σ, hw⟩⟩

/-- An entry's proof, for one slice and arguments without pointers. -/
theorem givesM_slc {P : Program} {E : List (Entry P)} {I : List FuncId} {N : List (EntryN P)} {lp : LoopRule} {f : FuncId} {fn : Func} (hf : P.funcs[f]? = some fn) (hn : (fn.name == "runtime.NumGoroutine") = false) {cs : List AC} {n : Nat} {rest : List AV} {r : AV}
    (hfar : ∀ j, farOff ≤ j → ∀ F M, lp j F M = none) (hl : LoopsOk P 1 anyW lp 0 (fn.body.getD .skip))
    (h : runKM P E I N (G := anyW) [] lp fn (.c (.slc 0 n) :: rest) [cs] = some r) (hp : rest.all plainA = true) (hc : cs.all plainC = true) {σ : List (Nat × Nat)} {M : List (List AC)} {id : Nat} {vs : List Value} {w : World}
    (hM : MemOk σ M w) (hid : M[id]? = some cs) (ha : RepF σ (.c (.slc id n) :: rest) vs) : Gives P f vs.toArray w fun v w' => Rep σ r v ∧ Ext w w' := by
  have hb : ∃ c, fn.body = some c := by
    unfold runKM at h
    split at h
    · cases h
    · exact ⟨_, by assumption⟩
  obtain ⟨c, hb⟩ := hb
  cases ha with
  | cons h1 h2 =>
    obtain ⟨b, hbb, hle, hv⟩ := h1
    have hM' : MemOk [b] [cs] w := ⟨rfl, by simp, fun i b' cs' hb' hc' => by
      cases i with
      | zero =>
        cases hb'; cases hc'
        obtain ⟨vs, e, hw, ⟨k, hl⟩, hs⟩ := hM.at_ id b cs hbb hid
        exact ⟨vs, e, hw, ⟨k, plainL_rep (by simp [hc]; right; rfl) hl⟩, hs⟩
      | succ i => cases hb'⟩
    have ha' : RepF [b] (.c (.slc 0 n) :: rest) _ := .cons ⟨b, rfl, hle, hv⟩ (plainF hp h2)
    exact .inr ⟨enter_of hf hn hb, (runKM_calls (M := [cs]) hf hfar hl anyW_mono h (w := w) trivial hM' ha').mono fun e w' ⟨v, he, hv, hw⟩ => ⟨v, he, hv σ, hw⟩⟩

theorem noRule_far : ∀ j, farOff ≤ j → ∀ F M, noRule j F M = none := fun _ _ _ _ => rfl

-- the shapes of functions
theorem okMD {P : Program} {E : List (Entry P)} {I : List FuncId} {N : List (EntryN P)} {lp : LoopRule} {f : FuncId} {fn : Func} {g : F64 → Bool × AV} (hf : P.funcs[f]? = some fn) (hn : (fn.name == "runtime.NumGoroutine") = false)
    (hfar : ∀ j, farOff ≤ j → ∀ F M, lp j F M = none) (hl : LoopsOk P 0 anyW lp 0 (fn.body.getD .skip))
    (h : ∀ (x0 : F64), (g x0).1 = true → runKM P E I N (G := anyW) [] lp fn [.c (.fl .f64 x0)] [] = some (g x0).2) : EOk P f (shD g) := by
  intro args M r hr σ vs w _ ha
  unfold shD at hr
  split at hr
  · rename_i x0
    have hr' := Option.some.inj hr
    have h1 := h x0 (by rw [hr'])
    rw [hr'] at h1
    exact givesM hf hn hfar hl rfl h1 ha
  · cases hr
theorem okMS {P : Program} {E : List (Entry P)} {I : List FuncId} {N : List (EntryN P)} {lp : LoopRule} {f : FuncId} {fn : Func} {g : F32 → Bool × AV} (hf : P.funcs[f]? = some fn) (hn : (fn.name == "runtime.NumGoroutine") = false)
    (hfar : ∀ j, farOff ≤ j → ∀ F M, lp j F M = none) (hl : LoopsOk P 0 anyW lp 0 (fn.body.getD .skip))
    (h : ∀ (x0 : F32), (g x0).1 = true → runKM P E I N (G := anyW) [] lp fn [.c (.fl .f32 x0)] [] = some (g x0).2) : EOk P f (shS g) := by
  intro args M r hr σ vs w _ ha
  unfold shS at hr
  split at hr
  · rename_i x0
    have hr' := Option.some.inj hr
    have h1 := h x0 (by rw [hr'])
    rw [hr'] at h1
    exact givesM hf hn hfar hl rfl h1 ha
  · cases hr
theorem okMSSS {P : Program} {E : List (Entry P)} {I : List FuncId} {N : List (EntryN P)} {lp : LoopRule} {f : FuncId} {fn : Func} {g : F32 → F32 → F32 → Bool × AV} (hf : P.funcs[f]? = some fn) (hn : (fn.name == "runtime.NumGoroutine") = false)
    (hfar : ∀ j, farOff ≤ j → ∀ F M, lp j F M = none) (hl : LoopsOk P 0 anyW lp 0 (fn.body.getD .skip))
    (h : ∀ (x0 x1 x2 : F32), (g x0 x1 x2).1 = true → runKM P E I N (G := anyW) [] lp fn [.c (.fl .f32 x0), .c (.fl .f32 x1), .c (.fl .f32 x2)] [] = some (g x0 x1 x2).2) : EOk P f (shSSS g) := by
  intro args M r hr σ vs w _ ha
  unfold shSSS at hr
  split at hr
  · rename_i x0 x1 x2
    have hr' := Option.some.inj hr
    have h1 := h x0 x1 x2 (by rw [hr'])
    rw [hr'] at h1
    exact givesM hf hn hfar hl rfl h1 ha
  · cases hr
theorem okMSSSS {P : Program} {E : List (Entry P)} {I : List FuncId} {N : List (EntryN P)} {lp : LoopRule} {f : FuncId} {fn : Func} {g : F32 → F32 → F32 → F32 → Bool × AV} (hf : P.funcs[f]? = some fn) (hn : (fn.name == "runtime.NumGoroutine") = false)
    (hfar : ∀ j, farOff ≤ j → ∀ F M, lp j F M = none) (hl : LoopsOk P 0 anyW lp 0 (fn.body.getD .skip))
    (h : ∀ (x0 x1 x2 x3 : F32), (g x0 x1 x2 x3).1 = true → runKM P E I N (G := anyW) [] lp fn [.c (.fl .f32 x0), .c (.fl .f32 x1), .c (.fl .f32 x2), .c (.fl .f32 x3)] [] = some (g x0 x1 x2 x3).2) : EOk P f (shSSSS g) := by
  intro args M r hr σ vs w _ ha
  unfold shSSSS at hr
  split at hr
  · rename_i x0 x1 x2 x3
    have hr' := Option.some.inj hr
    have h1 := h x0 x1 x2 x3 (by rw [hr'])
    rw [hr'] at h1
    exact givesM hf hn hfar hl rfl h1 ha
  · cases hr

-- loops by rounds
theorem InGoes.weaken {P : Program} {n0 : Nat} {w0 : Base} {x : Code} {F F' : List AV} {M M' : List (List AC)} {o : Out} (m : List Bool) (h : InGoes P n0 w0 x (Fx.weaken m F) M o F' M') : InGoes P n0 w0 x F M o F' M' :=
  fun σ a w hS Q hQ => h σ a w (hS.weaken m) Q hQ
/-- A loop's number k of a function. -/
def loopN (k : Nat) (fn : Func) : Code := (loopsAll (fn.body.getD .skip)).getD k .skip
end Go.Proofs.Ytlpahmefebgdlaa.Fx
/- Contracts: ships that are moved. No condition. -/
namespace Go.Proofs.Ytlpahmefebgdlaa.Fx
open Go Go.RowKit

/-- A ship or a rate. -/
structure Sh where
  x : F32
  y : F32
  u : F32
  v : F32
def Sh.agg (p : Sh) : AV := .agg [.cx .f32 p.x p.y, .cx .f32 p.u p.v]
def Sh.two (p : Sh) : AC := .two p.x p.y p.u p.v
def Sh.mv (p : Sh) (h : F32) (r : Sh) : Sh := ⟨p.x + r.x * h, p.y + r.y * h, p.u + r.u * h, p.v + r.v * h⟩
def Sh.pl (p r : Sh) : Sh := ⟨p.x + r.x, p.y + r.y, p.u + r.u, p.v + r.v⟩
def Sh.tw (p : Sh) : Sh := ⟨p.x * two32, p.y * two32, p.u * two32, p.v * two32⟩
def accX (s x y v : F32) : F32 := slX s x y + two32 * v
def accY (s x y u : F32) : F32 := slY s x y + c32 3221225472 * u
def acc (s : F32) (p : Sh) : Sh := ⟨p.u, p.v, accX s p.x p.y p.v, accY s p.x p.y p.u⟩
def Sh.fin (p : Sh) : Bool := vShip p.x p.y p.u p.v
def accQ (s : F32) (p : Sh) : Bool := saFit s p.x p.y && (isPt s p.x p.y && (slFin s p.x p.y && (p.fin && cfin (accX s p.x p.y p.v) (accY s p.x p.y p.u))))

/-- An entry's proof, for arguments without pointers. -/
theorem okMG {P : Program} {E : List (Entry P)} {I : List FuncId} {N : List (EntryN P)} {lp : LoopRule} {f : FuncId} {fn : Func} {sh : List AV → List (List AC) → Option (Bool × AV)} (hf : P.funcs[f]? = some fn) (hn : (fn.name == "runtime.NumGoroutine") = false)
    (hfar : ∀ j, farOff ≤ j → ∀ F M, lp j F M = none) (hl : LoopsOk P 0 anyW lp 0 (fn.body.getD .skip))
    (h : ∀ args M q, sh args M = some (true, q) → args.all plainA = true ∧ runKM P E I N (G := anyW) [] lp fn args [] = some q) : EOk P f sh := by
  intro args M q hr σ vs w _ ha
  obtain ⟨h1, h2⟩ := h args M q hr
  exact givesM hf hn hfar hl h1 h2 ha
def shShSSh (g : Sh → F32 → Sh → Bool × AV) : List AV → List (List AC) → Option (Bool × AV)
  | [.agg [.cx .f32 x y, .cx .f32 u v], .c (.fl .f32 h), .agg [.cx .f32 a b, .cx .f32 c d]], _ => some (g ⟨x, y, u, v⟩ h ⟨a, b, c, d⟩)
  | _, _ => none
def shShSh (g : Sh → Sh → Bool × AV) : List AV → List (List AC) → Option (Bool × AV)
  | [.agg [.cx .f32 x y, .cx .f32 u v], .agg [.cx .f32 a b, .cx .f32 c d]], _ => some (g ⟨x, y, u, v⟩ ⟨a, b, c, d⟩)
  | _, _ => none
def shSh1 (g : Sh → Bool × AV) : List AV → List (List AC) → Option (Bool × AV)
  | [.agg [.cx .f32 x y, .cx .f32 u v]], _ => some (g ⟨x, y, u, v⟩)
  | _, _ => none
def shSSh1 (g : F32 → Sh → Bool × AV) : List AV → List (List AC) → Option (Bool × AV)
  | [.c (.fl .f32 s), .agg [.cx .f32 x y, .cx .f32 u v]], _ => some (g s ⟨x, y, u, v⟩)
  | _, _ => none
def shSShS (g : F32 → Sh → F32 → Bool × AV) : List AV → List (List AC) → Option (Bool × AV)
  | [.c (.fl .f32 s), .agg [.cx .f32 x y, .cx .f32 u v], .c (.fl .f32 h)], _ => some (g s ⟨x, y, u, v⟩ h)
  | _, _ => none

-- rate
theorem rate_raw (s x y u v : F32) : runKM Try.prog [ePush] [] [] (G := anyW) [] noRule Try.f108 [.c (.fl .f32 s), .agg [.cx .f32 x y, .cx .f32 u v]] [] =
    bif saFit s x y then some (.tup [.two u v (bif puOk s x y u v then tcX (puX s x y v) (puY s x y u) else c32 0) (bif puOk s x y u v then tcY (puX s x y v) (puY s x y u) else c32 0), .sb (puOk s x y u v && cfin (puX s x y v) (puY s x y u))]) else none := by kernel_rfl
theorem rate_run (s : F32) (p : Sh) (h : accQ s p = true) : runKM Try.prog [ePush] [] [] (G := anyW) [] noRule Try.f108 [.c (.fl .f32 s), p.agg] [] = some (.tup [(acc s p).two, .sb true]) := by
  obtain ⟨x, y, u, v⟩ := p
  unfold accQ Sh.fin at h
  simp only [Bool.and_eq_true] at h
  obtain ⟨h1, h2, h3, h4, h5⟩ := h
  have h3' : cfin (slX s x y) (slY s x y) = true := h3
  have e1 : puX s x y v = accX s x y v := by
    unfold puX saX tcX accX
    rw [h2, h3']; rfl
  have e2 : puY s x y u = accY s x y u := by
    unfold puY saY tcY accY
    rw [h2, h3']; rfl
  have e3 : puOk s x y u v = true := by
    unfold puOk saB
    rw [h2, h3, h4]; rfl
  unfold Sh.agg
  rw [rate_raw, h1, e3, e1, e2, h5]
  unfold tcX tcY
  rw [h5]; rfl
def eRate : Entry Try.prog := { f := 108, fn := shSSh1 fun s p => (accQ s p, .tup [(acc s p).two, .sb true]), ok := okMG (E := [ePush]) Try.func108 (by kernel_rfl) noRule_far (loopsOk_none 0 _) (by
  intro args M q h
  unfold shSSh1 at h
  split at h
  · rename_i s x y u v
    simp only [Option.some.injEq, Prod.mk.injEq] at h
    obtain ⟨h1, rfl⟩ := h
    exact ⟨rfl, rate_run s ⟨x, y, u, v⟩ h1⟩
  · cases h) }
-- moved, plus, twice, told
theorem moved_run (p : Sh) (h : F32) (r : Sh) : runKM Try.prog [eScale, ePlus] [] [] (G := anyW) [] noRule Try.f109 [p.agg, .c (.fl .f32 h), r.agg] [] = some (p.mv h r).agg := by kernel_rfl
def eMoved : Entry Try.prog := { f := 109, fn := shShSSh fun p h r => (true, (p.mv h r).agg), ok := okMG (E := [eScale, ePlus]) Try.func109 (by kernel_rfl) noRule_far (loopsOk_none 0 _) (by
  intro args M q h
  unfold shShSSh at h
  split at h
  · rename_i x y u v t a b c d
    simp only [Option.some.injEq, Prod.mk.injEq] at h
    obtain ⟨h1, rfl⟩ := h
    exact ⟨rfl, moved_run ⟨x, y, u, v⟩ t ⟨a, b, c, d⟩⟩
  · cases h) }
theorem plus_run (p r : Sh) : runKM Try.prog [ePlus] [] [] (G := anyW) [] noRule Try.f110 [p.agg, r.agg] [] = some (p.pl r).agg := by kernel_rfl
def ePlusSh : Entry Try.prog := { f := 110, fn := shShSh fun p r => (true, (p.pl r).agg), ok := okMG (E := [ePlus]) Try.func110 (by kernel_rfl) noRule_far (loopsOk_none 0 _) (by
  intro args M q h
  unfold shShSh at h
  split at h
  · rename_i x y u v a b c d
    simp only [Option.some.injEq, Prod.mk.injEq] at h
    obtain ⟨h1, rfl⟩ := h
    exact ⟨rfl, plus_run ⟨x, y, u, v⟩ ⟨a, b, c, d⟩⟩
  · cases h) }
theorem twice_run (p : Sh) : runKM Try.prog [eScale] [] [] (G := anyW) [] noRule Try.f111 [p.agg] [] = some p.tw.agg := by kernel_rfl
def eTwice : Entry Try.prog := { f := 111, fn := shSh1 fun p => (true, p.tw.agg), ok := okMG (E := [eScale]) Try.func111 (by kernel_rfl) noRule_far (loopsOk_none 0 _) (by
  intro args M q h
  unfold shSh1 at h
  split at h
  · rename_i x y u v
    simp only [Option.some.injEq, Prod.mk.injEq] at h
    obtain ⟨h1, rfl⟩ := h
    exact ⟨rfl, twice_run ⟨x, y, u, v⟩⟩
  · cases h) }
theorem toldShip_raw (p : Sh) : runKM Try.prog [eVShip] [] [] (G := anyW) [] noRule Try.f105 [p.agg] [] = bif !p.fin then some (.tup [.two (c32 0) (c32 0) (c32 0) (c32 0), .sb false]) else some (.tup [p.two, .sb true]) := by kernel_rfl
def eToldShip : Entry Try.prog := { f := 105, fn := shSh1 fun p => (p.fin, .tup [p.two, .sb true]), ok := okMG (E := [eVShip]) Try.func105 (by kernel_rfl) noRule_far (loopsOk_none 0 _) (by
  intro args M q h
  unfold shSh1 at h
  split at h
  · rename_i x y u v
    simp only [Option.some.injEq, Prod.mk.injEq] at h
    obtain ⟨h1, rfl⟩ := h
    refine ⟨rfl, ?_⟩
    have := toldShip_raw ⟨x, y, u, v⟩
    rw [h1] at this
    exact this
  · cases h) }
-- a step
def sp1 (s : F32) (p : Sh) : Sh := acc s p
def sp2 (s : F32) (p : Sh) (h : F32) : Sh := acc s (p.mv (h / two32) (sp1 s p))
def sp3 (s : F32) (p : Sh) (h : F32) : Sh := acc s (p.mv (h / two32) (sp2 s p h))
def sp4 (s : F32) (p : Sh) (h : F32) : Sh := acc s (p.mv h (sp3 s p h))
def six32 : F32 := c32 1086324736
def stp (s : F32) (p : Sh) (h : F32) : Sh := p.mv (h / six32) (((sp1 s p).pl (sp2 s p h).tw).pl (sp3 s p h).tw |>.pl (sp4 s p h))
def stQ (s : F32) (p : Sh) (h : F32) : Bool := finS h && (accQ s p && (accQ s (p.mv (h / two32) (sp1 s p)) && (accQ s (p.mv (h / two32) (sp2 s p h)) && (accQ s (p.mv h (sp3 s p h)) && (stp s p h).fin))))
theorem step_raw (s : F32) (p : Sh) (h : F32) : runKM Try.prog [eIsFinite, eRate, eMoved, ePlusSh, eTwice, eToldShip] [] [] (G := anyW) [] noRule Try.f54 [.c (.fl .f32 s), p.agg, .c (.fl .f32 h)] [] =
    bif !(isFinite h) then some (.tup [.two (c32 0) (c32 0) (c32 0) (c32 0), .sb false]) else
    bif accQ s p then bif accQ s (p.mv (h / two32) (sp1 s p)) then bif accQ s (p.mv (h / two32) (sp2 s p h)) then bif accQ s (p.mv h (sp3 s p h)) then bif (stp s p h).fin then some (.tup [(stp s p h).two, .sb true]) else none else none else none else none else none := by kernel_rfl
theorem fin_isFinite (h : F32) : isFinite h = finS h := fin_eq h
theorem step_run (s : F32) (p : Sh) (h : F32) (hq : stQ s p h = true) : runKM Try.prog [eIsFinite, eRate, eMoved, ePlusSh, eTwice, eToldShip] [] [] (G := anyW) [] noRule Try.f54 [.c (.fl .f32 s), p.agg, .c (.fl .f32 h)] [] = some (.tup [(stp s p h).two, .sb true]) := by
  unfold stQ at hq
  simp only [Bool.and_eq_true] at hq
  obtain ⟨h1, h2, h3, h4, h5, h6⟩ := hq
  rw [step_raw, fin_isFinite, h1, h2, h3, h4, h5, h6]; rfl
def eStep : Entry Try.prog := { f := 54, fn := shSShS fun s p h => (stQ s p h, .tup [(stp s p h).two, .sb true]), ok := okMG (E := [eIsFinite, eRate, eMoved, ePlusSh, eTwice, eToldShip]) Try.func54 (by kernel_rfl) noRule_far (loopsOk_none 0 _) (by
  intro args M q h
  unfold shSShS at h
  split at h
  · rename_i s x y u v t
    simp only [Option.some.injEq, Prod.mk.injEq] at h
    obtain ⟨h1, rfl⟩ := h
    exact ⟨rfl, step_run s ⟨x, y, u, v⟩ t h1⟩
  · cases h) }
end Go.Proofs.Ytlpahmefebgdlaa.Fx
/- Ships' rates: what they are worth. No condition. -/
namespace Go.Proofs.Ytlpahmefebgdlaa.Fx
open Go

theorem addE {x y : F32} {a b : Rat} (E : Int) (B u : Rat) (hB : (2 : Rat) ^ E = B) (hu : (2 : Rat) ^ (E - 24) = u) (h3 : -126 ≤ E) (h4 : E ≤ 126) (hx : HasS x a) (hy : HasS y b) (h1 : a + b ≤ B) (h2 : -B ≤ a + b) :
    ∃ v, HasS (x + y) v ∧ v ≤ a + b + u ∧ a + b ≤ v + u := by
  subst hB hu; exact addS_has hx hy h1 h2 h3 (by omega)
theorem subE {x y : F32} {a b : Rat} (E : Int) (B u : Rat) (hB : (2 : Rat) ^ E = B) (hu : (2 : Rat) ^ (E - 24) = u) (h3 : -126 ≤ E) (h4 : E ≤ 126) (hx : HasS x a) (hy : HasS y b) (h1 : a - b ≤ B) (h2 : -B ≤ a - b) :
    ∃ v, HasS (x - y) v ∧ v ≤ a - b + u ∧ a - b ≤ v + u := by
  subst hB hu; exact subS_has hx hy h1 h2 h3 (by omega)
theorem mulE {x y : F32} {a b : Rat} (E : Int) (B u : Rat) (hB : (2 : Rat) ^ E = B) (hu : (2 : Rat) ^ (E - 24) = u) (h3 : -126 ≤ E) (h4 : E ≤ 126) (hx : HasS x a) (hy : HasS y b) (h1 : a * b ≤ B) (h2 : -B ≤ a * b) :
    ∃ v, HasS (x * y) v ∧ v ≤ a * b + u ∧ a * b ≤ v + u := by
  subst hB hu; exact mulS_has hx hy h1 h2 h3 (by omega)
theorem divE {x y : F32} {a b c : Rat} (E : Int) (B u : Rat) (hB : (2 : Rat) ^ E = B) (hu : (2 : Rat) ^ (E - 22) = u) (h3 : -126 ≤ E) (h4 : E ≤ 126) (hx : HasS x a) (hy : HasS y b) (hb : b ≠ 0) (hc : a = c * b) (h1 : c ≤ B) (h2 : -B ≤ c) :
    ∃ v, HasS (x / y) v ∧ v ≤ c + u ∧ c ≤ v + u := by
  subst hB hu; exact divS_has hx hy hb hc h1 h2 h3 h4

theorem sq_le {a B : Rat} (h1 : -B ≤ a) (h2 : a ≤ B) : 0 ≤ a * a ∧ a * a ≤ B * B := by
  have := mul_bd h1 h2 h1 h2
  refine ⟨?_, this.2⟩
  by_cases h : 0 ≤ a
  · exact Rat.mul_nonneg h h
  · have := Rat.mul_nonneg (show 0 ≤ -a by grind) (show 0 ≤ -a by grind)
    grind
/-- How far away a point is. -/
theorem long_has {x y : F32} {a b : Rat} (hx : HasS x a) (hy : HasS y b) (a1 : -10 ≤ a) (a2 : a ≤ 10) (b1 : -10 ≤ b) (b2 : b ≤ 10) (h1 : 1 / 4 ≤ a * a + b * b) :
    fits (longF x y) = true ∧ ∃ R, HasS (long x y) R ∧ 0 ≤ R ∧ R ≤ 15 ∧ R * R ≤ a * a + b * b + 31 / 1048576 ∧ a * a + b * b ≤ R * R + 31 / 1048576 := by
  obtain ⟨s1, s2⟩ := sq_le a1 a2
  obtain ⟨t1, t2⟩ := sq_le b1 b2
  have e1 : (2 : Rat) ^ (7 : Int) = 128 := by decide +kernel
  have e2 : (2 : Rat) ^ ((7 : Int) - 53) = 1 / 70368744177664 := by decide +kernel
  have e3 : (2 : Rat) ^ (8 : Int) = 256 := by decide +kernel
  have e4 : (2 : Rat) ^ ((8 : Int) - 53) = 1 / 35184372088832 := by decide +kernel
  obtain ⟨p, hp, p1, p2⟩ := mul_has (E := 7) (widen_has hx) (widen_has hx) (by rw [e1]; grind) (by rw [e1]; grind) (by decide) (by decide)
  obtain ⟨q, hq, q1, q2⟩ := mul_has (E := 7) (widen_has hy) (widen_has hy) (by rw [e1]; grind) (by rw [e1]; grind) (by decide) (by decide)
  rw [e2] at p1 p2 q1 q2
  generalize a * a = A at *
  generalize b * b = C at *
  obtain ⟨r, hr, r1, r2⟩ := add_has (E := 8) hp hq (by rw [e3]; grind) (by rw [e3]; grind) (by decide) (by decide)
  rw [e4] at r1 r2
  have e5 : (2 : Rat) ^ (2 * (4 : Int)) = 256 := by decide +kernel
  have e6 : (2 : Rat) ^ (2 * (4 : Int) - 49) = 1 / 2199023255552 := by decide +kernel
  obtain ⟨w, hw, w0, w1, w2⟩ := sqrt_has (E := 4) hr (by grind) (by rw [e5]; grind) (by decide) (by decide)
  rw [e6] at w1 w2
  have w3 : w ≤ 29 / 2 := sq_le_sq (by grind) (by grind)
  have e7 : (2 : Rat) ^ (4 : Int) = 16 := by decide +kernel
  have e8 : (2 : Rat) ^ ((4 : Int) - 24) = 1 / 1048576 := by decide +kernel
  obtain ⟨hf, R, hR, R1, R2⟩ := narrow_has (E := 4) hw (by rw [e7]; grind) (by rw [e7]; grind) (by decide) (by decide)
  rw [e8] at R1 R2
  have w4 : 2 / 5 ≤ w := sq_le_sq w0 (by grind)
  refine ⟨hf, R, hR, by grind, by grind, ?_, ?_⟩
  · have k : (R - w) * (R + w) ≤ 1 / 1048576 * (R + w) := Rat.mul_le_mul_of_nonneg_right (by grind) (by grind)
    have f : (R - w) * (R + w) = R * R - w * w := by grind
    rw [f] at k
    generalize R * R = RR at *
    generalize w * w = ww at *
    grind
  · have k : (w - R) * (R + w) ≤ 1 / 1048576 * (R + w) := Rat.mul_le_mul_of_nonneg_right (by grind) (by grind)
    have f : (w - R) * (R + w) = w * w - R * R := by grind
    rw [f] at k
    generalize R * R = RR at *
    generalize w * w = ww at *
    grind
/-- A share: what it is worth, and 1 less it. -/
structure Shr (s : F32) (m : Rat) : Prop where
  hs : HasS s m
  hn : HasS (-s) (-m)
  ho : HasS (one32 - s) (1 - m)
  lo : 1 / 32 ≤ m
  hi : m ≤ 1 / 2
  is : isShare s = true
/-- A place seen from both masses. -/
structure Pl (s x y : F32) (m X Y d e z R1 q1 R2 q2 : Rat) : Prop where
  hd : HasS (fdx s x) d
  he : HasS (fex s x) e
  hz : HasS (fy y) z
  h1 : HasS (fr s x y) R1
  h2 : HasS (fs s x y) R2
  d1 : d ≤ X + m + 1 / 1048576
  d2 : X + m ≤ d + 1 / 1048576
  e1 : e ≤ X - 1 + m + 1 / 1048576
  e2 : X - 1 + m ≤ e + 1 / 1048576
  z1 : z ≤ Y + 1 / 1048576
  z2 : Y ≤ z + 1 / 1048576
  r1 : R1 * R1 ≤ d * d + z * z + 31 / 1048576
  r1' : d * d + z * z ≤ R1 * R1 + 31 / 1048576
  r2 : R2 * R2 ≤ e * e + z * z + 31 / 1048576
  r2' : e * e + z * z ≤ R2 * R2 + 31 / 1048576
  p1 : 999 / 1000 ≤ R1
  p2 : 999 / 1000 ≤ R2
  b1 : R1 ≤ 15
  b2 : R2 ≤ 15
  i1 : q1 * R1 = 1
  i2 : q2 * R2 = 1
theorem inv_ex {R : Rat} (h : 999 / 1000 ≤ R) : ∃ q : Rat, q * R = 1 := ⟨R⁻¹, by rw [Rat.mul_comm]; exact Rat.mul_inv_cancel R (by grind)⟩
theorem zero_hasS : HasS (c32 0) 0 := ⟨false, 0, -149, ⟨0, rfl, by decide⟩, by decide +kernel⟩
theorem place_has {s x y : F32} {m X Y : Rat} (hs : Shr s m) (hx : HasS x X) (hy : HasS y Y) (x1 : -8 ≤ X) (x2 : X ≤ 8) (y1 : -8 ≤ Y) (y2 : Y ≤ 8)
    (f1 : 1 ≤ (X + m) * (X + m) + Y * Y) (f2 : 1 ≤ (X - 1 + m) * (X - 1 + m) + Y * Y) :
    frFit s x y = true ∧ ∃ d e z R1 q1 R2 q2, Pl s x y m X Y d e z R1 q1 R2 q2 := by
  obtain ⟨h1, h2, h3, l, h, -⟩ := hs
  obtain ⟨d, hd, d1, d2⟩ := subE 4 16 (1 / 1048576) (by decide +kernel) (by decide +kernel) (by decide) (by decide) hx h2 (by grind) (by grind)
  obtain ⟨e, he, e1, e2⟩ := subE 4 16 (1 / 1048576) (by decide +kernel) (by decide +kernel) (by decide) (by decide) hx h3 (by grind) (by grind)
  obtain ⟨z, hz, z1, z2⟩ := subE 4 16 (1 / 1048576) (by decide +kernel) (by decide +kernel) (by decide) (by decide) hy zero_hasS (by grind) (by grind)
  have sq_near : ∀ a b : Rat, a ≤ b + 1 / 1048576 → b ≤ a + 1 / 1048576 → -10 ≤ b → b ≤ 10 → b * b ≤ a * a + 21 / 1048576 := by
    intro a b h1 h2 h3 h4
    have k := mul_bd (a := b - a) (b := b + a) (A := 1 / 1048576) (B := 21) (by grind) (by grind) (by grind) (by grind)
    have f : (b - a) * (b + a) = b * b - a * a := by grind
    rw [f] at k
    generalize a * a = aa at *
    generalize b * b = bb at *
    grind
  have n1 := sq_near d (X + m) (by grind) (by grind) (by grind) (by grind)
  have n2 := sq_near e (X - 1 + m) (by grind) (by grind) (by grind) (by grind)
  have n3 := sq_near z Y (by grind) (by grind) (by grind) (by grind)
  generalize (X + m) * (X + m) = A at *
  generalize (X - 1 + m) * (X - 1 + m) = A2 at *
  generalize Y * Y = A3 at *
  have low : ∀ a b R : Rat, 1 ≤ a + b + 42 / 1048576 → a + b ≤ R * R + 31 / 1048576 → 0 ≤ R → 999 / 1000 ≤ R := by
    intro a b R h1 h2 h3
    refine sq_le_sq h3 ?_
    generalize R * R = q at *
    grind
  obtain ⟨g1, R1, j1, k0, k1, k2, k3⟩ := long_has hd hz (by grind) (by grind) (by grind) (by grind) (by grind)
  obtain ⟨g2, R2, j2, l0, l1, l2, l3⟩ := long_has he hz (by grind) (by grind) (by grind) (by grind) (by grind)
  have p1 := low _ _ R1 (by grind) k3 k0
  have p2 := low _ _ R2 (by grind) l3 l0
  obtain ⟨q1, i1⟩ := inv_ex p1
  obtain ⟨q2, i2⟩ := inv_ex p2
  refine ⟨by unfold frFit; show (fits (longF _ _) && fits (longF _ _)) = true; rw [show fdx s x = x - -s from rfl, show fex s x = x - (one32 - s) from rfl, show fy y = y - c32 0 from rfl, g1, g2]; rfl, d, e, z, R1, q1, R2, q2, ⟨hd, he, hz, j1, j2, by grind, by grind, by grind, by grind, by grind, by grind, k2, k3, l2, l3, p1, p2, k1, l1, i1, i2⟩⟩
/-- A mass's pull, over the distance. -/
theorem pull_has {k r : F32} {g R q : Rat} (hk : HasS k g) (hr : HasS r R) (g0 : 0 ≤ g) (g1 : g ≤ 1) (p : 999 / 1000 ≤ R) (b : R ≤ 15) (hq : q * R = 1) :
    ∃ F, HasS (k / cube r) F ∧ F ≤ g * (q * q * q) + 1 / 2097152 + g * (q * q * q) * (1 / 2089) ∧ g * (q * q * q) ≤ F + 1 / 2097152 + g * (q * q * q) * (1 / 2089) := by
  have rr := mul_bd (a := R) (b := R) (A := 15) (B := 15) (by grind) b (by grind) b
  obtain ⟨S, hS, s1, s2⟩ := mulE 8 256 (1 / 65536) (by decide +kernel) (by decide +kernel) (by decide) (by decide) hr hr (by grind) (by grind)
  have sr := mul_bd (a := S) (b := R) (A := 226) (B := 15) (by grind) (by grind) (by grind) b
  obtain ⟨C, hC, c1, c2⟩ := mulE 12 4096 (1 / 4096) (by decide +kernel) (by decide +kernel) (by decide) (by decide) hS hr (by grind) (by grind)
  have hq0 : 0 ≤ q := by
    refine Rat.not_lt.1 fun h => ?_
    have := Rat.mul_nonneg (show 0 ≤ -q by grind) (show 0 ≤ R by grind)
    grind
  have hq1 : q ≤ 1002 / 1000 := by
    have := Rat.mul_le_mul_of_nonneg_left p hq0
    grind
  -- C near R's cube
  have n1 : C - R * R * R ≤ 31 / 65536 ∧ R * R * R - C ≤ 31 / 65536 := by
    have a1 := Rat.mul_le_mul_of_nonneg_right (show S - R * R ≤ 1 / 65536 by grind) (show 0 ≤ R by grind)
    have a2 := Rat.mul_le_mul_of_nonneg_right (show R * R - S ≤ 1 / 65536 by grind) (show 0 ≤ R by grind)
    have e1 : (S - R * R) * R = S * R - R * R * R := by grind
    have e2 : (R * R - S) * R = R * R * R - S * R := by grind
    rw [e1] at a1
    rw [e2] at a2
    generalize S * R = SR at *
    generalize R * R * R = RRR at *
    constructor <;> grind
  have m1 : 997 / 1000 ≤ R * R * R := by
    have a1 : 999 / 1000 * (999 / 1000) ≤ R * R := by
      have := Rat.mul_le_mul_of_nonneg_left p (show 0 ≤ R by grind)
      grind
    have a2 := Rat.mul_le_mul_of_nonneg_left p (show 0 ≤ R * R by grind)
    generalize R * R * R = RRR at *
    generalize R * R = RR at *
    grind
  have hQ : q * q * q * (R * R * R) = 1 := by
    have : q * q * q * (R * R * R) = (q * R) * (q * R) * (q * R) := by grind
    rw [this, hq]; grind
  have hQ0 : 0 ≤ q * q * q := Rat.mul_nonneg (Rat.mul_nonneg hq0 hq0) hq0
  obtain ⟨c, hc⟩ : ∃ c : Rat, c * C = 1 := ⟨C⁻¹, by rw [Rat.mul_comm]; exact Rat.mul_inv_cancel C (by grind)⟩
  have hc0 : 0 ≤ c := by
    refine Rat.not_lt.1 fun h => ?_
    have := Rat.mul_nonneg (show 0 ≤ -c by grind) (show 0 ≤ C by grind)
    grind
  have hc1 : c ≤ 101 / 100 := by
    have : c * (996 / 1000) ≤ c * C := Rat.mul_le_mul_of_nonneg_left (by grind) hc0
    grind
  generalize q * q * q = Q at *
  generalize R * R * R = RRR at *
  have d1 : c - Q ≤ Q * (1 / 2091) ∧ Q - c ≤ Q * (1 / 2091) := by
    have f : c - Q = c * Q * (RRR - C) := by
      have : c * Q * (RRR - C) = c * (Q * RRR) - Q * (c * C) := by grind
      rw [this, hQ, hc]; grind
    have f' : Q - c = c * Q * (C - RRR) := by
      have : c * Q * (C - RRR) = Q * (c * C) - c * (Q * RRR) := by grind
      rw [this, hQ, hc]; grind
    have g0 : 0 ≤ c * Q := Rat.mul_nonneg hc0 hQ0
    have g1 : c * Q ≤ 101 / 100 * Q := Rat.mul_le_mul_of_nonneg_right hc1 hQ0
    have b1 := Rat.mul_le_mul_of_nonneg_left n1.2 g0
    have b2 := Rat.mul_le_mul_of_nonneg_left n1.1 g0
    rw [f, f']
    generalize c * Q = cQ at *
    constructor <;> grind
  have hgc : 0 ≤ g * c := Rat.mul_nonneg g0 hc0
  have hgc1 : g * c ≤ 101 / 100 := by
    have := mul_bd (a := g) (b := c) (A := 1) (B := 101 / 100) (by grind) g1 (by grind) hc1
    grind
  obtain ⟨F, hF, F1, F2⟩ := divE 1 2 (1 / 2097152) (by decide +kernel) (by decide +kernel) (by decide) (by decide) hk hC (b := C) (c := g * c) (by grind) (by grind) (by grind) (by grind)
  refine ⟨F, hF, ?_, ?_⟩
  · have := Rat.mul_le_mul_of_nonneg_left d1.1 g0
    have e : g * (c - Q) = g * c - g * Q := by grind
    have e2 : g * (Q * (1 / 2091)) = g * Q * (1 / 2091) := by grind
    have := Rat.mul_nonneg g0 hQ0
    generalize g * c = gc at *
    generalize g * Q = gQ at *
    grind
  · have := Rat.mul_le_mul_of_nonneg_left d1.2 g0
    have e : g * (Q - c) = g * Q - g * c := by grind
    have e2 : g * (Q * (1 / 2091)) = g * Q * (1 / 2091) := by grind
    have := Rat.mul_nonneg g0 hQ0
    generalize g * c = gc at *
    generalize g * Q = gQ at *
    grind
theorem two_hasS : HasS two32 2 := ⟨false, 2 ^ 23, -22, ⟨1073741824, rfl, by decide⟩, by decide +kernel⟩
theorem mtwo_hasS : HasS (c32 3221225472) (-2) := ⟨true, 2 ^ 23, -22, ⟨3221225472, rfl, by decide⟩, by decide +kernel⟩
/-- A part of a pull. -/
theorem term_has {d k r : F32} {g D R q Z : Rat} (hd : HasS d D) (hk : HasS k g) (hr : HasS r R) (g0 : 0 ≤ g) (g1 : g ≤ 1) (p : 999 / 1000 ≤ R) (b : R ≤ 15) (hq : q * R = 1) (d1 : -91 / 10 ≤ D) (d2 : D ≤ 91 / 10) (h : D * D + Z * Z ≤ R * R + 31 / 1048576) :
    ∃ T, HasS (d * (k / cube r)) T ∧ T ≤ D * (g * (q * q * q)) + 6 / 1048576 + g * (1 / 2079) ∧ D * (g * (q * q * q)) ≤ T + 6 / 1048576 + g * (1 / 2079) ∧ T ≤ 11 / 10 ∧ -11 / 10 ≤ T := by
  obtain ⟨F, hF, F1, F2⟩ := pull_has hk hr g0 g1 p b hq
  have hq0 : 0 ≤ q := by
    refine Rat.not_lt.1 fun h => ?_
    have := Rat.mul_nonneg (show 0 ≤ -q by grind) (show 0 ≤ R by grind)
    grind
  have hq1 : q ≤ 1002 / 1000 := by
    have := Rat.mul_le_mul_of_nonneg_left p hq0
    grind
  have zz : 0 ≤ Z * Z := by
    by_cases h : 0 ≤ Z
    · exact Rat.mul_nonneg h h
    · have := Rat.mul_nonneg (show 0 ≤ -Z by grind) (show 0 ≤ -Z by grind)
      grind
  have dr : D ≤ 10001 / 10000 * R ∧ -D ≤ 10001 / 10000 * R := by
    have rr : 998001 / 1000000 ≤ R * R := by
      have := Rat.mul_le_mul_of_nonneg_left p (show 0 ≤ R by grind)
      grind
    have e : (10001 / 10000 * R) * (10001 / 10000 * R) = 100020001 / 100000000 * (R * R) := by grind
    have e2 : -D * -D = D * D := by grind
    constructor
    · refine sq_le_sq (by grind) ?_
      rw [e]; generalize R * R = a at *; generalize D * D = c at *; grind
    · refine sq_le_sq (by grind) ?_
      rw [e, e2]; generalize R * R = a at *; generalize D * D = c at *; grind
  -- the place times the inverse cube
  have qq := mul_bd (a := q) (b := q) (A := 1002 / 1000) (B := 1002 / 1000) (by grind) hq1 (by grind) hq1
  have qq0 : 0 ≤ q * q := Rat.mul_nonneg hq0 hq0
  have dq : D * (q * q * q) ≤ 1005 / 1000 ∧ -(1005 / 1000) ≤ D * (q * q * q) := by
    have a1 := Rat.mul_le_mul_of_nonneg_right dr.1 (Rat.mul_nonneg qq0 hq0)
    have a2 := Rat.mul_le_mul_of_nonneg_right dr.2 (Rat.mul_nonneg qq0 hq0)
    have e1 : 10001 / 10000 * R * (q * q * q) = 10001 / 10000 * (q * q) * (q * R) := by grind
    have e2 : -D * (q * q * q) = -(D * (q * q * q)) := by grind
    rw [e1, hq] at a1 a2
    rw [e2] at a2
    generalize D * (q * q * q) = x at *
    generalize q * q = y at *
    constructor <;> grind
  have Q0 : 0 ≤ q * q * q := Rat.mul_nonneg qq0 hq0
  have Q1 : q * q * q ≤ 101 / 100 := by
    have := mul_bd (a := q * q) (b := q) (A := 1002 / 1000 * (1002 / 1000)) (B := 1002 / 1000) (by grind) qq.2 (by grind) hq1
    grind
  generalize q * q * q = Q at *
  have gQ0 := Rat.mul_nonneg g0 Q0
  have gQ1 := mul_bd (a := g) (b := Q) (A := 1) (B := 101 / 100) (by grind) g1 (by grind) Q1
  have DF := mul_bd (a := D) (b := F) (A := 91 / 10) (B := 102 / 100) (by grind) d2 (by grind) (by grind)
  obtain ⟨T, hT, T1, T2⟩ := mulE 4 16 (1 / 1048576) (by decide +kernel) (by decide +kernel) (by decide) (by decide) hd hF (by grind) (by grind)
  -- the error
  have gd : g * (D * Q) ≤ g * (1005 / 1000) ∧ -(g * (1005 / 1000)) ≤ g * (D * Q) := by
    have a1 := Rat.mul_le_mul_of_nonneg_left dq.1 g0
    have a2 := Rat.mul_le_mul_of_nonneg_left dq.2 g0
    constructor <;> grind
  have er : D * F - D * (g * Q) ≤ 91 / 10 * (1 / 2097152) + g * (1005 / 1000) * (1 / 2089) ∧ D * (g * Q) - D * F ≤ 91 / 10 * (1 / 2097152) + g * (1005 / 1000) * (1 / 2089) := by
    by_cases hD : 0 ≤ D
    · have a1 := Rat.mul_le_mul_of_nonneg_left (show F - g * Q ≤ 1 / 2097152 + g * Q * (1 / 2089) by grind) hD
      have a2 := Rat.mul_le_mul_of_nonneg_left (show g * Q - F ≤ 1 / 2097152 + g * Q * (1 / 2089) by grind) hD
      have e1 : D * (F - g * Q) = D * F - D * (g * Q) := by grind
      have e2 : D * (g * Q - F) = D * (g * Q) - D * F := by grind
      have e3 : D * (1 / 2097152 + g * Q * (1 / 2089)) = D * (1 / 2097152) + g * (D * Q) * (1 / 2089) := by grind
      rw [e1, e3] at a1
      rw [e2, e3] at a2
      generalize D * F = DF at *
      generalize D * (g * Q) = DgQ at *
      generalize g * (D * Q) = gDQ at *
      constructor <;> grind
    · have a1 := Rat.mul_le_mul_of_nonneg_left (show F - g * Q ≤ 1 / 2097152 + g * Q * (1 / 2089) by grind) (show 0 ≤ -D by grind)
      have a2 := Rat.mul_le_mul_of_nonneg_left (show g * Q - F ≤ 1 / 2097152 + g * Q * (1 / 2089) by grind) (show 0 ≤ -D by grind)
      have e1 : -D * (F - g * Q) = D * (g * Q) - D * F := by grind
      have e2 : -D * (g * Q - F) = D * F - D * (g * Q) := by grind
      have e3 : -D * (1 / 2097152 + g * Q * (1 / 2089)) = -D * (1 / 2097152) - g * (D * Q) * (1 / 2089) := by grind
      rw [e1, e3] at a1
      rw [e2, e3] at a2
      generalize D * F = DF at *
      generalize D * (g * Q) = DgQ at *
      generalize g * (D * Q) = gDQ at *
      constructor <;> grind
  have e0 : D * (g * Q) = g * (D * Q) := by grind
  rw [e0] at er ⊢
  generalize D * F = DF at *
  generalize g * (D * Q) = gDQ at *
  refine ⟨T, hT, by grind, by grind, by grind, by grind⟩
/-- Four numbers: a place and a speed, or a rate. -/
structure V4 where
  x : Rat
  y : Rat
  u : Rat
  v : Rat
/-- What a ship is worth, mirrored where g is -1. -/
structure HasG (g : Rat) (p : Sh) (P : V4) : Prop where
  x : HasS p.x P.x
  y : HasS p.y (g * P.y)
  u : HasS p.u (g * P.u)
  v : HasS p.v P.v
structure RateG (g : Rat) (p : Sh) (P : V4) : Prop where
  x : HasS p.x (g * P.x)
  y : HasS p.y P.y
  u : HasS p.u P.u
  v : HasS p.v (g * P.v)
/-- Not too far, not too near. -/
structure Dom (m : Rat) (P : V4) : Prop where
  x1 : -8 ≤ P.x
  x2 : P.x ≤ 8
  y1 : -8 ≤ P.y
  y2 : P.y ≤ 8
  u1 : -8 ≤ P.u
  u2 : P.u ≤ 8
  v1 : -8 ≤ P.v
  v2 : P.v ≤ 8
  f1 : 1 ≤ (P.x + m) * (P.x + m) + P.y * P.y
  f2 : 1 ≤ (P.x - 1 + m) * (P.x - 1 + m) + P.y * P.y
/-- The pull's parts. -/
def pullX (m d e q1 q2 : Rat) : Rat := d * ((1 - m) * (q1 * q1 * q1)) + e * (m * (q2 * q2 * q2))
theorem acc_has {s : F32} {m g : Rat} {p : Sh} {P : V4} (hs : Shr s m) (hg : g = 1 ∨ g = -1) (hp : HasG g p P) (hd : Dom m P) :
    accQ s p = true ∧ ∃ d e z R1 q1 R2 q2 K, Pl s p.x p.y m P.x (g * P.y) d e z R1 q1 R2 q2 ∧ RateG g (acc s p) K ∧ K.x = P.u ∧ K.y = P.v ∧
      K.u ≤ 2 * P.v + P.x - pullX m d e q1 q2 + 1 / 2000 ∧ 2 * P.v + P.x - pullX m d e q1 q2 ≤ K.u + 1 / 2000 ∧
      K.v ≤ -2 * P.u + P.y - g * pullX m z z q1 q2 + 1 / 2000 ∧ -2 * P.u + P.y - g * pullX m z z q1 q2 ≤ K.v + 1 / 2000 := by
  obtain ⟨x1, x2, y1, y2, u1, u2, v1, v2, f1, f2⟩ := hd
  have gg : g * P.y * (g * P.y) = P.y * P.y := by rcases hg with rfl | rfl <;> grind
  obtain ⟨hfit, d, e, z, R1, q1, R2, q2, hP⟩ := place_has hs hp.x hp.y x1 x2 (by rcases hg with rfl | rfl <;> grind) (by rcases hg with rfl | rfl <;> grind) (by rw [gg]; exact f1) (by rw [gg]; exact f2)
  have hP' := hP
  obtain ⟨kd, ke, kz, h1, h2, d1, d2, e1, e2, z1, z2, r1, r1', r2, r2', p1, p2, b1, b2, i1, i2⟩ := hP
  have l := hs.lo
  have h := hs.hi
  have zb : -81 / 10 ≤ z ∧ z ≤ 81 / 10 := by rcases hg with rfl | rfl <;> grind
  obtain ⟨T1, hT1, t1, t1', t1a, t1b⟩ := term_has (Z := z) kd hs.ho h1 (by grind) (by grind) p1 b1 i1 (by grind) (by grind) r1'
  obtain ⟨T2, hT2, t2, t2', t2a, t2b⟩ := term_has (Z := z) ke hs.hs h2 (by grind) (by grind) p2 b2 i2 (by grind) (by grind) r2'
  obtain ⟨S1, hS1, s1, s1', s1a, s1b⟩ := term_has (Z := d) kz hs.ho h1 (by grind) (by grind) p1 b1 i1 (by grind) (by grind) (by grind)
  obtain ⟨S2, hS2, s2, s2', s2a, s2b⟩ := term_has (Z := e) kz hs.hs h2 (by grind) (by grind) p2 b2 i2 (by grind) (by grind) (by grind)
  have yb : -8 ≤ g * P.y ∧ g * P.y ≤ 8 := by rcases hg with rfl | rfl <;> grind
  have ub : -8 ≤ g * P.u ∧ g * P.u ≤ 8 := by rcases hg with rfl | rfl <;> grind
  obtain ⟨A1, hA1, a1, a1'⟩ := subE 4 16 (1 / 1048576) (by decide +kernel) (by decide +kernel) (by decide) (by decide) hp.x hT1 (by grind) (by grind)
  obtain ⟨A2, hA2, a2, a2'⟩ := subE 4 16 (1 / 1048576) (by decide +kernel) (by decide +kernel) (by decide) (by decide) hA1 hT2 (by grind) (by grind)
  obtain ⟨B1, hB1, b1, b1'⟩ := subE 4 16 (1 / 1048576) (by decide +kernel) (by decide +kernel) (by decide) (by decide) hp.y hS1 (by grind) (by grind)
  obtain ⟨B2, hB2, b2, b2'⟩ := subE 4 16 (1 / 1048576) (by decide +kernel) (by decide +kernel) (by decide) (by decide) hB1 hS2 (by grind) (by grind)
  obtain ⟨V2, hV2, w1, w1'⟩ := mulE 4 16 (1 / 1048576) (by decide +kernel) (by decide +kernel) (by decide) (by decide) two_hasS hp.v (by grind) (by grind)
  obtain ⟨U2, hU2, w2, w2'⟩ := mulE 4 16 (1 / 1048576) (by decide +kernel) (by decide +kernel) (by decide) (by decide) mtwo_hasS hp.u (by grind) (by grind)
  obtain ⟨AX, hAX, c1, c1'⟩ := addE 5 32 (1 / 524288) (by decide +kernel) (by decide +kernel) (by decide) (by decide) hA2 hV2 (by grind) (by grind)
  obtain ⟨AY, hAY, c2, c2'⟩ := addE 5 32 (1 / 524288) (by decide +kernel) (by decide +kernel) (by decide) (by decide) hB2 hU2 (by grind) (by grind)
  refine ⟨?_, d, e, z, R1, q1, R2, q2, ⟨P.u, P.v, AX, g * AY⟩, hP', ⟨hp.u, hp.v, hAX, ?_⟩, rfl, rfl, ?_⟩
  · have fx := hasS_fin hp.x
    have fy' := hasS_fin hp.y
    have fu := hasS_fin hp.u
    have fv := hasS_fin hp.v
    have fa := hasS_fin hA2
    have fb := hasS_fin hB2
    have fc := hasS_fin hAX
    have fd := hasS_fin hAY
    have hpt : isPt s p.x p.y = true := by unfold isPt cfin; rw [hs.is, fx, fy']; rfl
    have k1 : slFin s p.x p.y = true := by
      unfold slFin cfin
      have : finS (slX s p.x p.y) = true := fa
      rw [this]
      have : finS (slY s p.x p.y) = true := fb
      rw [this]; rfl
    have k2 : p.fin = true := by unfold Sh.fin vShip cfin; rw [fx, fy', fu, fv]; rfl
    have k3 : cfin (accX s p.x p.y p.v) (accY s p.x p.y p.u) = true := by
      unfold cfin
      have : finS (accX s p.x p.y p.v) = true := fc
      rw [this]
      have : finS (accY s p.x p.y p.u) = true := fd
      rw [this]; rfl
    unfold accQ saFit
    rw [hpt, hfit, k1, k2, k3]; rfl
  · have : g * (g * AY) = AY := by rcases hg with rfl | rfl <;> grind
    show HasS (acc s p).v (g * (g * AY))
    rw [this]; exact hAY
  · unfold pullX
    dsimp only
    generalize d * ((1 - m) * (q1 * q1 * q1)) = D1 at *
    generalize e * (m * (q2 * q2 * q2)) = D2 at *
    generalize z * ((1 - m) * (q1 * q1 * q1)) = Z1 at *
    generalize z * (m * (q2 * q2 * q2)) = Z2 at *
    refine ⟨by grind, by grind, ?_, ?_⟩
    · rcases hg with rfl | rfl <;> grind
    · rcases hg with rfl | rfl <;> grind
end Go.Proofs.Ytlpahmefebgdlaa.Fx
/- Pulls at two near places. Plain numbers. No condition. -/
namespace Go.Proofs.Ytlpahmefebgdlaa.Fx
open Go

theorem sq_nonneg (a : Rat) : 0 ≤ a * a := by
  by_cases h : 0 ≤ a
  · exact Rat.mul_nonneg h h
  · have := Rat.mul_nonneg (show 0 ≤ -a by grind) (show 0 ≤ -a by grind)
    grind
theorem inv_nonneg {q R : Rat} (hq : q * R = 1) (p : 999 / 1000 ≤ R) : 0 ≤ q := by
  refine Rat.not_lt.1 fun h => ?_
  have := Rat.mul_nonneg (show 0 ≤ -q by grind) (show 0 ≤ R by grind)
  grind
/-- A side is not longer than the distance, nearly. -/
theorem side_le {d z R : Rat} (p : 999 / 1000 ≤ R) (h : d * d + z * z ≤ R * R + 31 / 1048576) : d ≤ 10001 / 10000 * R ∧ -(10001 / 10000 * R) ≤ d := by
  have zz := sq_nonneg z
  have rr : 998001 / 1000000 ≤ R * R := by
    have := Rat.mul_le_mul_of_nonneg_left p (show 0 ≤ R by grind)
    grind
  have e : (10001 / 10000 * R) * (10001 / 10000 * R) = 100020001 / 100000000 * (R * R) := by grind
  have e2 : -d * -d = d * d := by grind
  constructor
  · refine sq_le_sq (by grind) ?_
    rw [e]; generalize R * R = a at *; generalize d * d = c at *; grind
  · have : -d ≤ 10001 / 10000 * R := by
      refine sq_le_sq (by grind) ?_
      rw [e, e2]; generalize R * R = a at *; generalize d * d = c at *; grind
    grind
theorem ab_mul {a b A B : Rat} (h1 : -A ≤ a) (h2 : a ≤ A) (h3 : -B ≤ b) (h4 : b ≤ B) : a * b ≤ A * B ∧ -(A * B) ≤ a * b := ⟨(mul_bd h1 h2 h3 h4).2, (mul_bd h1 h2 h3 h4).1⟩
/-- Two distances. -/
theorem dist_lip {R R' d d' z z' t dx dy : Rat} (p : 999 / 1000 ≤ R) (p' : 999 / 1000 ≤ R') (ht : t = 1 ∨ t = -1)
    (r1 : R * R ≤ d * d + z * z + 31 / 1048576) (r2 : d * d + z * z ≤ R * R + 31 / 1048576) (s1 : R' * R' ≤ d' * d' + z' * z' + 31 / 1048576) (s2 : d' * d' + z' * z' ≤ R' * R' + 31 / 1048576)
    (x1 : d - d' ≤ dx) (x2 : -dx ≤ d - d') (y1 : z - t * z' ≤ dy) (y2 : -dy ≤ z - t * z') :
    R - R' ≤ 10001 / 10000 * (dx + dy) + 32 / 1048576 ∧ -(10001 / 10000 * (dx + dy) + 32 / 1048576) ≤ R - R' := by
  have a1 := side_le p r2
  have a2 := side_le (d := z) (z := d) p (by grind)
  have b1 := side_le p' s2
  have b2 := side_le (d := z') (z := d') p' (by grind)
  have m1 := ab_mul (a := d - d') (b := d + d') (A := dx) (B := 10001 / 10000 * (R + R')) x2 x1 (by grind) (by grind)
  have m2 := ab_mul (a := z - t * z') (b := z + t * z') (A := dy) (B := 10001 / 10000 * (R + R')) y2 y1 (by rcases ht with rfl | rfl <;> grind) (by rcases ht with rfl | rfl <;> grind)
  have e1 : (d - d') * (d + d') = d * d - d' * d' := by grind
  have e2 : (z - t * z') * (z + t * z') = z * z - z' * z' := by rcases ht with rfl | rfl <;> grind
  rw [e1] at m1
  rw [e2] at m2
  have hS : 0 < R + R' := by grind
  have k : (R - R') * (R + R') = R * R - R' * R' := by grind
  have w : (R + R') * (10001 / 10000 * (dx + dy) + 32 / 1048576) = dx * (10001 / 10000 * (R + R')) + dy * (10001 / 10000 * (R + R')) + (R + R') * (32 / 1048576) := by grind
  constructor
  · refine Rat.le_of_mul_le_mul_left ?_ hS
    rw [w, Rat.mul_comm, k]
    generalize R * R = g1 at *; generalize R' * R' = g2 at *; generalize d * d = g3 at *; generalize d' * d' = g4 at *; generalize z * z = g5 at *; generalize z' * z' = g6 at *
    generalize dx * (10001 / 10000 * (R + R')) = g7 at *
    generalize dy * (10001 / 10000 * (R + R')) = g8 at *
    grind
  · refine Rat.le_of_mul_le_mul_left ?_ hS
    have : (R + R') * -(10001 / 10000 * (dx + dy) + 32 / 1048576) = -((R + R') * (10001 / 10000 * (dx + dy) + 32 / 1048576)) := by grind
    rw [this, w, Rat.mul_comm (R + R') (R - R'), k]
    generalize R * R = g1 at *; generalize R' * R' = g2 at *; generalize d * d = g3 at *; generalize d' * d' = g4 at *; generalize z * z = g5 at *; generalize z' * z' = g6 at *
    generalize dx * (10001 / 10000 * (R + R')) = g7 at *
    generalize dy * (10001 / 10000 * (R + R')) = g8 at *
    grind
theorem cube_le {q k : Rat} (h0 : 0 ≤ q) (h1 : q ≤ k) : q * q * q ≤ k * k * k := by
  have a := mul_bd (a := q) (b := q) (A := k) (B := k) (by grind) h1 (by grind) h1
  have b := mul_bd (a := q * q) (b := q) (A := k * k) (B := k) (by have := sq_nonneg q; grind) a.2 (by grind) h1
  exact b.2
theorem mul3_le {a b c k : Rat} (a0 : 0 ≤ a) (a1 : a ≤ k) (b0 : 0 ≤ b) (b1 : b ≤ k) (c0 : 0 ≤ c) (c1 : c ≤ k) : 0 ≤ a * b * c ∧ a * b * c ≤ k * k * k := by
  have h := mul_bd (a := a) (b := b) (A := k) (B := k) (by grind) a1 (by grind) b1
  have h0 := Rat.mul_nonneg a0 b0
  have h2 := mul_bd (a := a * b) (b := c) (A := k * k) (B := k) (by grind) h.2 (by grind) c1
  exact ⟨Rat.mul_nonneg h0 c0, h2.2⟩
/-- One side of a pull at two places. -/
theorem side_lip {R R' q q' d d' t k w W : Rat} (p : 999 / 1000 ≤ R) (p' : 999 / 1000 ≤ R') (hq : q * R = 1) (hq' : q' * R' = 1) (k1 : q ≤ k) (k2 : q' ≤ k) (ht : t = 1 ∨ t = -1)
    (a1 : d' ≤ 10001 / 10000 * R') (a2 : -(10001 / 10000 * R') ≤ d') (w1 : d - t * d' ≤ w) (w2 : -w ≤ d - t * d') (W1 : R - R' ≤ W) (W2 : -W ≤ R - R') :
    d * (q * q * q) - t * (d' * (q' * q' * q')) ≤ k * k * k * (w + 30003 / 10000 * W) ∧ -(k * k * k * (w + 30003 / 10000 * W)) ≤ d * (q * q * q) - t * (d' * (q' * q' * q')) := by
  have q0 := inv_nonneg hq p
  have q0' := inv_nonneg hq' p'
  have e : d * (q * q * q) - t * (d' * (q' * q' * q')) = (d - t * d') * (q * q * q) + t * ((R' - R) * ((d' * q') * (q * q * q + q * q * q' + q * q' * q'))) := by
    have f1 : q - q' = q * q' * (R' - R) := by
      have : q * q' * (R' - R) = q * (q' * R') - q' * (q * R) := by grind
      rw [this, hq, hq']; grind
    have f2 : q * q * q - q' * q' * q' = (q - q') * (q * q + q * q' + q' * q') := by grind
    rw [f1] at f2
    have f3 : t * (d' * (q * q * q - q' * q' * q')) = t * ((R' - R) * ((d' * q') * (q * q * q + q * q * q' + q * q' * q'))) := by rw [f2]; grind
    rw [← f3]; grind
  have c1 := mul3_le q0 k1 q0 k1 q0 k1
  have c2 := mul3_le q0 k1 q0 k1 q0' k2
  have c3 := mul3_le q0 k1 q0' k2 q0' k2
  have dq : d' * q' ≤ 10001 / 10000 ∧ -(10001 / 10000) ≤ d' * q' := by
    have g1 := Rat.mul_le_mul_of_nonneg_right a1 q0'
    have g2 := Rat.mul_le_mul_of_nonneg_right a2 q0'
    have g3 : 10001 / 10000 * R' * q' = 10001 / 10000 * (q' * R') := by grind
    have g4 : -(10001 / 10000 * R') * q' = -(10001 / 10000 * (q' * R')) := by grind
    rw [g3, hq'] at g1
    rw [g4, hq'] at g2
    constructor <;> grind
  have m1 := ab_mul (a := d' * q') (b := q * q * q + q * q * q' + q * q' * q') (A := 10001 / 10000) (B := 3 * (k * k * k)) (by grind) (by grind) (by grind) (by grind)
  have m2 := ab_mul (a := R' - R) (b := (d' * q') * (q * q * q + q * q * q' + q * q' * q')) (A := W) (B := 10001 / 10000 * (3 * (k * k * k))) (by grind) (by grind) m1.2 m1.1
  have m3 := ab_mul (a := d - t * d') (b := q * q * q) (A := w) (B := k * k * k) w2 w1 (by grind) c1.2
  rw [e]
  generalize (R' - R) * ((d' * q') * (q * q * q + q * q * q' + q * q' * q')) = x at *
  generalize (d - t * d') * (q * q * q) = y at *
  have f : W * (10001 / 10000 * (3 * (k * k * k))) = k * k * k * (30003 / 10000 * W) := by grind
  rw [f] at m2
  have f2 : k * k * k * (w + 30003 / 10000 * W) = w * (k * k * k) + k * k * k * (30003 / 10000 * W) := by grind
  rw [f2]
  generalize w * (k * k * k) = g1 at *
  generalize k * k * k * (30003 / 10000 * W) = g2 at *
  rcases ht with rfl | rfl <;> constructor <;> grind
/-- A pull at two places. -/
theorem grav_lip {R R' q q' d d' z z' t k dx dy : Rat} (p : 999 / 1000 ≤ R) (p' : 999 / 1000 ≤ R') (hq : q * R = 1) (hq' : q' * R' = 1) (k1 : q ≤ k) (k2 : q' ≤ k) (ht : t = 1 ∨ t = -1)
    (r1 : R * R ≤ d * d + z * z + 31 / 1048576) (r2 : d * d + z * z ≤ R * R + 31 / 1048576) (s1 : R' * R' ≤ d' * d' + z' * z' + 31 / 1048576) (s2 : d' * d' + z' * z' ≤ R' * R' + 31 / 1048576)
    (x1 : d - d' ≤ dx) (x2 : -dx ≤ d - d') (y1 : z - t * z' ≤ dy) (y2 : -dy ≤ z - t * z') :
    d * (q * q * q) - d' * (q' * q' * q') ≤ k * k * k * (401 / 100 * dx + 301 / 100 * dy + 1 / 10000) ∧ -(k * k * k * (401 / 100 * dx + 301 / 100 * dy + 1 / 10000)) ≤ d * (q * q * q) - d' * (q' * q' * q') ∧
    z * (q * q * q) - t * (z' * (q' * q' * q')) ≤ k * k * k * (301 / 100 * dx + 401 / 100 * dy + 1 / 10000) ∧ -(k * k * k * (301 / 100 * dx + 401 / 100 * dy + 1 / 10000)) ≤ z * (q * q * q) - t * (z' * (q' * q' * q')) := by
  obtain ⟨W1, W2⟩ := dist_lip p p' ht r1 r2 s1 s2 x1 x2 y1 y2
  have b1 := side_le p' s2
  have b2 := side_le (d := z') (z := d') p' (by grind)
  have u := side_lip (t := 1) p p' hq hq' k1 k2 (.inl rfl) b1.1 b1.2 (by grind) (by grind) W1 W2 (w := dx) (d := d)
  have v := side_lip (t := t) p p' hq hq' k1 k2 ht b2.1 b2.2 y1 y2 W1 W2
  have q0 := inv_nonneg hq p
  have kk : 0 ≤ k * k * k := (mul3_le (a := q) (b := q) (c := q) q0 k1 q0 k1 q0 k1).1 |> fun h => Rat.le_trans h (cube_le q0 k1)
  have n1 : k * k * k * (dx + 30003 / 10000 * (10001 / 10000 * (dx + dy) + 32 / 1048576)) ≤ k * k * k * (401 / 100 * dx + 301 / 100 * dy + 1 / 10000) := Rat.mul_le_mul_of_nonneg_left (by grind) kk
  have n2 : k * k * k * (dy + 30003 / 10000 * (10001 / 10000 * (dx + dy) + 32 / 1048576)) ≤ k * k * k * (301 / 100 * dx + 401 / 100 * dy + 1 / 10000) := Rat.mul_le_mul_of_nonneg_left (by grind) kk
  refine ⟨by grind, by grind, by grind, by grind⟩
end Go.Proofs.Ytlpahmefebgdlaa.Fx
