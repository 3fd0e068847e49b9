/- Texts put together: Es, Et, Eu, Cm, Cn, Co, Cp. No condition. -/
import Derived.Test.YtlpahmefebgdlaaQc
import Derived.Laws.Append
import Derived.Laws.AppendOwn
import Derived.Test.YtlpahmefebgdlaaQe
/- The executor, ninth part: calls run in place, slices built and appended to. No condition. -/
namespace Go.Proofs.Ytlpahmefebgdlaa.Fx
open Go Go.RowKit

-- forgetting a block
def killC (id : Nat) : AC → AC
  | .ptr i o => if i = id then .any else .ptr i o
  | .slc i n => if i = id then .any else .slc i n
  | .sub i o n => if i = id then .any else .sub i o n
  | .slw i n => if i = id then .any else .slw i n
  | .clo f i j => if i = id ∨ j = id then .any else .clo f i j
  | x => x
def killA (id : Nat) : AV → AV
  | .c x => .c (killC id x)
  | .agg l => .agg (l.map (killC id))
  | .tup l => .tup (l.map (killC id))

theorem RepC.kill {σ : List (Nat × Nat)} {id : Nat} (p : Nat × Nat) {x : AC} {v : Value} (h : RepC σ x v) : RepC (σ.set id p) (killC id x) v := by
  cases x with
  | ptr i o =>
    simp only [killC]
    split
    · trivial
    · rename_i hi
      obtain ⟨b, hb, e⟩ := h
      exact ⟨b, by rw [List.getElem?_set_ne (fun e => hi e.symm)]; exact hb, e⟩
  | slc i n =>
    simp only [killC]
    split
    · trivial
    · rename_i hi
      obtain ⟨b, hb, e⟩ := h
      exact ⟨b, by rw [List.getElem?_set_ne (fun e => hi e.symm)]; exact hb, e⟩
  | sub i o n =>
    simp only [killC]
    split
    · trivial
    · rename_i hi
      obtain ⟨b, a, c, hb, e⟩ := h
      exact ⟨b, a, c, by rw [List.getElem?_set_ne (fun e => hi e.symm)]; exact hb, e⟩
  | slw i n =>
    simp only [killC]
    split
    · trivial
    · rename_i hi
      obtain ⟨b, c, hb, e⟩ := h
      exact ⟨b, c, by rw [List.getElem?_set_ne (fun e => hi e.symm)]; exact hb, e⟩
  | clo f i j =>
    simp only [killC]
    split
    · trivial
    · rename_i hi
      obtain ⟨b, c, hb, hc, e⟩ := h
      exact ⟨b, c, by rw [List.getElem?_set_ne (fun e => hi (.inl e.symm))]; exact hb, by rw [List.getElem?_set_ne (fun e => hi (.inr e.symm))]; exact hc, e⟩
  | _ => exact h
theorem RepL.kill {σ : List (Nat × Nat)} {id : Nat} (p : Nat × Nat) {l : List AC} {vs : List Value} (h : RepL σ l vs) : RepL (σ.set id p) (l.map (killC id)) vs := by
  induction h with
  | nil => exact .nil
  | cons h _ ih => exact .cons (h.kill p) ih
theorem Rep.kill {σ : List (Nat × Nat)} {id : Nat} (p : Nat × Nat) {x : AV} {v : Value} (h : Rep σ x v) : Rep (σ.set id p) (killA id x) v := by
  cases x with
  | c x => exact RepC.kill p h
  | agg l => obtain ⟨vs, e, hl⟩ := h; exact ⟨vs, e, hl.kill p⟩
  | tup l => obtain ⟨vs, e, hl⟩ := h; exact ⟨vs, e, hl.kill p⟩
theorem RepF.kill {σ : List (Nat × Nat)} {id : Nat} (p : Nat × Nat) {F : List AV} {vs : List Value} (h : RepF σ F vs) : RepF (σ.set id p) (F.map (killA id)) vs := by
  induction h with
  | nil => exact .nil
  | cons h _ ih => exact .cons (h.kill p) ih
theorem RepP.kill {σ : List (Nat × Nat)} {id : Nat} (p : Nat × Nat) {cs : List AC} {vs : List Value} (h : RepP σ cs vs) : RepP (σ.set id p) (cs.map (killC id)) vs := by
  obtain ⟨k, h⟩ := h
  refine ⟨k, ?_⟩
  have := h.kill (id := id) p
  rw [List.map_append, List.map_replicate] at this
  exact this

/-- An append to a slice that the run made itself, of cells; or to none. -/
def appA (P : Program) (n0 k0 : Nat) (t : TypeId) (s x : AV) (F : List AV) (M : List (List AC)) : Option (AV × List AV × List (List AC)) :=
  match P.underlying t with
  | some (.slice e) =>
    match P.info? e with
    | some i =>
      if i.size = 1 ∧ i.zero.map (·.cells.size) = some 1 ∧ i.bytes ≤ 1000 then
        match s, x with
        | .c (.slc id n), .c (.slc id2 m) =>
          match M[id]?, M[id2]? with
          | some cs, some l =>
            if cs.length = n ∧ m ≤ l.length ∧ (l.take m).all oneA = true ∧ cs.all plainC = true ∧ (l.take m).all plainC = true ∧ n0 ≤ id ∧ k0 ≤ id ∧ 0 < m ∧ n + m ≤ 1000 then
              some (.c (.slc id (n + m)), F.map (killA id), (M.map (·.map (killC id))).set id (cs ++ l.take m))
            else none
          | _, _ => none
        | _, _ => none
      else none
    | none => none
  | _ => none

theorem cells_take {σ : List (Nat × Nat)} {l : List AC} {vs : List Value} (h : RepP σ l vs) (m : Nat) (hm : m ≤ l.length) : RepL σ (l.take m) (vs.take m) := by
  obtain ⟨k, h⟩ := h
  have := h.take m
  rw [List.take_append_of_le_length hm] at this
  exact this

theorem MemOk.kill {σ : List (Nat × Nat)} {M : List (List AC)} {w w' : World} {id : Nat} {p : Nat × Nat} {l : List AC} {vs : Array Value} {e : TypeId} (h : MemOk σ M w) (hid : id < σ.length)
    (hnew : w'.heap[p.1]? = some (.cells vs e (0, 0))) (hl : RepP (σ.set id p) l vs.toList) (hc : p.2 ≤ vs.size)
    (hfresh : ∀ (j : Nat) (b : Nat × Nat), j ≠ id → σ[j]? = some b → b.1 ≠ p.1 ∧ w'.heap[b.1]? = w.heap[b.1]?) : MemOk (σ.set id p) ((M.map (·.map (killC id))).set id l) w' := by
  refine ⟨by simp [h.len], ?_, fun j b cs hb hcs => ?_⟩
  · rw [List.nodup_iff_pairwise_ne, List.pairwise_iff_getElem]
    intro i j hi hj hij he
    have he' : ((σ.set id p).map (·.1))[i]? = ((σ.set id p).map (·.1))[j]? := by rw [List.getElem?_eq_getElem hi, List.getElem?_eq_getElem hj, he]
    have hi' : i < σ.length := by simpa using hi
    have hj' : j < σ.length := by simpa using hj
    clear he
    rw [List.getElem?_map, List.getElem?_map] at he'
    have at_ : ∀ k, (hk : k < σ.length) → k ≠ id → (σ.set id p)[k]? = some (σ[k]'hk) := fun k hk hne => by rw [List.getElem?_set_ne (Ne.symm hne), List.getElem?_eq_getElem hk]
    by_cases h1 : i = id
    · subst h1
      rw [List.getElem?_set_self hid, at_ j hj' (by omega)] at he'
      exact (hfresh j σ[j] (by omega) (List.getElem?_eq_getElem hj')).1 (Option.some.inj he').symm
    · by_cases h2 : j = id
      · subst h2
        rw [List.getElem?_set_self hid, at_ i hi' h1] at he'
        exact (hfresh i σ[i] h1 (List.getElem?_eq_getElem hi')).1 (Option.some.inj he')
      · rw [at_ i hi' h1, at_ j hj' h2] at he'
        have hn := h.nodup
        have h3 : (σ.map (·.1))[i]? = (σ.map (·.1))[j]? := by rw [List.getElem?_map, List.getElem?_map, List.getElem?_eq_getElem hi', List.getElem?_eq_getElem hj']; exact he'
        have := (List.getElem?_inj (by simpa using hi') hn).1 h3
        omega
  · by_cases hj : j = id
    · subst hj
      rw [List.getElem?_set_self hid] at hb
      rw [List.getElem?_set_self (by simpa [← h.len] using hid)] at hcs
      cases hb; cases hcs
      exact ⟨vs, e, hnew, hl, hc⟩
    · rw [List.getElem?_set_ne (Ne.symm hj)] at hb
      rw [List.getElem?_set_ne (Ne.symm hj), List.getElem?_map] at hcs
      cases hcs0 : M[j]? with
      | none => rw [hcs0] at hcs; cases hcs
      | some cs0 =>
        rw [hcs0] at hcs
        cases hcs
        obtain ⟨vs', e', hw, hr, hs⟩ := h.at_ j b cs0 hb hcs0
        exact ⟨vs', e', by rw [(hfresh j b hj hb).2]; exact hw, hr.kill p, hs⟩

theorem append_room {P : Program} {w : World} (t ty e e1 : TypeId) (i : TypeInfo) (ht : P.underlying t = some (.slice e)) (hi : P.info? e = some i)
    (g sLen sCap : Nat) (cur : Array Value) (hg : w.heap[g]? = some (.cells cur e1 (0, 0)))
    (a : Addr) (m c : Nat) (news : List Value) (hl : news.length = m * i.size) (hnews : ∀ j u, news[j]? = some u → w.cell? (a.add j) = some u) (h1 : ∀ u ∈ news, u.oneCell' = true)
    (hroom : sLen + m ≤ sCap) (hfit : sLen * i.size + news.length ≤ cur.size) :
    (Builtin.append_ #[t, t] ty #[.slice (some ⟨g, 0, none⟩) sLen sCap, .slice (some a) m c]).run P w =
      .ok (.slice (some ⟨g, 0, none⟩) (sLen + m) sCap) (w.setRow g (cur.toList.take (sLen * i.size) ++ news ++ cur.toList.drop (sLen * i.size + news.length)).toArray) := by
  have hf := run_firstCells_some (P := P) w i.size m a m c news hl hnews
  have hst := run_storeCells_at P g (sLen * i.size) e1 news 0 cur w hg (by simpa using hfit) h1
  simp only [Nat.add_zero] at hst
  simp [Builtin.append_, run_underlying ht, sizeOf, typeInfo, hi, Builtin.lenOf, hroom, hf, Addr.add_lit, hst]

theorem app_sound {P : Program} {n0 k0 : Nat} {w0 : Base} {F F1 : List AV} {M M1 : List (List AC)} {t ty : TypeId} {s x : Operand} {r : AV} (hk : w0.s0.length ≤ k0) (h : appA P n0 k0 t (evA F s) (evA F x) F M = some (r, F1, M1)) (dst : Option Tmp)
    {σ : List (Nat × Nat)} {a : Act} {w : World} (hS : St σ n0 w0 F M a w) : ∃ σ' v w', (Builtin.append_ #[t, t] ty #[a.eval s, a.eval x]).run P w = .ok v w' ∧ St σ' n0 w0 (putA F1 dst r) M1 (a.put dst v) w' := by
  unfold appA at h
  split at h
  · rename_i e ht
    split at h
    · rename_i i hi
      split at h
      · rename_i hsz
        obtain ⟨hsz, hzz, hby⟩ := hsz
        obtain ⟨z, hz, hz1⟩ : ∃ z, i.zero = some z ∧ z.cells.size = 1 := by
          cases hq : i.zero with
          | none => rw [hq] at hzz; cases hzz
          | some z => rw [hq] at hzz; exact ⟨z, rfl, Option.some.inj hzz⟩
        split at h
        · rename_i id n id2 m es ex
          split at h
          · rename_i cs l hcs hl
            split at h
            · rename_i hc
              obtain ⟨c1, c2, c3, c4, c5, c6, c7, c8, c9⟩ := hc
              cases h
              have hs := rep_ev hS.frame s
              have hx := rep_ev hS.frame x
              rw [es] at hs; rw [ex] at hx
              obtain ⟨b, hb, hbn, hvs⟩ := hs
              obtain ⟨b2, hb2, hbn2, hvx⟩ := hx
              obtain ⟨vs, e1, hw1, hP1, hs1⟩ := hS.mem.at_ id b cs hb hcs
              obtain ⟨us, e2, hw2, hP2, hs2⟩ := hS.mem.at_ id2 b2 l hb2 hl
              have hidlt : id < σ.length := (List.getElem?_eq_some_iff.1 hb).1
              have hnew := cells_take hP2 m c2
              have hold := cells_take hP1 n (by omega)
              have hold' : RepL σ cs (vs.toList.take n) := by rwa [List.take_of_length_le (by omega)] at hold
              have hPl1 := hP1.le
              have hPl2 := hP2.le
              simp only [Array.length_toList] at hPl1 hPl2
              have one : ∀ u ∈ us.toList.take m, u.cells = #[u] ∧ u.oneCell' = true := by
                intro u hu
                obtain ⟨j, hj⟩ := List.getElem?_of_mem hu
                have hjl : j < (l.take m).length := by rw [hnew.length]; exact (List.getElem?_eq_some_iff.1 hj).1
                obtain ⟨v, hv, hr⟩ := hnew.get? (List.getElem?_eq_getElem hjl)
                rw [hj] at hv
                cases hv
                exact oneA_cells hr (List.all_eq_true.1 c3 _ (List.getElem_mem _))
              have hll : (us.toList.take m).length = m * i.size := by simp [hsz]; omega
              have hnews : ∀ j u, (us.toList.take m)[j]? = some u → w.cell? ((⟨b2.1, 0, none⟩ : Addr).add j) = some u := by
                intro j u hj
                have hjm : j < m := by
                  have := (List.getElem?_eq_some_iff.1 hj).1
                  simp at this; omega
                rw [List.getElem?_take_of_lt hjm] at hj
                rw [add_off]
                simp only [World.cell?, hw2]
                simpa using hj
              have hpre : ∀ {p : Nat × Nat}, w0.s0 <+: σ.set id p := by
                intro p
                obtain ⟨t, ht⟩ := hS.pre
                refine ⟨t.set (id - w0.s0.length) p, ?_⟩
                rw [← ht, List.set_append_right _ _ (by omega)]
              rw [hvs, hvx]
              by_cases hroom : n + m ≤ b.2
              · -- in place
                have hr := append_room (P := P) (w := w) t ty e e1 i ht hi b.1 n b.2 vs hw1 ⟨b2.1, 0, none⟩ m b2.2 (us.toList.take m) hll hnews (fun u hu => (one u hu).2) hroom (by rw [hsz]; simp; omega)
                refine ⟨σ.set id b, _, _, hr, ?_⟩
                have hset : σ.set id b = σ := by
                  apply List.ext_getElem?
                  intro j
                  by_cases hj : id = j
                  · subst hj; rw [List.getElem?_set_self hidlt, hb]
                  · rw [List.getElem?_set_ne hj]
                rw [hsz, Nat.mul_one]
                have hlen : (us.toList.take m).length = m := by simp; omega
                refine ⟨by cases dst <;> exact hS.defers, rep_put (hS.frame.kill b) dst ?_, hS.mem.kill hidlt (p := b) (vs := (vs.toList.take n ++ us.toList.take m ++ vs.toList.drop (n + (us.toList.take m).length)).toArray) (e := e1) (setRow_heap w b.1 vs _ e1 (0, 0) hw1) ?_ ?_ ?_, hS.ext.setRow (hS.own id b c6 hb) _, ?_, hpre⟩
                · exact ⟨b, List.getElem?_set_self hidlt, hroom, rfl⟩
                · rw [hset]
                  refine ⟨vs.size - (n + m), ?_⟩
                  rw [List.toList_toArray]
                  refine (hold'.append hnew).append ?_
                  have := RepL.some_any (σ := σ) (vs.toList.drop (n + (us.toList.take m).length))
                  rw [List.length_drop, hlen, Array.length_toList] at this
                  rw [hlen]
                  exact this
                · simp; omega
                · intro j b' hj hb'
                  have hne : b'.1 ≠ b.1 := fun e => by
                    have h1 : (σ.map (·.1))[j]? = some b'.1 := by rw [List.getElem?_map, hb']; rfl
                    have h2 : (σ.map (·.1))[id]? = some b.1 := by rw [List.getElem?_map, hb]; rfl
                    exact hj ((List.getElem?_inj (List.getElem?_eq_some_iff.1 h1).1 hS.mem.nodup).1 (h1.trans (by rw [e, h2])))
                  refine ⟨hne, ?_⟩
                  simp only [World.setRow, Array.getElem?_modify]
                  rw [if_neg (Ne.symm hne)]
                · rw [hset]; exact hS.own
              · -- a new block
                have hcap : n ≤ 1000 := by omega
                have hnext := nextslicecap_le (need := n + m) (old := b.2) (by omega)
                have holds : ∀ j v, (vs.toList.take n)[j]? = some v → w.cell? ((⟨b.1, 0, none⟩ : Addr).add j) = some v := by
                  intro j u hj
                  have hjm : j < n := by
                    have := (List.getElem?_eq_some_iff.1 hj).1
                    simp at this; omega
                  rw [List.getElem?_take_of_lt hjm] at hj
                  rw [add_off]
                  simp only [World.cell?, hw1]
                  simpa using hj
                have hr := run_append_grow (P := P) w t ty e i z ht hi hz ⟨b.1, 0, none⟩ n b.2 (vs.toList.take n) (by simp [hsz]; omega) holds ⟨b2.1, 0, none⟩ m b2.2 (us.toList.take m) hll hnews (by omega) (by omega) (by
                  have : Builtin.nextslicecap (n + m) b.2 * i.bytes ≤ 2000 * 1000 := Nat.mul_le_mul (by omega) hby
                  omega)
                have hge := grownCap_ge w (n + m) b.2 e
                refine ⟨σ.set id (w.heap.size, grownCap w (n + m) b.2 e), _, _, hr, ?_⟩
                have hext : Ext w (w.drew.alloc (.cells ((vs.toList.take n).toArray ++ (us.toList.take m).toArray ++ Builtin.zeroCells z.cells (grownCap w (n + m) b.2 e - (n + m))) e)) := (Ext.drewN w 1).trans (Ext.alloc _ _)
                refine ⟨by cases dst <;> exact hS.defers, rep_put (hS.frame.kill _) dst ?_, hS.mem.kill hidlt (p := (w.heap.size, grownCap w (n + m) b.2 e)) (heap_alloc_new w.drew _) ?_ ?_ ?_, hS.ext.trans hext, ?_, hpre⟩
                · exact ⟨_, List.getElem?_set_self hidlt, hge, rfl⟩
                · refine ⟨grownCap w (n + m) b.2 e - (n + m), ?_⟩
                  have k1 : RepL (σ.set id (w.heap.size, grownCap w (n + m) b.2 e)) cs (vs.toList.take n) := plainL_rep c4 hold'
                  have k2 : RepL (σ.set id (w.heap.size, grownCap w (n + m) b.2 e)) (l.take m) (us.toList.take m) := plainL_rep c5 hnew
                  have k3 := RepL.some_any (σ := σ.set id (w.heap.size, grownCap w (n + m) b.2 e)) (Builtin.zeroCells z.cells (grownCap w (n + m) b.2 e - (n + m))).toList
                  rw [Array.length_toList, size_zeroCells, hz1, Nat.mul_one] at k3
                  have := (k1.append k2).append k3
                  simpa using this
                · simp only [Array.size_append, List.size_toArray, size_zeroCells, hz1, Nat.mul_one, List.length_take, Array.length_toList]
                  omega
                · intro j b' hj hb'
                  have hlt := hS.mem.lt hb'
                  exact ⟨by show b'.1 ≠ w.heap.size; omega, heap_alloc_old w.drew _ hlt⟩
                · intro j b' hj hb'
                  by_cases hji : j = id
                  · subst hji
                    rw [List.getElem?_set_self hidlt] at hb'
                    cases hb'
                    exact hS.ext.size
                  · rw [List.getElem?_set_ne (Ne.symm hji)] at hb'
                    exact hS.own j b' hj hb'
            · cases h
          · cases h
        · cases h
      · cases h
    · cases h
  · cases h

end Go.Proofs.Ytlpahmefebgdlaa.Fx
/- The executor, tenth part: code whose calls are run in place. No condition. -/
namespace Go.Proofs.Ytlpahmefebgdlaa.Fx
open Go Go.RowKit

variable {R : Type}

/-- What is done with the end does not matter. -/
theorem stA_nat {P : Program} {E : List (Entry P)} {n0 : Nat} {op : Op} {dst : Option Tmp} {F : List AV} {M : List (List AC)} {K : List AV → List (List AC) → Option R} {r : R} (h : stA P E n0 op dst F M K = some r) :
    ∃ F' M', K F' M' = some r ∧ ∀ w0 : Base, OpGoes P n0 w0 op dst F M F' M' := by
  have key : ∃ F' M', K F' M' = some r ∧ stA P E n0 op dst F M (fun F M => some (F, M)) = some (F', M') := by
    have viaOp : (match opA P E F M op with
      | some (ok, v) => cond ok (K (putA F dst v) M) none
      | none => none) = some r → ∃ F' M', K F' M' = some r ∧ (match opA P E F M op with
      | some (ok, v) => cond ok (some (putA F dst v, M)) none
      | none => none) = some (F', M') := by
      intro h
      split at h
      · rename_i ok v ho
        cases ok with
        | false => cases h
        | true => exact ⟨_, _, h, rfl⟩
      · cases h
    unfold stA at h ⊢
    split at h
    · split at h
      · rename_i b eb
        cases b with
        | true => exact ⟨_, _, h, rfl⟩
        | false => exact ⟨_, _, h, rfl⟩
      · cases h
    · split at h
      · rename_i l hl; exact ⟨_, _, h, rfl⟩
      · cases h
    · split at h
      · rename_i z hz; exact ⟨_, _, h, rfl⟩
      · cases h
    · split at h
      · rename_i id off l i ex hl hi
        split at h
        · rename_i cs hcs
          split at h
          · rename_i hc; exact ⟨_, _, h, by rw [if_pos hc]⟩
          · cases h
        · cases h
      · cases h
    · split at h
      · rename_i e hu
        split at h
        · rename_i ie l hie hl
          split at h
          · rename_i hc; exact ⟨_, _, h, by rw [if_pos hc]⟩
          · cases h
        · cases h
      · cases h
    · exact viaOp h
  obtain ⟨F', M', hK, hs⟩ := key
  refine ⟨F', M', hK, fun w0 => ?_⟩
  obtain ⟨F1, M1, h1, hg⟩ := stA_sound w0 hs
  cases h1
  exact hg

/-- A slice literal of any cells. -/
def litA (P : Program) (F : List AV) (t : TypeId) (len : Nat) (parts : List (Nat × Operand)) : Option (List AC) :=
  match P.underlying t with
  | some (.slice e) => match P.info? e with
    | some ie => match ie.zero with
      | some z =>
        cond (len == 0 && parts.isEmpty) (some []) (match partsA F parts with
          | some ps => match fillA (fun i => some (i * ie.size, ie.size)) (((Array.range (len * ie.size)).map (z.cells[· % z.cells.size]!)).toList.map toC) ps with
            | some l => if 0 < len ∧ len ≤ 1000 ∧ 0 < ie.size ∧ ie.size ≤ 100 then some l else none
            | none => none
          | none => none)
      | none => none
    | none => none
  | _ => none

theorem litA_sound {P : Program} {n0 : Nat} {w0 : Base} {F : List AV} {M : List (List AC)} {t : TypeId} {len : Nat} {parts : Array (Nat × Operand)} {l : List AC} (h : litA P F t len parts.toList = some l) (dst : Option Tmp) :
    OpGoes P n0 w0 (.buildSlice t len parts) dst F M (putA F dst (.c (.slc M.length len))) (M ++ [l]) := by
  unfold litA at h
  split at h
  · rename_i e hu
    split at h
    · rename_i ie hie
      split at h
      · rename_i z hz
        cases h0 : (len == 0 && parts.toList.isEmpty) with
        | true =>
          rw [h0] at h
          simp only [cond_true, Option.some.injEq] at h
          subst h
          rw [Bool.and_eq_true] at h0
          obtain ⟨hl0, hp0⟩ := h0
          have hl0' : len = 0 := by simpa using hl0
          subst hl0'
          have hp0' : parts = #[] := by cases parts; simp_all
          subst hp0'
          intro σ a w hS
          have hrun : (Instr.buildSlice t 0 (Array.map (fun (x : Nat × Operand) => (x.1, a.eval x.2)) #[])).run P w = .ok (.slice (some ⟨w.heap.size, 0, none⟩) 0 0) (w.alloc (.cells #[] e)) := by
            simp [Instr.buildSlice, run_underlying hu, sizeOf, typeInfo, hie, Instr.fill, newRow]
            have e0 : Array.range 0 = #[] := by apply Array.ext'; simp
            rw [e0, Array.map_empty]
          exact goes_val (v := .slice (some ⟨w.heap.size, 0, none⟩) 0 0) (w' := w.alloc (.cells #[] e)) (fun ty pos after gd => run_v hrun)
            (hS.push (vs := #[]) (c := 0) .nil (Nat.le_refl _) dst ⟨(w.heap.size, 0), new_id hS.mem, Nat.le_refl _, rfl⟩)
        | false =>
          rw [h0] at h
          simp only [cond_false] at h
          split at h
          · rename_i ps hps
            split at h
            · rename_i l' hl'
              split at h
              · rename_i hc
                obtain ⟨c1, c2, c3, c4⟩ := hc
                cases h
                intro σ a w hS
                obtain ⟨g1, g2⟩ := partsA_sound hS.frame _ _ hps
                obtain ⟨zs, hf, hr⟩ := fillA_sound (σ := σ) _ ps _ _ ((Array.range (len * ie.size)).map (z.cells[· % z.cells.size]!)) _ g1 g2 (rep_map_toC σ _) hl'
                have hsz : zs.size = len * ie.size := by
                  have h1 := hr.length
                  have h2 : ∀ (ps : List (Nat × List AC)) (cs r : List AC), fillA (fun i => some (i * ie.size, ie.size)) cs ps = some r → r.length = cs.length := by
                    intro ps
                    induction ps with
                    | nil => intro cs r h; cases h; rfl
                    | cons p ps ih =>
                      intro cs r h
                      obtain ⟨i, l⟩ := p
                      simp only [fillA] at h
                      split at h
                      · cases h
                      · rw [ih _ _ h]
                        unfold setAt
                        have : ∀ (l : List (AC × Nat)) (cs : List AC), (l.foldl (fun cs x => cs.set (i * ie.size + x.2) x.1) cs).length = cs.length := by
                          intro l
                          induction l with
                          | nil => intro cs; rfl
                          | cons x l ih => intro cs; rw [List.foldl_cons, ih, List.length_set]
                        exact this _ _
                  have h3 := h2 _ _ _ hl'
                  simp at h3
                  simp at h1
                  omega
                have hpos : 1 ≤ len * ie.size := Nat.mul_pos c1 c3
                have hbig : len * ie.size ≤ 1000 * 100 := Nat.mul_le_mul c2 c4
                have hle : len ≤ len * ie.size := Nat.le_mul_of_pos_right _ c3
                have hrun := run_buildSlice (P := P) w t e len (parts.map fun (i, x) => (i, a.eval x)) zs ie z hu hie hz (by omega) (by omega) (by
                  rw [Array.toList_map]; exact hf)
                exact goes_val (v := .slice (some ⟨w.heap.size, 0, none⟩) len len) (w' := w.alloc (.cells zs e)) (fun ty pos after gd => run_v hrun)
                  (hS.push (vs := zs) (c := len) hr (by omega) dst ⟨(w.heap.size, len), new_id hS.mem, Nat.le_refl _, rfl⟩)
              · cases h
            · cases h
          · cases h
      · cases h
    · cases h
  · cases h

/-- An operation; calls of the functions in I are run in place. -/
def stI (P : Program) (E : List (Entry P)) (I : List FuncId) (n0 k0 : Nat) (rec : Nat → Code → List AV → List (List AC) → (Out → List AV → List (List AC) → Option R) → Option R) (op : Op) (dst : Option Tmp) (F : List AV) (M : List (List AC)) (K : List AV → List (List AC) → Option R) : Option R :=
  match op with
  | .buildSlice t len parts => match litA P F t len parts.toList with
    | some l => K (putA F dst (.c (.slc M.length len))) (M ++ [l])
    | none => none
  | .call c => match c.callee with
    | .builtin .append => match c.args.toList, c.argTypes.toList with
      | [s, x], [t, t'] => if t = t' then match appA P n0 k0 t (evA F s) (evA F x) F M with
          | some (r, F1, M1) => K (putA F1 dst r) M1
          | none => none
        else none
      | _, _ => none
    | .value f => match evA F f with
      | .c (.val (.func (.func id) ⟨[]⟩ ⟨[]⟩)) =>
        cond (I.contains id) (match P.funcs[id]? with
          | some fn => match fn.body with
            | some body => cond (fn.name == "runtime.NumGoroutine") none (rec M.length body (c.args.toList.map (evA F) ++ List.replicate (fn.ntmps - c.args.toList.length) undefA) M fun o F' M' => match o with
                | .exit _ => none
                | _ => match resultA P fn F' M' with
                  | some v => K (putA F dst v) M'
                  | none => none)
            | none => none
          | none => none)
          (stA P E n0 (.call c) dst F M K)
      | _ => none
    | _ => stA P E n0 (.call c) dst F M K
  | op => stA P E n0 op dst F M K

theorem stI_sound {P : Program} {E : List (Entry P)} {I : List FuncId} {n0 k0 : Nat} {rec : Nat → Code → List AV → List (List AC) → (Out → List AV → List (List AC) → Option R) → Option R}
    (hrec : ∀ (k : Nat) (c : Code) (F : List AV) (M : List (List AC)) (K : Out → List AV → List (List AC) → Option R) (r : R), rec k c F M K = some r → ∃ o F' M', K o F' M' = some r ∧ ∀ w0 : Base, w0.s0.length ≤ k → CodeGoes P n0 w0 c F M o F' M')
    {op : Op} {dst : Option Tmp} {F : List AV} {M : List (List AC)} {K : List AV → List (List AC) → Option R} {r : R}
    (h : stI P E I n0 k0 rec op dst F M K = some r) : ∃ F' M', K F' M' = some r ∧ ∀ w0 : Base, w0.s0.length ≤ k0 → OpGoes P n0 w0 op dst F M F' M' := by
  have viaSt : ∀ {op : Op}, stA P E n0 op dst F M K = some r → ∃ F' M', K F' M' = some r ∧ ∀ w0 : Base, w0.s0.length ≤ k0 → OpGoes P n0 w0 op dst F M F' M' := by
    intro op h
    obtain ⟨F', M', hK, hg⟩ := stA_nat h
    exact ⟨F', M', hK, fun w0 _ => hg w0⟩
  unfold stI at h
  split at h
  · rename_i t len parts
    split at h
    · rename_i l hl
      exact ⟨_, _, h, fun w0 _ => litA_sound hl dst⟩
    · cases h
  · rename_i c
    split at h
    · rename_i hcal
      split at h
      · rename_i s x t t' hargs htys
        split at h
        · rename_i htt
          subst htt
          split at h
          · rename_i q F1 M1 happ
            refine ⟨_, _, h, fun w0 hk σ a w hS ty pos after gd next Q hn => ?_⟩
            obtain ⟨σ', v, w', hr, hs⟩ := app_sound (ty := ty) hk happ dst hS
            unfold Oper.wp
            have e1 : c.args.map a.eval = #[a.eval s, a.eval x] := by
              apply Array.ext'
              rw [Array.toList_map, hargs]; rfl
            have e2 : c.argTypes = #[t, t] := by
              apply Array.ext'
              rw [htys]
            have : (execOp a.eval ⟨dst, .call c, ty, pos, after, gd⟩).run P w = .ok (.value v) w' := by
              simp only [execOp, Go.resolve, hcal, e1, e2]
              simp [invoke, builtin, hr]
            rw [this]
            exact hn _ _ _ hs
          · cases h
        · cases h
      · cases h
    · rename_i f hcal
      split at h
      · rename_i id ef
        cases hI : I.contains id with
        | false => rw [hI] at h; exact viaSt h
        | true =>
          rw [hI] at h
          simp only [cond_true] at h
          split at h
          · rename_i fn hf
            split at h
            · rename_i body hb
              cases hnm : (fn.name == "runtime.NumGoroutine") with
              | true => rw [hnm] at h; cases h
              | false =>
                rw [hnm] at h
                simp only [cond_false] at h
                obtain ⟨o, F', M', hK, hg⟩ := hrec _ _ _ _ _ _ h
                have main : ∀ {v : AV}, o.toExit ≠ .normal ∨ True → (match o with | .exit _ => False | _ => True) → resultA P fn F' M' = some v → ∀ w0 : Base, w0.s0.length ≤ k0 → OpGoes P n0 w0 (.call c) dst F M (putA F dst v) M' := by
                  intro v _ ho hres w0 hk σ a w hS ty pos after gd next Q hn
                  have hfv := rep_ev hS.frame f
                  rw [ef] at hfv
                  have hf' : a.eval f = .func (.func id) #[] #[] := hfv
                  have hrun : (execOp a.eval ⟨dst, .call c, ty, pos, after, gd⟩).run P w = .ok (.enter id (c.args.map a.eval)) w := by
                    have : (execOp a.eval ⟨dst, .call c, ty, pos, after, gd⟩).run P w = (callFunc id (c.args.map a.eval)).run P w := by
                      simp only [execOp, Go.resolve, hcal, hf', Deferred.ofValue]
                      simp [invoke]
                    rw [this]; exact enter_of hf hnm hb
                  unfold Oper.wp
                  rw [hrun]
                  have hargs : (c.args.toList.map a.eval).toArray = c.args.map a.eval := by rw [← Array.toList_map, Array.toArray_toList]
                  rw [← hargs]
                  have ha : RepF σ (c.args.toList.map (evA F)) (c.args.toList.map a.eval) := repF_map hS.frame _
                  have fin : ∀ {σ' : List (Nat × Nat)} {a' : Act} {w' : World}, St σ' n0 ⟨w0.toWorld, σ⟩ F' M' a' w' →
                      a'.defers = [] ∧ ∃ u, (results fn a'.tmps).run P w' = .ok u w' ∧ next (a.put dst u) w' := by
                    intro σ' a' w' hs
                    obtain ⟨z, hz, hrz⟩ := results_sound (P := P) hs hres
                    obtain ⟨t, ht⟩ := hs.pre
                    refine ⟨hs.defers, z, hz, hn σ' _ _ ⟨by cases dst <;> exact hS.defers, rep_put ?_ dst hrz, hs.mem, hs.ext, hs.own, hS.pre.trans hs.pre⟩⟩
                    rw [← ht]; exact hS.frame.mono t
                  have hstart : RepF σ (c.args.toList.map (evA F) ++ List.replicate (fn.ntmps - c.args.toList.length) undefA) (c.args.toList.map a.eval ++ List.replicate (fn.ntmps - (c.args.toList.map a.eval).length) undef) := by
                    have h1 : ∀ (n : Nat), RepF σ (List.replicate n undefA) (List.replicate n undef) := by
                      intro n
                      induction n with
                      | zero => exact .nil
                      | succ n ih => exact .cons rfl ih
                    have h2 : ∀ {l l' : List AV} {us us' : List Value}, RepF σ l us → RepF σ l' us' → RepF σ (l ++ l') (us ++ us') := by
                      intro l l' us us' h h'
                      induction h with
                      | nil => exact h'
                      | cons h _ ih => exact .cons h ih
                    rw [List.length_map]
                    exact h2 ha (h1 _)
                  refine (calls_of_wp (R := fun e w' => ∃ u, e = .returned u ∧ next (a.put dst u) w') hf hb (hg ⟨w0.toWorld, σ⟩ (by rw [hS.mem.len]; exact Nat.le_refl _) σ _ w ⟨rfl, ?_, hS.mem, hS.ext, hS.own, List.prefix_refl _⟩ _ fun σ' a' w' hs => ?_)).mono fun e w' ⟨u, he, hu⟩ => by subst he; exact hu
                  · simpa using hstart
                  · obtain ⟨g1, u, g2, g3⟩ := fin hs
                    cases o with
                    | norm => exact ⟨g1, u, g2, u, rfl, g3⟩
                    | ret => exact ⟨g1, u, g2, u, rfl, g3⟩
                    | exit id => exact ho.elim
                cases o with
                | exit id => cases hK
                | norm =>
                  cases hres : resultA P fn F' M' with
                  | none => simp [hres] at hK
                  | some v => simp only [hres] at hK; exact ⟨_, _, hK, main (.inr trivial) trivial hres⟩
                | ret =>
                  cases hres : resultA P fn F' M' with
                  | none => simp [hres] at hK
                  | some v => simp only [hres] at hK; exact ⟨_, _, hK, main (.inr trivial) trivial hres⟩
            · cases h
          · cases h
      · cases h
    · exact viaSt h
  · exact viaSt h

/-- A region, in the text's order. -/
def regI (P : Program) (E : List (Entry P)) (I : List FuncId) (n0 k0 : Nat) (rec : Nat → Code → List AV → List (List AC) → (Out → List AV → List (List AC) → Option R) → Option R) (ops : Array Oper) : List Oper → List AV → List (List AC) → (List AV → List (List AC) → Option R) → Option R
  | [], F, M, K => K F M
  | o :: rest, F, M, K =>
    match o.guard with
    | none => stI P E I n0 k0 rec o.op o.dst F M fun F M => regI P E I n0 k0 rec ops rest F M K
    | some (j, want) =>
      match (ops[j]?).bind (·.dst) with
      | none => none
      | some d =>
        match F[d]? with
        | some (.c (.sb b)) =>
          cond b
            (cond want (stI P E I n0 k0 rec o.op o.dst (F.set d (.c (.sb true))) M fun F M => regI P E I n0 k0 rec ops rest F M K)
              (regI P E I n0 k0 rec ops rest (putA (F.set d (.c (.sb true))) o.dst undefA) M K))
            (cond want (regI P E I n0 k0 rec ops rest (putA (F.set d (.c (.sb false))) o.dst undefA) M K)
              (stI P E I n0 k0 rec o.op o.dst (F.set d (.c (.sb false))) M fun F M => regI P E I n0 k0 rec ops rest F M K))
        | some (.c (.val (.tuple _))) => regI P E I n0 k0 rec ops rest (putA F o.dst undefA) M K
        | _ => none

theorem regI_sound {P : Program} {E : List (Entry P)} {I : List FuncId} {n0 k0 : Nat} {rec : Nat → Code → List AV → List (List AC) → (Out → List AV → List (List AC) → Option R) → Option R} {ops : Array Oper}
    (hrec : ∀ (k : Nat) (c : Code) (F : List AV) (M : List (List AC)) (K : Out → List AV → List (List AC) → Option R) (r : R), rec k c F M K = some r → ∃ o F' M', K o F' M' = some r ∧ ∀ w0 : Base, w0.s0.length ≤ k → CodeGoes P n0 w0 c F M o F' M')
    {K : List AV → List (List AC) → Option R} {r : R} : ∀ (l : List Oper) {F : List AV} {M : List (List AC)},
    regI P E I n0 k0 rec ops l F M K = some r → ∃ F' M', K F' M' = some r ∧ ∀ w0 : Base, w0.s0.length ≤ k0 → ListGoes P n0 w0 ops l F M F' M'
  | [], F, M, h => ⟨F, M, h, fun _ _ _ _ _ hS _ hQ => hQ _ _ _ hS⟩
  | o :: rest, F, M, h => by
    have skip : ∀ {F1 : List AV}, (∀ (w0 : Base) σ a w, St σ n0 w0 F M a w → Region.wanted o (yielded ops a.tmps) = false ∧ St σ n0 w0 F1 M a w) → regI P E I n0 k0 rec ops rest (putA F1 o.dst undefA) M K = some r →
        ∃ F' M', K F' M' = some r ∧ ∀ w0 : Base, w0.s0.length ≤ k0 → ListGoes P n0 w0 ops (o :: rest) F M F' M' := by
      intro F1 hy h1
      obtain ⟨F', M', hK, hw⟩ := regI_sound hrec rest h1
      refine ⟨F', M', hK, fun w0 hk σ a w hS Q hQ => ?_⟩
      obtain ⟨hn, hS1⟩ := hy w0 σ a w hS
      unfold wpList
      rw [if_neg (by rw [hn]; decide)]
      exact hw w0 hk σ _ _ (hS1.put o.dst (x := undefA) (v := undef) rfl (Ext.refl _)) Q hQ
    have go : ∀ {F1 : List AV}, (∀ (w0 : Base) σ a w, St σ n0 w0 F M a w → Region.wanted o (yielded ops a.tmps) = true ∧ St σ n0 w0 F1 M a w) → (stI P E I n0 k0 rec o.op o.dst F1 M fun F M => regI P E I n0 k0 rec ops rest F M K) = some r →
        ∃ F' M', K F' M' = some r ∧ ∀ w0 : Base, w0.s0.length ≤ k0 → ListGoes P n0 w0 ops (o :: rest) F M F' M' := by
      intro F1 hy h1
      obtain ⟨F2, M2, hK2, hop⟩ := stI_sound hrec h1
      obtain ⟨F', M', hK, hrest⟩ := regI_sound hrec rest hK2
      refine ⟨F', M', hK, fun w0 hk σ a w hS Q hQ => ?_⟩
      obtain ⟨hn, hS1⟩ := hy w0 σ a w hS
      unfold wpList
      rw [if_pos hn]
      exact .inl (hop w0 hk σ a w hS1 o.type o.pos o.after o.guard _ _ fun σ' a' w' hs => hrest w0 hk σ' a' w' hs Q hQ)
    simp only [regI] at h
    split at h
    · rename_i hg
      exact go (fun w0 σ a w hS => ⟨by simp [Region.wanted, hg], hS⟩) h
    · rename_i j want hg
      split at h
      · cases h
      · rename_i d hd
        split at h
        · rename_i b hb
          have hy : ∀ (w0 : Base) σ a w, St σ n0 w0 F M a w → yielded ops a.tmps j = some b := fun w0 σ a w hS => (yielded_of hS hd).1 b hb
          cases b with
          | true =>
            cases want with
            | true => exact go (fun w0 σ a w hS => ⟨by simp [Region.wanted, hg, hy w0 σ a w hS], hS.know hb⟩) h
            | false => exact skip (fun w0 σ a w hS => ⟨by simp [Region.wanted, hg, hy w0 σ a w hS], hS.know hb⟩) h
          | false =>
            cases want with
            | true => exact skip (fun w0 σ a w hS => ⟨by simp [Region.wanted, hg, hy w0 σ a w hS], hS.know hb⟩) h
            | false => exact go (fun w0 σ a w hS => ⟨by simp [Region.wanted, hg, hy w0 σ a w hS], hS.know hb⟩) h
        · rename_i vs hb
          exact skip (fun w0 σ a w hS => ⟨by simp [Region.wanted, hg, (yielded_of hS hd).2 vs hb], hS⟩) h
        · cases h

theorem regM_all {P : Program} {E : List (Entry P)} {n0 : Nat} {id : Nat} {ops : Array Oper} {K : List AV → List (List AC) → Option R} {r : R} (hm : P.follows .mixedOrders = true) {F : List AV} {M : List (List AC)}
    (hp : stillOps ops.toList = true) (hB : Region.lexB .any ops = true) (hC : memLexB .any ops = true) (h : regA P E n0 ops ops.toList F M K = some r) : ∃ F' M', K F' M' = some r ∧ ∀ w0 : Base, CodeGoes P n0 w0 (.region id ops true) F M .norm F' M' := by
  obtain ⟨F', M', hr, hK⟩ := regA_runM ops.toList hp h
  simp only [Region.lexB, Bool.and_eq_true] at hB
  refine ⟨F', M', hK, fun w0 σ a w hS Q hQ => wp_region_any hm ?_⟩
  have := anyM_lex (md := .any) ops.toList 0 (Array.replicate ops.size false) F M (by simp) (by simpa using hB.2) (by simpa [memLexB] using hC) hr
  exact anyM_sound ops.size _ F M σ a _ (by simpa using this) hS.drew hQ

/-- Code; n rounds deep at most; calls of the functions in I run in place. -/
def exI (P : Program) (E : List (Entry P)) (I : List FuncId) (n0 : Nat) : Nat → Nat → Code → List AV → List (List AC) → (Out → List AV → List (List AC) → Option R) → Option R
  | 0, _, _, _, _, _ => none
  | n + 1, k0, c, F, M, K =>
    match c with
    | .skip => K .norm F M
    | .region _ ops draw => cond draw (cond (P.follows .mixedOrders && (stillOps ops.toList && (Region.lexB .any ops && memLexB .any ops))) (regA P E n0 ops ops.toList F M fun F M => K .norm F M) none)
        (regI P E I n0 k0 (fun k c F M K => exI P E I n0 n k c F M K) ops ops.toList F M fun F M => K .norm F M)
    | .seq x y => exI P E I n0 n k0 x F M fun o F M =>
      match o with
      | .norm => exI P E I n0 n k0 y F M K
      | .exit id => K (.exit id) F M
      | .ret => K .ret F M
    | .cond (.tmp t) x y =>
      match F[t]? with
      | some (.c (.sb b)) => cond b (exI P E I n0 n k0 x (F.set t (.c (.sb true))) M K) (exI P E I n0 n k0 y (F.set t (.c (.sb false))) M K)
      | _ => none
    | .block id x => exI P E I n0 n k0 x F M fun o F M =>
      match o with
      | .norm => K .norm F M
      | .exit i => cond (i == id) (K .norm F M) (K (.exit i) F M)
      | .ret => K .ret F M
    | .loop x => exI P E I n0 n k0 x F M fun o F M =>
      match o with
      | .norm => exI P E I n0 n k0 (.loop x) F M K
      | .exit id => K (.exit id) F M
      | .ret => K .ret F M
    | .exit id => K (.exit id) F M
    | .ret => K .ret F M
    | _ => none

theorem exI_sound {P : Program} {E : List (Entry P)} {I : List FuncId} {n0 : Nat} : ∀ (n : Nat),
    (∀ (k0 : Nat) (c : Code) (F : List AV) (M : List (List AC)) (K : Out → List AV → List (List AC) → Option R) (r : R), exI P E I n0 n k0 c F M K = some r → ∃ o F' M', K o F' M' = some r ∧ ∀ w0 : Base, w0.s0.length ≤ k0 → CodeGoes P n0 w0 c F M o F' M') ∧
    (∀ (k0 : Nat) (x : Code) (F : List AV) (M : List (List AC)) (K : Out → List AV → List (List AC) → Option R) (r : R), exI P E I n0 n k0 (.loop x) F M K = some r → ∃ o F' M', K o F' M' = some r ∧ ∀ w0 : Base, w0.s0.length ≤ k0 → ∃ N, ∀ (σ : List (Nat × Nat)) (a : Act) (w : World), St σ n0 w0 F M a w →
      ∀ (Q : Exit → Act → World → Prop), (∀ σ' a' w', St σ' n0 w0 F' M' a' w' → Q o.toExit a' w') → Code.rounds P x Q N a w)
  | 0 => ⟨(fun _ _ _ _ _ _ h => by cases h), (fun _ _ _ _ _ _ h => by cases h)⟩
  | n + 1 => by
    obtain ⟨ih1, ih2⟩ := exI_sound n
    have hloop : ∀ (k0 : Nat) (x : Code) (F : List AV) (M : List (List AC)) (K : Out → List AV → List (List AC) → Option R) (r : R), exI P E I n0 (n + 1) k0 (.loop x) F M K = some r → ∃ o F' M', K o F' M' = some r ∧ ∀ w0 : Base, w0.s0.length ≤ k0 → ∃ N, ∀ (σ : List (Nat × Nat)) (a : Act) (w : World), St σ n0 w0 F M a w →
      ∀ (Q : Exit → Act → World → Prop), (∀ σ' a' w', St σ' n0 w0 F' M' a' w' → Q o.toExit a' w') → Code.rounds P x Q N a w := by
      intro k0 x F M K r h
      simp only [exI] at h
      obtain ⟨o, F1, M1, hK1, hx⟩ := ih1 k0 x F M _ r h
      cases o with
      | norm =>
        obtain ⟨o, F', M', hK, hN⟩ := ih2 k0 x F1 M1 K r hK1
        refine ⟨o, F', M', hK, fun w0 hk => ?_⟩
        obtain ⟨N, hN⟩ := hN w0 hk
        exact ⟨N + 1, fun σ a w hS Q hQ => hx w0 hk σ a w hS _ fun σ' a' w' hs => hN σ' a' w' hs Q hQ⟩
      | exit id => exact ⟨.exit id, F1, M1, hK1, fun w0 hk => ⟨1, fun σ a w hS Q hQ => hx w0 hk σ a w hS _ fun σ' a' w' hs => hQ σ' a' w' hs⟩⟩
      | ret => exact ⟨.ret, F1, M1, hK1, fun w0 hk => ⟨1, fun σ a w hS Q hQ => hx w0 hk σ a w hS _ fun σ' a' w' hs => hQ σ' a' w' hs⟩⟩
    refine ⟨fun k0 c F M K r h => ?_, hloop⟩
    cases c with
    | skip => exact ⟨.norm, F, M, h, fun w0 _ σ a w hS Q hQ => wp_skip (hQ σ a w hS)⟩
    | region id ops draw =>
      simp only [exI] at h
      cases draw with
      | true =>
        cases hp : (P.follows .mixedOrders && (stillOps ops.toList && (Region.lexB .any ops && memLexB .any ops))) with
        | false => simp only [hp, cond_true, cond_false] at h; cases h
        | true =>
          simp only [hp, cond_true] at h
          simp only [Bool.and_eq_true] at hp
          obtain ⟨F', M', hK, hg⟩ := regM_all hp.1 hp.2.1 hp.2.2.1 hp.2.2.2 h
          exact ⟨.norm, F', M', hK, fun w0 _ => hg w0⟩
      | false =>
        simp only [cond_false] at h
        obtain ⟨F', M', hK, hl⟩ := regI_sound (fun k c F M K r h => ih1 k c F M K r h) ops.toList h
        exact ⟨.norm, F', M', hK, fun w0 hk σ a w hS Q hQ => wp_region_list (hl w0 hk σ a w hS Q hQ)⟩
    | seq x y =>
      simp only [exI] at h
      obtain ⟨o, F1, M1, hK1, hx⟩ := ih1 k0 x F M _ r h
      cases o with
      | norm =>
        obtain ⟨o, F', M', hK, hy⟩ := ih1 k0 y F1 M1 K r hK1
        exact ⟨o, F', M', hK, fun w0 hk σ a w hS Q hQ => wp_seq (hx w0 hk σ a w hS _ fun σ' a' w' hs => hy w0 hk σ' a' w' hs Q hQ)⟩
      | exit id => exact ⟨.exit id, F1, M1, hK1, fun w0 hk σ a w hS Q hQ => wp_seq (hx w0 hk σ a w hS _ fun σ' a' w' hs => hQ σ' a' w' hs)⟩
      | ret => exact ⟨.ret, F1, M1, hK1, fun w0 hk σ a w hS Q hQ => wp_seq (hx w0 hk σ a w hS _ fun σ' a' w' hs => hQ σ' a' w' hs)⟩
    | cond c x y =>
      cases c with
      | tmp t =>
        simp only [exI] at h
        split at h
        · rename_i b hb
          have hev : ∀ (w0 : Base) σ a w, St σ n0 w0 F M a w → a.eval (.tmp t) = .bool b := by
            intro w0 σ a w hS
            obtain ⟨v, hv, hr⟩ := hS.frame.get? hb
            have hr' : v = .bool b := hr
            subst hr'
            have hv' : a.tmps[t]? = some (.bool b) := by simpa using hv
            simp [Act.eval, Array.getD_eq_getD_getElem?, hv']
          cases b with
          | true =>
            obtain ⟨o, F', M', hK, hx⟩ := ih1 k0 x _ M K r h
            exact ⟨o, F', M', hK, fun w0 hk σ a w hS Q hQ => wp_cond_true (hev w0 σ a w hS) (hx w0 hk σ a w (hS.know hb) Q hQ)⟩
          | false =>
            obtain ⟨o, F', M', hK, hx⟩ := ih1 k0 y _ M K r h
            exact ⟨o, F', M', hK, fun w0 hk σ a w hS Q hQ => wp_cond_false (hev w0 σ a w hS) (hx w0 hk σ a w (hS.know hb) Q hQ)⟩
        · cases h
      | const v => cases h
      | global g => cases h
      | func f => cases h
    | block id x =>
      simp only [exI] at h
      obtain ⟨o, F1, M1, hK1, hx⟩ := ih1 k0 x F M _ r h
      cases o with
      | norm => exact ⟨.norm, F1, M1, hK1, fun w0 hk σ a w hS Q hQ => wp_block (hx w0 hk σ a w hS _ fun σ' a' w' hs => hQ σ' a' w' hs)⟩
      | exit i =>
        by_cases hi : i = id
        · subst hi
          simp only [beq_self_eq_true, cond_true] at hK1
          exact ⟨.norm, F1, M1, hK1, fun w0 hk σ a w hS Q hQ => wp_block (hx w0 hk σ a w hS _ fun σ' a' w' hs => by simp only [Out.toExit, Exit.inBlock, if_true]; exact hQ σ' a' w' hs)⟩
        · have hb : (i == id) = false := by simpa using hi
          simp only [hb, cond_false] at hK1
          exact ⟨.exit i, F1, M1, hK1, fun w0 hk σ a w hS Q hQ => wp_block (hx w0 hk σ a w hS _ fun σ' a' w' hs => by simp only [Out.toExit, Exit.inBlock, hi, if_false]; exact hQ σ' a' w' hs)⟩
      | ret => exact ⟨.ret, F1, M1, hK1, fun w0 hk σ a w hS Q hQ => wp_block (hx w0 hk σ a w hS _ fun σ' a' w' hs => hQ σ' a' w' hs)⟩
    | loop x =>
      obtain ⟨o, F', M', hK, hN⟩ := hloop k0 x F M K r h
      refine ⟨o, F', M', hK, fun w0 hk σ a w hS Q hQ => ?_⟩
      obtain ⟨N, hN⟩ := hN w0 hk
      exact wp_loop_rounds N (hN σ a w hS Q hQ)
    | exit id => exact ⟨.exit id, F, M, h, fun w0 _ σ a w hS Q hQ => wp_exit (hQ σ a w hS)⟩
    | ret => exact ⟨.ret, F, M, h, fun w0 _ σ a w hS Q hQ => wp_ret (hQ σ a w hS)⟩
    | _ => cases h

theorem calls_of_goes' {P : Program} {f : FuncId} {fn : Func} {c : Code} (hf : P.funcs[f]? = some fn) (hb : fn.body = some c) {args : List AV} {r : AV} {o : Out} {F' : List AV} {M' : List (List AC)} (hK : (match o with
      | .exit _ => none
      | _ => match resultA P fn F' M' with
        | some v => cond (plainA v) (some v) none
        | none => none) = some r) (h : ∀ w : World, CodeGoes P 0 ⟨w, []⟩ c (args ++ List.replicate (fn.ntmps - args.length) undefA) [] o F' M')
    (hp : args.all plainA = true) {σ : List (Nat × Nat)} {vs : List Value} {w : World} (ha0 : RepF σ args vs) : Calls P f vs.toArray w fun e w' => ∃ v, e = .returned v ∧ Rep σ r v ∧ Ext w w' := by
  have ha : RepF [] args vs := plainF hp ha0
  have fin : ∀ (hK' : (match resultA P fn F' M' with | some v => cond (plainA v) (some v) none | none => none) = some r) {σ' : List (Nat × Nat)} {a' : Act} {w' : World} (hs : St σ' 0 ⟨w, []⟩ F' M' a' w'),
      a'.defers = [] ∧ ∃ v, (results fn a'.tmps).run P w' = .ok v w' ∧ ∃ u, (Ending.returned v) = .returned u ∧ Rep σ r u ∧ Ext w w' := by
    intro hK' σ' a' w' hs
    cases hr : resultA P fn F' M' with
    | none => simp [hr] at hK'
    | some v =>
      simp only [hr] at hK'
      cases hp : plainA v with
      | false => simp [hp] at hK'
      | true =>
        simp only [hp, cond_true, Option.some.injEq] at hK'
        subst hK'
        obtain ⟨z, hz, hrz⟩ := results_sound (P := P) hs hr
        exact ⟨hs.defers, z, hz, z, rfl, plain_rep hp hrz, hs.ext⟩
  refine calls_of_wp hf hb (h w [] _ w ⟨rfl, ?_, MemOk.nil w, Ext.refl _, fun id b hid hbb => (by cases hbb), List.prefix_refl _⟩ _ fun σ' a' w' hs => ?_)
  · have hlen := ha.length
    have h1 : ∀ (n : Nat), RepF [] (List.replicate n undefA) (List.replicate n undef) := by
      intro n
      induction n with
      | zero => exact .nil
      | succ n ih => exact .cons rfl ih
    have h2 : ∀ {l l' : List AV} {us us' : List Value}, RepF [] l us → RepF [] l' us' → RepF [] (l ++ l') (us ++ us') := by
      intro l l' us us' h h'
      induction h with
      | nil => exact h'
      | cons h _ ih => exact .cons h ih
    simpa [hlen] using h2 ha (h1 (fn.ntmps - vs.length))
  · cases o with
    | norm => exact fin hK hs
    | ret => exact fin hK hs
    | exit id => cases hK

/-- A function's answer, with the calls of I run in place. -/
def runI (P : Program) (E : List (Entry P)) (I : List FuncId) (fn : Func) (args : List AV) : Option AV :=
  match fn.body with
  | none => none
  | some c => exI P E I 0 4000 0 c (args ++ List.replicate (fn.ntmps - args.length) undefA) [] fun o F M =>
    match o with
    | .exit _ => none
    | _ => match resultA P fn F M with
      | some v => cond (plainA v) (some v) none
      | none => none

theorem runI_sound {P : Program} {E : List (Entry P)} {I : List FuncId} {f : FuncId} {fn : Func} (hf : P.funcs[f]? = some fn) {args : List AV} {r : AV} (hp : args.all plainA = true) (h : runI P E I fn args = some r)
    {σ : List (Nat × Nat)} {vs : List Value} {w : World} (ha : RepF σ args vs) :
    Calls P f vs.toArray w fun e w' => ∃ v, e = .returned v ∧ Rep σ r v ∧ Ext w w' := by
  unfold runI at h
  split at h
  · cases h
  · rename_i c hb
    obtain ⟨o, F', M', hK, hg⟩ := (exI_sound 4000).1 0 c _ [] _ r h
    exact calls_of_goes' hf hb hK (fun w => hg ⟨w, []⟩ (Nat.le_refl _)) hp ha

end Go.Proofs.Ytlpahmefebgdlaa.Fx
/- The executor, eleventh part: functions that return a slice of their own, or none. No condition. -/
namespace Go.Proofs.Ytlpahmefebgdlaa.Fx
open Go Go.RowKit

variable {R : Type}

/-- What a function answers that returns a slice of its own and true, or none and false. -/
structure EntryN (P : Program) where
  f : FuncId
  fn : List AV → Option (Bool × Bool × List AC)
  len : List AC → Nat := fun cells => cells.length
  enter : ∀ (args : Array Value) (w : World), (callFunc f args).run P w = .ok (.enter f args) w
  ok : ∀ args b cells, fn args = some (true, b, cells) → ∀ vs w, RepF [] args vs → args.all plainA = true → Calls P f vs.toArray w fun e w' => Ext w w' ∧
    (match b with
    | true => ∃ (blk cap : Nat) (us : Array Value) (t : TypeId), e = .returned (.tuple #[.slice (some ⟨blk, 0, none⟩) (len cells) cap, .bool true]) ∧ w.heap.size ≤ blk ∧ w'.heap[blk]? = some (.cells us t (0, 0)) ∧ RepP [] cells us.toList ∧ cap ≤ us.size ∧ len cells ≤ cap
    | false => e = .returned (.tuple #[.slice none 0 0, .bool false]))

def findN {P : Program} : List (EntryN P) → FuncId → Option (EntryN P)
  | [], _ => none
  | e :: l, f => if e.f == f then some e else findN l f
theorem findN_f {P : Program} {E : List (EntryN P)} {f : FuncId} {e : EntryN P} (h : findN E f = some e) : e.f = f := by
  induction E with
  | nil => cases h
  | cons a l ih =>
    simp only [findN] at h
    split at h
    · rename_i hf; cases h; simpa using hf
    · exact ih h

theorem MemOk.pushAt {σ : List (Nat × Nat)} {M : List (List AC)} {w w' : World} (h : MemOk σ M w) (hx : Ext w w') {blk cap : Nat} {l : List AC} {us : Array Value} {t : TypeId} (h1 : w.heap.size ≤ blk) (h2 : w'.heap[blk]? = some (.cells us t (0, 0)))
    (h3 : RepP (σ ++ [(blk, cap)]) l us.toList) (h4 : cap ≤ us.size) : MemOk (σ ++ [(blk, cap)]) (M ++ [l]) w' := by
  refine ⟨by simp [h.len], ?_, ?_⟩
  · rw [List.map_append, List.nodup_append]
    refine ⟨h.nodup, by simp, fun a ha b hb => ?_⟩
    simp only [List.map_cons, List.map_nil, List.mem_singleton] at hb
    subst hb
    obtain ⟨p, hp, rfl⟩ := List.mem_map.1 ha
    obtain ⟨i, hi⟩ := List.getElem?_of_mem hp
    have := h.lt hi
    omega
  · intro id b cs hb hcs
    by_cases hi : id < σ.length
    · rw [List.getElem?_append_left hi] at hb
      rw [List.getElem?_append_left (by rw [← h.len]; exact hi)] at hcs
      obtain ⟨vs', e', hw, hr, hs⟩ := (h.ext hx).at_ id b cs hb hcs
      exact ⟨vs', e', hw, hr.mono _, hs⟩
    · have hid : id = σ.length := by
        have := (List.getElem?_eq_some_iff.1 hb).1
        simp at this; omega
      subst hid
      simp only [List.getElem?_append_right (Nat.le_refl _), Nat.sub_self, List.getElem?_cons_zero, Option.some.injEq] at hb
      rw [h.len] at hcs
      simp only [List.getElem?_append_right (Nat.le_refl _), Nat.sub_self, List.getElem?_cons_zero, Option.some.injEq] at hcs
      subst hb hcs
      exact ⟨us, t, h2, h3, h4⟩

/-- An operation; calls of the functions in I are run in place. -/
def stJ (P : Program) (E : List (Entry P)) (I : List FuncId) (N : List (EntryN P)) (n0 k0 : Nat) (rec : Nat → Code → List AV → List (List AC) → (Out → List AV → List (List AC) → Option R) → Option R) (op : Op) (dst : Option Tmp) (F : List AV) (M : List (List AC)) (K : List AV → List (List AC) → Option R) : Option R :=
  match op with
  | .buildSlice t len parts => match litA P F t len parts.toList with
    | some l => K (putA F dst (.c (.slc M.length len))) (M ++ [l])
    | none => none
  | .call c => match c.callee with
    | .builtin .append => match c.args.toList, c.argTypes.toList with
      | [s, x], [t, t'] => if t = t' then match appA P n0 k0 t (evA F s) (evA F x) F M with
          | some (r, F1, M1) => K (putA F1 dst r) M1
          | none => none
        else none
      | _, _ => none
    | .value f => match evA F f with
      | .c (.val (.func (.func id) ⟨[]⟩ ⟨[]⟩)) =>
        match findN N id with
        | some e => match e.fn (c.args.toList.map (evA F)) with
          | some (q, b, cells) => cond (q && ((c.args.toList.map (evA F)).all plainA && cells.all plainC)) (cond b (K (putA F dst (.tup [.slc M.length (e.len cells), .sb true])) (M ++ [cells])) (K (putA F dst (.tup [.val (.slice none 0 0), .sb false])) M)) none
          | none => none
        | none => cond (I.contains id) (match P.funcs[id]? with
          | some fn => match fn.body with
            | some body => cond (fn.name == "runtime.NumGoroutine") none (rec M.length body (c.args.toList.map (evA F) ++ List.replicate (fn.ntmps - c.args.toList.length) undefA) M fun o F' M' => match o with
                | .exit _ => none
                | _ => match resultA P fn F' M' with
                  | some v => K (putA F dst v) M'
                  | none => none)
            | none => none
          | none => none)
          (stA P E n0 (.call c) dst F M K)
      | _ => none
    | _ => stA P E n0 (.call c) dst F M K
  | op => stA P E n0 op dst F M K

theorem stJ_sound {P : Program} {E : List (Entry P)} {I : List FuncId} {N : List (EntryN P)} {n0 k0 : Nat} {rec : Nat → Code → List AV → List (List AC) → (Out → List AV → List (List AC) → Option R) → Option R}
    (hrec : ∀ (k : Nat) (c : Code) (F : List AV) (M : List (List AC)) (K : Out → List AV → List (List AC) → Option R) (r : R), rec k c F M K = some r → ∃ o F' M', K o F' M' = some r ∧ ∀ w0 : Base, w0.s0.length ≤ k → CodeGoes P n0 w0 c F M o F' M')
    {op : Op} {dst : Option Tmp} {F : List AV} {M : List (List AC)} {K : List AV → List (List AC) → Option R} {r : R}
    (h : stJ P E I N n0 k0 rec op dst F M K = some r) : ∃ F' M', K F' M' = some r ∧ ∀ w0 : Base, w0.s0.length ≤ k0 → OpGoes P n0 w0 op dst F M F' M' := by
  have viaSt : ∀ {op : Op}, stA P E n0 op dst F M K = some r → ∃ F' M', K F' M' = some r ∧ ∀ w0 : Base, w0.s0.length ≤ k0 → OpGoes P n0 w0 op dst F M F' M' := by
    intro op h
    obtain ⟨F', M', hK, hg⟩ := stA_nat h
    exact ⟨F', M', hK, fun w0 _ => hg w0⟩
  unfold stJ at h
  split at h
  · rename_i t len parts
    split at h
    · rename_i l hl
      exact ⟨_, _, h, fun w0 _ => litA_sound hl dst⟩
    · cases h
  · rename_i c
    split at h
    · rename_i hcal
      split at h
      · rename_i s x t t' hargs htys
        split at h
        · rename_i htt
          subst htt
          split at h
          · rename_i q F1 M1 happ
            refine ⟨_, _, h, fun w0 hk σ a w hS ty pos after gd next Q hn => ?_⟩
            obtain ⟨σ', v, w', hr, hs⟩ := app_sound (ty := ty) hk happ dst hS
            unfold Oper.wp
            have e1 : c.args.map a.eval = #[a.eval s, a.eval x] := by
              apply Array.ext'
              rw [Array.toList_map, hargs]; rfl
            have e2 : c.argTypes = #[t, t] := by
              apply Array.ext'
              rw [htys]
            have : (execOp a.eval ⟨dst, .call c, ty, pos, after, gd⟩).run P w = .ok (.value v) w' := by
              simp only [execOp, Go.resolve, hcal, e1, e2]
              simp [invoke, builtin, hr]
            rw [this]
            exact hn _ _ _ hs
          · cases h
        · cases h
      · cases h
    · rename_i f hcal
      split at h
      · rename_i id ef
        split at h
        · rename_i e hfind
          split at h
          · rename_i q b cells hfn
            cases hq : (q && ((c.args.toList.map (evA F)).all plainA && cells.all plainC)) with
            | false => rw [hq] at h; cases h
            | true =>
              rw [hq] at h
              simp only [cond_true] at h
              simp only [Bool.and_eq_true] at hq
              obtain ⟨rfl, hpa, hpc⟩ := hq
              have hid := findN_f hfind
              subst hid
              have enter : ∀ {a : Act} {w : World} {σ : List (Nat × Nat)} {w0 : Base}, St σ n0 w0 F M a w → ∀ (ty : TypeId) (pos : String) (after : Array Edge) (gd : Option (Nat × Bool)),
                  (execOp a.eval ⟨dst, .call c, ty, pos, after, gd⟩).run P w = .ok (.enter e.f (c.args.map a.eval)) w := by
                intro a w σ w0 hS ty pos after gd
                have hfv := rep_ev hS.frame f
                rw [ef] at hfv
                have hf' : a.eval f = .func (.func e.f) #[] #[] := hfv
                have : (execOp a.eval ⟨dst, .call c, ty, pos, after, gd⟩).run P w = (callFunc e.f (c.args.map a.eval)).run P w := by
                  simp only [execOp, Go.resolve, hcal, hf', Deferred.ofValue]
                  simp [invoke]
                rw [this]; exact e.enter _ _
              have hargs : ∀ (a : Act), (c.args.toList.map a.eval).toArray = c.args.map a.eval := fun a => by rw [← Array.toList_map, Array.toArray_toList]
              cases b with
              | true =>
                refine ⟨_, _, h, fun w0 hk σ a w hS ty pos after gd next Q hn => ?_⟩
                unfold Oper.wp
                rw [enter hS ty pos after gd, ← hargs a]
                refine (e.ok _ _ _ hfn _ w (plainF hpa (repF_map hS.frame _)) hpa).mono fun en w' ⟨hx, hr⟩ => ?_
                obtain ⟨blk, cap, us, t, rfl, h1, h2, h3, h4, h5⟩ := hr
                obtain ⟨kk, h3⟩ := h3
                have h3' : RepP (σ ++ [(blk, cap)]) cells us.toList := ⟨kk, plainL_rep (by simp [hpc]; right; rfl) h3⟩
                exact hn (σ ++ [(blk, cap)]) _ _ ⟨by cases dst <;> exact hS.defers, rep_put (hS.frame.mono _) dst ⟨_, rfl, .cons ⟨(blk, cap), by rw [← hS.mem.len, List.getElem?_append_right (Nat.le_refl _), Nat.sub_self]; rfl, h5, rfl⟩ (.cons rfl .nil)⟩,
                  hS.mem.pushAt hx h1 h2 h3' h4, hS.ext.trans hx, fun id b hid hb => (by
                    by_cases hi : id < σ.length
                    · rw [List.getElem?_append_left hi] at hb; exact hS.own id b hid hb
                    · have hid' : id = σ.length := by
                        have := (List.getElem?_eq_some_iff.1 hb).1
                        simp at this; omega
                      subst hid'
                      simp only [List.getElem?_append_right (Nat.le_refl _), Nat.sub_self, List.getElem?_cons_zero, Option.some.injEq] at hb
                      subst hb
                      exact Nat.le_trans hS.ext.size h1), hS.pre.trans (List.prefix_append _ _)⟩
              | false =>
                refine ⟨_, _, h, fun w0 hk σ a w hS ty pos after gd next Q hn => ?_⟩
                unfold Oper.wp
                rw [enter hS ty pos after gd, ← hargs a]
                refine (e.ok _ _ _ hfn _ w (plainF hpa (repF_map hS.frame _)) hpa).mono fun en w' ⟨hx, hr⟩ => ?_
                have hr' : en = .returned (.tuple #[.slice none 0 0, .bool false]) := hr
                subst hr'
                exact hn σ _ _ (hS.put dst (x := .tup [.val (.slice none 0 0), .sb false]) ⟨_, rfl, .cons rfl (.cons rfl .nil)⟩ hx)
          · cases h
        cases hI : I.contains id with
        | false => rw [hI] at h; exact viaSt h
        | true =>
          rw [hI] at h
          simp only [cond_true] at h
          split at h
          · rename_i fn hf
            split at h
            · rename_i body hb
              cases hnm : (fn.name == "runtime.NumGoroutine") with
              | true => rw [hnm] at h; cases h
              | false =>
                rw [hnm] at h
                simp only [cond_false] at h
                obtain ⟨o, F', M', hK, hg⟩ := hrec _ _ _ _ _ _ h
                have main : ∀ {v : AV}, o.toExit ≠ .normal ∨ True → (match o with | .exit _ => False | _ => True) → resultA P fn F' M' = some v → ∀ w0 : Base, w0.s0.length ≤ k0 → OpGoes P n0 w0 (.call c) dst F M (putA F dst v) M' := by
                  intro v _ ho hres w0 hk σ a w hS ty pos after gd next Q hn
                  have hfv := rep_ev hS.frame f
                  rw [ef] at hfv
                  have hf' : a.eval f = .func (.func id) #[] #[] := hfv
                  have hrun : (execOp a.eval ⟨dst, .call c, ty, pos, after, gd⟩).run P w = .ok (.enter id (c.args.map a.eval)) w := by
                    have : (execOp a.eval ⟨dst, .call c, ty, pos, after, gd⟩).run P w = (callFunc id (c.args.map a.eval)).run P w := by
                      simp only [execOp, Go.resolve, hcal, hf', Deferred.ofValue]
                      simp [invoke]
                    rw [this]; exact enter_of hf hnm hb
                  unfold Oper.wp
                  rw [hrun]
                  have hargs : (c.args.toList.map a.eval).toArray = c.args.map a.eval := by rw [← Array.toList_map, Array.toArray_toList]
                  rw [← hargs]
                  have ha : RepF σ (c.args.toList.map (evA F)) (c.args.toList.map a.eval) := repF_map hS.frame _
                  have fin : ∀ {σ' : List (Nat × Nat)} {a' : Act} {w' : World}, St σ' n0 ⟨w0.toWorld, σ⟩ F' M' a' w' →
                      a'.defers = [] ∧ ∃ u, (results fn a'.tmps).run P w' = .ok u w' ∧ next (a.put dst u) w' := by
                    intro σ' a' w' hs
                    obtain ⟨z, hz, hrz⟩ := results_sound (P := P) hs hres
                    obtain ⟨t, ht⟩ := hs.pre
                    refine ⟨hs.defers, z, hz, hn σ' _ _ ⟨by cases dst <;> exact hS.defers, rep_put ?_ dst hrz, hs.mem, hs.ext, hs.own, hS.pre.trans hs.pre⟩⟩
                    rw [← ht]; exact hS.frame.mono t
                  have hstart : RepF σ (c.args.toList.map (evA F) ++ List.replicate (fn.ntmps - c.args.toList.length) undefA) (c.args.toList.map a.eval ++ List.replicate (fn.ntmps - (c.args.toList.map a.eval).length) undef) := by
                    have h1 : ∀ (n : Nat), RepF σ (List.replicate n undefA) (List.replicate n undef) := by
                      intro n
                      induction n with
                      | zero => exact .nil
                      | succ n ih => exact .cons rfl ih
                    have h2 : ∀ {l l' : List AV} {us us' : List Value}, RepF σ l us → RepF σ l' us' → RepF σ (l ++ l') (us ++ us') := by
                      intro l l' us us' h h'
                      induction h with
                      | nil => exact h'
                      | cons h _ ih => exact .cons h ih
                    rw [List.length_map]
                    exact h2 ha (h1 _)
                  refine (calls_of_wp (R := fun e w' => ∃ u, e = .returned u ∧ next (a.put dst u) w') hf hb (hg ⟨w0.toWorld, σ⟩ (by rw [hS.mem.len]; exact Nat.le_refl _) σ _ w ⟨rfl, ?_, hS.mem, hS.ext, hS.own, List.prefix_refl _⟩ _ fun σ' a' w' hs => ?_)).mono fun e w' ⟨u, he, hu⟩ => by subst he; exact hu
                  · simpa using hstart
                  · obtain ⟨g1, u, g2, g3⟩ := fin hs
                    cases o with
                    | norm => exact ⟨g1, u, g2, u, rfl, g3⟩
                    | ret => exact ⟨g1, u, g2, u, rfl, g3⟩
                    | exit id => exact ho.elim
                cases o with
                | exit id => cases hK
                | norm =>
                  cases hres : resultA P fn F' M' with
                  | none => simp [hres] at hK
                  | some v => simp only [hres] at hK; exact ⟨_, _, hK, main (.inr trivial) trivial hres⟩
                | ret =>
                  cases hres : resultA P fn F' M' with
                  | none => simp [hres] at hK
                  | some v => simp only [hres] at hK; exact ⟨_, _, hK, main (.inr trivial) trivial hres⟩
            · cases h
          · cases h
      · cases h
    · exact viaSt h
  · exact viaSt h

/-- A region, in the text's order. -/
def regJ (P : Program) (E : List (Entry P)) (I : List FuncId) (N : List (EntryN P)) (n0 k0 : Nat) (rec : Nat → Code → List AV → List (List AC) → (Out → List AV → List (List AC) → Option R) → Option R) (ops : Array Oper) : List Oper → List AV → List (List AC) → (List AV → List (List AC) → Option R) → Option R
  | [], F, M, K => K F M
  | o :: rest, F, M, K =>
    match o.guard with
    | none => stJ P E I N n0 k0 rec o.op o.dst F M fun F M => regJ P E I N n0 k0 rec ops rest F M K
    | some (j, want) =>
      match (ops[j]?).bind (·.dst) with
      | none => none
      | some d =>
        match F[d]? with
        | some (.c (.sb b)) =>
          cond b
            (cond want (stJ P E I N n0 k0 rec o.op o.dst (F.set d (.c (.sb true))) M fun F M => regJ P E I N n0 k0 rec ops rest F M K)
              (regJ P E I N n0 k0 rec ops rest (putA (F.set d (.c (.sb true))) o.dst undefA) M K))
            (cond want (regJ P E I N n0 k0 rec ops rest (putA (F.set d (.c (.sb false))) o.dst undefA) M K)
              (stJ P E I N n0 k0 rec o.op o.dst (F.set d (.c (.sb false))) M fun F M => regJ P E I N n0 k0 rec ops rest F M K))
        | some (.c (.val (.tuple _))) => regJ P E I N n0 k0 rec ops rest (putA F o.dst undefA) M K
        | _ => none

theorem regJ_sound {P : Program} {E : List (Entry P)} {I : List FuncId} {N : List (EntryN P)} {n0 k0 : Nat} {rec : Nat → Code → List AV → List (List AC) → (Out → List AV → List (List AC) → Option R) → Option R} {ops : Array Oper}
    (hrec : ∀ (k : Nat) (c : Code) (F : List AV) (M : List (List AC)) (K : Out → List AV → List (List AC) → Option R) (r : R), rec k c F M K = some r → ∃ o F' M', K o F' M' = some r ∧ ∀ w0 : Base, w0.s0.length ≤ k → CodeGoes P n0 w0 c F M o F' M')
    {K : List AV → List (List AC) → Option R} {r : R} : ∀ (l : List Oper) {F : List AV} {M : List (List AC)},
    regJ P E I N n0 k0 rec ops l F M K = some r → ∃ F' M', K F' M' = some r ∧ ∀ w0 : Base, w0.s0.length ≤ k0 → ListGoes P n0 w0 ops l F M F' M'
  | [], F, M, h => ⟨F, M, h, fun _ _ _ _ _ hS _ hQ => hQ _ _ _ hS⟩
  | o :: rest, F, M, h => by
    have skip : ∀ {F1 : List AV}, (∀ (w0 : Base) σ a w, St σ n0 w0 F M a w → Region.wanted o (yielded ops a.tmps) = false ∧ St σ n0 w0 F1 M a w) → regJ P E I N n0 k0 rec ops rest (putA F1 o.dst undefA) M K = some r →
        ∃ F' M', K F' M' = some r ∧ ∀ w0 : Base, w0.s0.length ≤ k0 → ListGoes P n0 w0 ops (o :: rest) F M F' M' := by
      intro F1 hy h1
      obtain ⟨F', M', hK, hw⟩ := regJ_sound hrec rest h1
      refine ⟨F', M', hK, fun w0 hk σ a w hS Q hQ => ?_⟩
      obtain ⟨hn, hS1⟩ := hy w0 σ a w hS
      unfold wpList
      rw [if_neg (by rw [hn]; decide)]
      exact hw w0 hk σ _ _ (hS1.put o.dst (x := undefA) (v := undef) rfl (Ext.refl _)) Q hQ
    have go : ∀ {F1 : List AV}, (∀ (w0 : Base) σ a w, St σ n0 w0 F M a w → Region.wanted o (yielded ops a.tmps) = true ∧ St σ n0 w0 F1 M a w) → (stJ P E I N n0 k0 rec o.op o.dst F1 M fun F M => regJ P E I N n0 k0 rec ops rest F M K) = some r →
        ∃ F' M', K F' M' = some r ∧ ∀ w0 : Base, w0.s0.length ≤ k0 → ListGoes P n0 w0 ops (o :: rest) F M F' M' := by
      intro F1 hy h1
      obtain ⟨F2, M2, hK2, hop⟩ := stJ_sound hrec h1
      obtain ⟨F', M', hK, hrest⟩ := regJ_sound hrec rest hK2
      refine ⟨F', M', hK, fun w0 hk σ a w hS Q hQ => ?_⟩
      obtain ⟨hn, hS1⟩ := hy w0 σ a w hS
      unfold wpList
      rw [if_pos hn]
      exact .inl (hop w0 hk σ a w hS1 o.type o.pos o.after o.guard _ _ fun σ' a' w' hs => hrest w0 hk σ' a' w' hs Q hQ)
    simp only [regJ] at h
    split at h
    · rename_i hg
      exact go (fun w0 σ a w hS => ⟨by simp [Region.wanted, hg], hS⟩) h
    · rename_i j want hg
      split at h
      · cases h
      · rename_i d hd
        split at h
        · rename_i b hb
          have hy : ∀ (w0 : Base) σ a w, St σ n0 w0 F M a w → yielded ops a.tmps j = some b := fun w0 σ a w hS => (yielded_of hS hd).1 b hb
          cases b with
          | true =>
            cases want with
            | true => exact go (fun w0 σ a w hS => ⟨by simp [Region.wanted, hg, hy w0 σ a w hS], hS.know hb⟩) h
            | false => exact skip (fun w0 σ a w hS => ⟨by simp [Region.wanted, hg, hy w0 σ a w hS], hS.know hb⟩) h
          | false =>
            cases want with
            | true => exact skip (fun w0 σ a w hS => ⟨by simp [Region.wanted, hg, hy w0 σ a w hS], hS.know hb⟩) h
            | false => exact go (fun w0 σ a w hS => ⟨by simp [Region.wanted, hg, hy w0 σ a w hS], hS.know hb⟩) h
        · rename_i vs hb
          exact skip (fun w0 σ a w hS => ⟨by simp [Region.wanted, hg, (yielded_of hS hd).2 vs hb], hS⟩) h
        · cases h

/-- Code; n rounds deep at most; calls of the functions in I run in place. -/
def exJ (P : Program) (E : List (Entry P)) (I : List FuncId) (N : List (EntryN P)) (n0 : Nat) : Nat → Nat → Code → List AV → List (List AC) → (Out → List AV → List (List AC) → Option R) → Option R
  | 0, _, _, _, _, _ => none
  | n + 1, k0, c, F, M, K =>
    match c with
    | .skip => K .norm F M
    | .region _ ops draw => cond draw (cond (P.follows .mixedOrders && (stillOps ops.toList && (Region.lexB .any ops && memLexB .any ops))) (regA P E n0 ops ops.toList F M fun F M => K .norm F M) none)
        (regJ P E I N n0 k0 (fun k c F M K => exJ P E I N n0 n k c F M K) ops ops.toList F M fun F M => K .norm F M)
    | .seq x y => exJ P E I N n0 n k0 x F M fun o F M =>
      match o with
      | .norm => exJ P E I N n0 n k0 y F M K
      | .exit id => K (.exit id) F M
      | .ret => K .ret F M
    | .cond (.tmp t) x y =>
      match F[t]? with
      | some (.c (.sb b)) => cond b (exJ P E I N n0 n k0 x (F.set t (.c (.sb true))) M K) (exJ P E I N n0 n k0 y (F.set t (.c (.sb false))) M K)
      | _ => none
    | .block id x => exJ P E I N n0 n k0 x F M fun o F M =>
      match o with
      | .norm => K .norm F M
      | .exit i => cond (i == id) (K .norm F M) (K (.exit i) F M)
      | .ret => K .ret F M
    | .loop x => exJ P E I N n0 n k0 x F M fun o F M =>
      match o with
      | .norm => exJ P E I N n0 n k0 (.loop x) F M K
      | .exit id => K (.exit id) F M
      | .ret => K .ret F M
    | .exit id => K (.exit id) F M
    | .ret => K .ret F M
    | _ => none

theorem exJ_sound {P : Program} {E : List (Entry P)} {I : List FuncId} {N : List (EntryN P)} {n0 : Nat} : ∀ (n : Nat),
    (∀ (k0 : Nat) (c : Code) (F : List AV) (M : List (List AC)) (K : Out → List AV → List (List AC) → Option R) (r : R), exJ P E I N n0 n k0 c F M K = some r → ∃ o F' M', K o F' M' = some r ∧ ∀ w0 : Base, w0.s0.length ≤ k0 → CodeGoes P n0 w0 c F M o F' M') ∧
    (∀ (k0 : Nat) (x : Code) (F : List AV) (M : List (List AC)) (K : Out → List AV → List (List AC) → Option R) (r : R), exJ P E I N n0 n k0 (.loop x) F M K = some r → ∃ o F' M', K o F' M' = some r ∧ ∀ w0 : Base, w0.s0.length ≤ k0 → ∃ N, ∀ (σ : List (Nat × Nat)) (a : Act) (w : World), St σ n0 w0 F M a w →
      ∀ (Q : Exit → Act → World → Prop), (∀ σ' a' w', St σ' n0 w0 F' M' a' w' → Q o.toExit a' w') → Code.rounds P x Q N a w)
  | 0 => ⟨(fun _ _ _ _ _ _ h => by cases h), (fun _ _ _ _ _ _ h => by cases h)⟩
  | n + 1 => by
    obtain ⟨ih1, ih2⟩ := exJ_sound n
    have hloop : ∀ (k0 : Nat) (x : Code) (F : List AV) (M : List (List AC)) (K : Out → List AV → List (List AC) → Option R) (r : R), exJ P E I N n0 (n + 1) k0 (.loop x) F M K = some r → ∃ o F' M', K o F' M' = some r ∧ ∀ w0 : Base, w0.s0.length ≤ k0 → ∃ N, ∀ (σ : List (Nat × Nat)) (a : Act) (w : World), St σ n0 w0 F M a w →
      ∀ (Q : Exit → Act → World → Prop), (∀ σ' a' w', St σ' n0 w0 F' M' a' w' → Q o.toExit a' w') → Code.rounds P x Q N a w := by
      intro k0 x F M K r h
      simp only [exJ] at h
      obtain ⟨o, F1, M1, hK1, hx⟩ := ih1 k0 x F M _ r h
      cases o with
      | norm =>
        obtain ⟨o, F', M', hK, hN⟩ := ih2 k0 x F1 M1 K r hK1
        refine ⟨o, F', M', hK, fun w0 hk => ?_⟩
        obtain ⟨N, hN⟩ := hN w0 hk
        exact ⟨N + 1, fun σ a w hS Q hQ => hx w0 hk σ a w hS _ fun σ' a' w' hs => hN σ' a' w' hs Q hQ⟩
      | exit id => exact ⟨.exit id, F1, M1, hK1, fun w0 hk => ⟨1, fun σ a w hS Q hQ => hx w0 hk σ a w hS _ fun σ' a' w' hs => hQ σ' a' w' hs⟩⟩
      | ret => exact ⟨.ret, F1, M1, hK1, fun w0 hk => ⟨1, fun σ a w hS Q hQ => hx w0 hk σ a w hS _ fun σ' a' w' hs => hQ σ' a' w' hs⟩⟩
    refine ⟨fun k0 c F M K r h => ?_, hloop⟩
    cases c with
    | skip => exact ⟨.norm, F, M, h, fun w0 _ σ a w hS Q hQ => wp_skip (hQ σ a w hS)⟩
    | region id ops draw =>
      simp only [exJ] at h
      cases draw with
      | true =>
        cases hp : (P.follows .mixedOrders && (stillOps ops.toList && (Region.lexB .any ops && memLexB .any ops))) with
        | false => simp only [hp, cond_true, cond_false] at h; cases h
        | true =>
          simp only [hp, cond_true] at h
          simp only [Bool.and_eq_true] at hp
          obtain ⟨F', M', hK, hg⟩ := regM_all hp.1 hp.2.1 hp.2.2.1 hp.2.2.2 h
          exact ⟨.norm, F', M', hK, fun w0 _ => hg w0⟩
      | false =>
        simp only [cond_false] at h
        obtain ⟨F', M', hK, hl⟩ := regJ_sound (fun k c F M K r h => ih1 k c F M K r h) ops.toList h
        exact ⟨.norm, F', M', hK, fun w0 hk σ a w hS Q hQ => wp_region_list (hl w0 hk σ a w hS Q hQ)⟩
    | seq x y =>
      simp only [exJ] at h
      obtain ⟨o, F1, M1, hK1, hx⟩ := ih1 k0 x F M _ r h
      cases o with
      | norm =>
        obtain ⟨o, F', M', hK, hy⟩ := ih1 k0 y F1 M1 K r hK1
        exact ⟨o, F', M', hK, fun w0 hk σ a w hS Q hQ => wp_seq (hx w0 hk σ a w hS _ fun σ' a' w' hs => hy w0 hk σ' a' w' hs Q hQ)⟩
      | exit id => exact ⟨.exit id, F1, M1, hK1, fun w0 hk σ a w hS Q hQ => wp_seq (hx w0 hk σ a w hS _ fun σ' a' w' hs => hQ σ' a' w' hs)⟩
      | ret => exact ⟨.ret, F1, M1, hK1, fun w0 hk σ a w hS Q hQ => wp_seq (hx w0 hk σ a w hS _ fun σ' a' w' hs => hQ σ' a' w' hs)⟩
    | cond c x y =>
      cases c with
      | tmp t =>
        simp only [exJ] at h
        split at h
        · rename_i b hb
          have hev : ∀ (w0 : Base) σ a w, St σ n0 w0 F M a w → a.eval (.tmp t) = .bool b := by
            intro w0 σ a w hS
            obtain ⟨v, hv, hr⟩ := hS.frame.get? hb
            have hr' : v = .bool b := hr
            subst hr'
            have hv' : a.tmps[t]? = some (.bool b) := by simpa using hv
            simp [Act.eval, Array.getD_eq_getD_getElem?, hv']
          cases b with
          | true =>
            obtain ⟨o, F', M', hK, hx⟩ := ih1 k0 x _ M K r h
            exact ⟨o, F', M', hK, fun w0 hk σ a w hS Q hQ => wp_cond_true (hev w0 σ a w hS) (hx w0 hk σ a w (hS.know hb) Q hQ)⟩
          | false =>
            obtain ⟨o, F', M', hK, hx⟩ := ih1 k0 y _ M K r h
            exact ⟨o, F', M', hK, fun w0 hk σ a w hS Q hQ => wp_cond_false (hev w0 σ a w hS) (hx w0 hk σ a w (hS.know hb) Q hQ)⟩
        · cases h
      | const v => cases h
      | global g => cases h
      | func f => cases h
    | block id x =>
      simp only [exJ] at h
      obtain ⟨o, F1, M1, hK1, hx⟩ := ih1 k0 x F M _ r h
      cases o with
      | norm => exact ⟨.norm, F1, M1, hK1, fun w0 hk σ a w hS Q hQ => wp_block (hx w0 hk σ a w hS _ fun σ' a' w' hs => hQ σ' a' w' hs)⟩
      | exit i =>
        by_cases hi : i = id
        · subst hi
          simp only [beq_self_eq_true, cond_true] at hK1
          exact ⟨.norm, F1, M1, hK1, fun w0 hk σ a w hS Q hQ => wp_block (hx w0 hk σ a w hS _ fun σ' a' w' hs => by simp only [Out.toExit, Exit.inBlock, if_true]; exact hQ σ' a' w' hs)⟩
        · have hb : (i == id) = false := by simpa using hi
          simp only [hb, cond_false] at hK1
          exact ⟨.exit i, F1, M1, hK1, fun w0 hk σ a w hS Q hQ => wp_block (hx w0 hk σ a w hS _ fun σ' a' w' hs => by simp only [Out.toExit, Exit.inBlock, hi, if_false]; exact hQ σ' a' w' hs)⟩
      | ret => exact ⟨.ret, F1, M1, hK1, fun w0 hk σ a w hS Q hQ => wp_block (hx w0 hk σ a w hS _ fun σ' a' w' hs => hQ σ' a' w' hs)⟩
    | loop x =>
      obtain ⟨o, F', M', hK, hN⟩ := hloop k0 x F M K r h
      refine ⟨o, F', M', hK, fun w0 hk σ a w hS Q hQ => ?_⟩
      obtain ⟨N, hN⟩ := hN w0 hk
      exact wp_loop_rounds N (hN σ a w hS Q hQ)
    | exit id => exact ⟨.exit id, F, M, h, fun w0 _ σ a w hS Q hQ => wp_exit (hQ σ a w hS)⟩
    | ret => exact ⟨.ret, F, M, h, fun w0 _ σ a w hS Q hQ => wp_ret (hQ σ a w hS)⟩
    | _ => cases h

/-- A function's answer, with the calls of I run in place. -/
def runJ (P : Program) (E : List (Entry P)) (I : List FuncId) (N : List (EntryN P)) (fn : Func) (args : List AV) : Option AV :=
  match fn.body with
  | none => none
  | some c => exJ P E I N 0 4000 0 c (args ++ List.replicate (fn.ntmps - args.length) undefA) [] fun o F M =>
    match o with
    | .exit _ => none
    | _ => match resultA P fn F M with
      | some v => cond (plainA v) (some v) none
      | none => none

theorem runJ_sound {P : Program} {E : List (Entry P)} {I : List FuncId} {N : List (EntryN P)} {f : FuncId} {fn : Func} (hf : P.funcs[f]? = some fn) {args : List AV} {r : AV} (hp : args.all plainA = true) (h : runJ P E I N fn args = some r)
    {σ : List (Nat × Nat)} {vs : List Value} {w : World} (ha : RepF σ args vs) :
    Calls P f vs.toArray w fun e w' => ∃ v, e = .returned v ∧ Rep σ r v ∧ Ext w w' := by
  unfold runJ at h
  split at h
  · cases h
  · rename_i c hb
    obtain ⟨o, F', M', hK, hg⟩ := (exJ_sound 4000).1 0 c _ [] _ r h
    exact calls_of_goes' hf hb hK (fun w => hg ⟨w, []⟩ (Nat.le_refl _)) hp ha

end Go.Proofs.Ytlpahmefebgdlaa.Fx
/- PointsOf, two ways; its law. No condition. -/
namespace Go.Proofs.Ytlpahmefebgdlaa.Fx
open Go Go.RowKit

def shXX (g : F64 → F64 → F64 → F64 → Bool × AV) : List AV → List (List AC) → Option (Bool × AV)
  | [.c (.cx .f64 x0 x1), .c (.cx .f64 x2 x3)], _ => some (g x0 x1 x2 x3)
  | _, _ => none
theorem okXX {P : Program} {E : List (Entry P)} {f : FuncId} {fn : Func} {g : F64 → F64 → F64 → F64 → Bool × AV} (hf : P.funcs[f]? = some fn) (hn : (fn.name == "runtime.NumGoroutine") = false)
    (h : ∀ (x0 x1 x2 x3 : F64), (g x0 x1 x2 x3).1 = true → run P E fn [.c (.cx .f64 x0 x1), .c (.cx .f64 x2 x3)] [] = some (g x0 x1 x2 x3).2) :
    EOk P f (shXX g) := by
  intro args M r hr σ vs w _ ha
  unfold shXX at hr
  split at hr
  · rename_i x0 x1 x2 x3
    have hr' := Option.some.inj hr
    have h1 := h x0 x1 x2 x3 (by rw [hr'])
    rw [hr'] at h1
    exact gives0 hf hn rfl h1 ha
  · cases hr
def sameC (x y u v : F64) : Bool := sameFl x u && sameFl y v
theorem sameC_refl (x y : F64) : sameC x y x y = true := by unfold sameC; rw [sameFl_refl, sameFl_refl]; rfl
def ka : F32 := c32 981668463
def loA (sh : F32) : F32 := (-sh) + ka
def hiA (sh : F32) : F32 := (one32 - sh) - ka
def loB (sh : F32) : F32 := (one32 - sh) + ka
def hiB : F32 := c32 1073741824
def loC : F32 := c32 3221225472
def hiC (sh : F32) : F32 := (-sh) - ka
def Ye : Option AV := some (.c (.sb true))
def No : Option AV := some (.c (.sb false))
/-- The specification's answers, in its order of tests. -/
def kS (s c1 c2 c3 b1 b2 b3 : Bool) (kn kp : Option AV) : Option AV := bif !s then kn else bif c1 then (bif c2 then (bif c3 then (bif b1 then (bif b2 then (bif !b3 then kn else kp) else kn) else kn) else none) else none) else none
/-- The program's answers, in its order of tests. -/
def kI (s c1 c2 c3 b1 b2 b3 : Bool) (kn kp : Option AV) : Option AV := bif !s then kn else bif c1 then (bif !b1 then kn else bif c2 then (bif !b2 then kn else bif c3 then (bif !b3 then kn else kp) else none) else none) else none
def pX (sh : F32) : F32 := c32 1056964608 - sh
def pY : F32 := c32 1063105495
def pZ : F32 := c32 3210589143
def eqPts (sh : F32) (k : Option AV) : Option AV :=
  bif !(sameC (widen (rsX sh (loA sh) (hiA sh))) (widen (c32 0)) (widen (rsX sh (loA sh) (hiA sh))) (widen (c32 0))) then No else
  bif !(sameC (widen (rsX sh (loB sh) hiB)) (widen (c32 0)) (widen (rsX sh (loB sh) hiB)) (widen (c32 0))) then No else
  bif !(sameC (widen (rsX sh loC (hiC sh))) (widen (c32 0)) (widen (rsX sh loC (hiC sh))) (widen (c32 0))) then No else
  bif !(sameC (widen (pX sh)) (widen pY) (widen (pX sh)) (widen pY)) then No else
  bif !(sameC (widen (pX sh)) (widen pZ) (widen (pX sh)) (widen pZ)) then No else k
theorem eqPts_eq (sh : F32) (k : Option AV) : eqPts sh k = k := by
  unfold eqPts; simp only [sameC_refl]; rfl
def ptsI : List FuncId := [48, 99, 25, 49, 50, 51]
theorem upS_ka : UpS 0 ka := upS_of _ false 8589935 (-33) rfl (by decide) (by decide) (by decide)
end Go.Proofs.Ytlpahmefebgdlaa.Fx
/- Contracts: potentials, two ways. No condition. -/
namespace Go.Proofs.Ytlpahmefebgdlaa.Fx
open Go Go.RowKit

def powN (x y : F32) : F32 := narrow (powerW x y)
theorem ePowerOf_run (x y : F32) (hx : fits (powerW x y) = true) : run Try.prog [ePower] Try.f65 [.c (.cx .f32 x y)] [] = some (.c (.fl .f32 (powN x y))) := by
  have h : run Try.prog [ePower] Try.f65 [.c (.cx .f32 x y)] [] = bif fits (powerW x y) then some (.c (.fl .f32 (powN x y))) else none := by kernel_rfl
  rw [h, hx]; rfl
def ePowerOf : Entry Try.prog := { f := 65, fn := shC fun x y => (fits (powerW x y), .c (.fl .f32 (powN x y))), ok := okC (E := [ePower]) Try.func65 (by kernel_rfl) fun x y h => ePowerOf_run x y h }
-- the potential of a frame
def shFr (g : F32 → F32 → F32 → F32 → F32 → F32 → Bool × AV) : List AV → List (List AC) → Option (Bool × AV)
  | [.agg [.cx .f32 _ _, .cx .f32 _ _, .cx .f32 x y, .fl .f32 r, .fl .f32 s, .fl .f32 a, .fl .f32 b, .fl .f32 _, .fl .f32 _]], _ => some (g x y r s a b)
  | _, _ => none
theorem okFr {P : Program} {E : List (Entry P)} {f : FuncId} {fn : Func} {g : F32 → F32 → F32 → F32 → F32 → F32 → Bool × AV} (hf : P.funcs[f]? = some fn) (hn : (fn.name == "runtime.NumGoroutine") = false)
    (h : ∀ (d0 d1 e0 e1 x y r s a b f0 g0 : F32), (g x y r s a b).1 = true → runP P E fn [.agg [.cx .f32 d0 d1, .cx .f32 e0 e1, .cx .f32 x y, .fl .f32 r, .fl .f32 s, .fl .f32 a, .fl .f32 b, .fl .f32 f0, .fl .f32 g0]] [] = some (g x y r s a b).2) :
    EOk P f (shFr g) := by
  intro args M q hr σ vs w _ ha
  unfold shFr at hr
  split at hr
  · rename_i d0 d1 e0 e1 x y r s a b f0 g0
    have hr' := Option.some.inj hr
    have h1 := h d0 d1 e0 e1 x y r s a b f0 g0 (by rw [hr'])
    rw [hr'] at h1
    exact gives0P hf hn rfl h1 ha
  · cases hr
def potW (x y r s a b : F32) : F32 := (c32 1056964608 * powN x y + a / r) + b / s
theorem ePotential_run (d0 d1 e0 e1 x y r s a b f0 g0 : F32) (hx : fits (powerW x y) = true) : runP Try.prog [ePowerOf] Try.f64 [.agg [.cx .f32 d0 d1, .cx .f32 e0 e1, .cx .f32 x y, .fl .f32 r, .fl .f32 s, .fl .f32 a, .fl .f32 b, .fl .f32 f0, .fl .f32 g0]] [] = some (.c (.fl .f32 (potW x y r s a b))) := by
  have h : runP Try.prog [ePowerOf] Try.f64 [.agg [.cx .f32 d0 d1, .cx .f32 e0 e1, .cx .f32 x y, .fl .f32 r, .fl .f32 s, .fl .f32 a, .fl .f32 b, .fl .f32 f0, .fl .f32 g0]] [] = bif fits (powerW x y) then some (.c (.fl .f32 (potW x y r s a b))) else none := by kernel_rfl
  rw [h, hx]; rfl
def ePotential : Entry Try.prog := { f := 64, fn := shFr fun x y r s a b => (fits (powerW x y), .c (.fl .f32 (potW x y r s a b))), ok := okFr (E := [ePowerOf]) Try.func64 (by kernel_rfl) fun d0 d1 e0 e1 x y r s a b f0 g0 h => ePotential_run d0 d1 e0 e1 x y r s a b f0 g0 h }
def pot (s x y : F32) : F32 := potW x y (fr s x y) (fs s x y) (one32 - s) s
def potFit (s x y : F32) : Bool := frFit s x y && fits (powerW x y)
def paV (s x y : F32) : F32 := bif isPt s x y then giveV (pot s x y) else c32 0
def paB (s x y : F32) : Bool := bif isPt s x y then giveB (pot s x y) else false
theorem ePotAt_run (s x y : F32) (hx : (!(isPt s x y) || potFit s x y) = true) : runP Try.prog [eIsPoint, eFrame, ePotential, eTold] Try.f22 [.c (.fl .f32 s), .c (.cx .f32 x y)] [] = some (.tup [.fl .f32 (paV s x y), .sb (paB s x y)]) := by
  have h : runP Try.prog [eIsPoint, eFrame, ePotential, eTold] Try.f22 [.c (.fl .f32 s), .c (.cx .f32 x y)] [] = bif !(isPt s x y) then some (.tup [.fl .f32 (c32 0), .sb false]) else
    bif frFit s x y then (bif fits (powerW x y) then some (.tup [.fl .f32 (toldV (pot s x y)), .sb (toldB (pot s x y))]) else none) else none := by kernel_rfl
  rw [h, (told_give _).1, (told_give _).2]
  unfold paV paB
  cases h1 : isPt s x y
  · rfl
  · rw [h1] at hx
    have h2 : potFit s x y = true := hx
    unfold potFit at h2
    rw [Bool.and_eq_true] at h2
    rw [h2.1, h2.2]; rfl
def ePotAt : Entry Try.prog := { f := 22, fn := shSC fun s x y => (!(isPt s x y) || potFit s x y, .tup [.fl .f32 (paV s x y), .sb (paB s x y)]), ok := okSCP (E := [eIsPoint, eFrame, ePotential, eTold]) Try.func22 (by kernel_rfl) fun s x y h => ePotAt_run s x y h }

theorem pow_fits {x y : F32} (hx : UpS 40 x) (hy : UpS 40 y) : fits (powerW x y) = true :=
  (((hx.widen.mul hx.widen (by decide) (by decide)).add (hy.widen.mul hy.widen (by decide) (by decide)) (by decide) (by decide)).mono (by decide)).narrow.1
theorem pot_fit {s x y : F32} (hs : UpS 0 s) (hx : UpS 40 x) (hy : UpS 40 y) : potFit s x y = true := by
  unfold potFit
  rw [fr_fit (hs.mono (by decide)) (hx.mono (by decide)) (hy.mono (by decide)), pow_fits hx hy]; rfl

end Go.Proofs.Ytlpahmefebgdlaa.Fx
/- GatesOf, two ways; its law. No condition. -/
namespace Go.Proofs.Ytlpahmefebgdlaa.Fx
open Go Go.RowKit

/-- A slice of a function's own, and true; or none and false. -/
def slV (M : List (List AC)) : AV → Option (Bool × List AC)
  | .tup [.slc id n, .sb true] => match M[id]? with
      | some cs => if cs.length = n ∧ cs.all plainC = true then some (true, cs) else none
      | none => none
  | .tup [.val (.slice none 0 0), .sb false] => some (false, [])
  | _ => none
def slR (P : Program) (fn : Func) (o : Out) (F : List AV) (M : List (List AC)) : Option (Bool × List AC) :=
  match o with
  | .exit _ => none
  | _ => match resultA P fn F M with
    | some v => slV M v
    | none => none
def runSl (P : Program) (E : List (Entry P)) (I : List FuncId) (fn : Func) (args : List AV) : Option (Bool × List AC) :=
  match fn.body with
  | none => none
  | some c => exI P E I 0 4000 0 c (args ++ List.replicate (fn.ntmps - args.length) undefA) [] (slR P fn)

theorem slV_spec {M : List (List AC)} {v : AV} {b : Bool} {cells : List AC} (h : slV M v = some (b, cells)) :
    (b = true ∧ ∃ id, v = .tup [.slc id cells.length, .sb true] ∧ M[id]? = some cells ∧ cells.all plainC = true) ∨ (b = false ∧ v = .tup [.val (.slice none 0 0), .sb false]) := by
  unfold slV at h
  split at h
  · rename_i id n
    split at h
    · rename_i cs hcs
      split at h
      · rename_i hc
        cases h
        exact .inl ⟨rfl, id, by rw [hc.1], hcs, hc.2⟩
      · cases h
    · cases h
  · cases h; exact .inr ⟨rfl, rfl⟩
  · cases h

def SlPost (w : World) : Bool → List AC → Ending → World → Prop
  | true, cells, e, w' => ∃ (blk cap : Nat) (us : Array Value) (t : TypeId), e = .returned (.tuple #[.slice (some ⟨blk, 0, none⟩) cells.length cap, .bool true]) ∧ w.heap.size ≤ blk ∧ w'.heap[blk]? = some (.cells us t (0, 0)) ∧ RepP [] cells us.toList ∧ cap ≤ us.size ∧ cells.length ≤ cap
  | false, _, e, _ => e = .returned (.tuple #[.slice none 0 0, .bool false])

theorem runSl_sound {P : Program} {E : List (Entry P)} {I : List FuncId} {f : FuncId} {fn : Func} (hf : P.funcs[f]? = some fn) {args : List AV} {b : Bool} {cells : List AC} (h : runSl P E I fn args = some (b, cells))
    {vs : List Value} {w : World} (ha : RepF [] args vs) : Calls P f vs.toArray w fun e w' => Ext w w' ∧ SlPost w b cells e w' := by
  unfold runSl at h
  split at h
  · cases h
  · rename_i c hb
    obtain ⟨o, F', M', hK, hg⟩ := (exI_sound 4000).1 0 c _ [] _ _ h
    have hg := hg ⟨w, []⟩ (Nat.le_refl _)
    clear h
    have fin : ∀ {v : AV}, resultA P fn F' M' = some v → slV M' v = some (b, cells) → ∀ {σ' : List (Nat × Nat)} {a' : Act} {w' : World} (hs : St σ' 0 ⟨w, []⟩ F' M' a' w'),
        a'.defers = [] ∧ ∃ v, (results fn a'.tmps).run P w' = .ok v w' ∧ (Ext w w' ∧ SlPost w b cells (Ending.returned v) w') := by
      intro v hres hv σ' a' w' hs
      obtain ⟨z, hz, hr⟩ := results_sound (P := P) hs hres
      rcases slV_spec hv with ⟨rfl, id, rfl, hcs, c2⟩ | ⟨rfl, rfl⟩
      · obtain ⟨us, rfl, hl⟩ := hr
        obtain ⟨us⟩ := us
        cases hl with
        | cons q1 q2 =>
          cases q2 with
          | cons q3 q4 =>
            cases q4
            obtain ⟨p, hp, hle, rfl⟩ := q1
            cases q3
            obtain ⟨ws, t, hw, ⟨kk, hr⟩, hcap⟩ := hs.mem.at_ id p _ hp hcs
            exact ⟨hs.defers, _, hz, hs.ext, p.1, p.2, ws, t, rfl, hs.own id p (Nat.zero_le _) hp, hw, ⟨kk, plainL_rep (by simp [c2]; right; rfl) hr⟩, hcap, hle⟩
      · obtain ⟨us, rfl, hl⟩ := hr
        obtain ⟨us⟩ := us
        cases hl with
        | cons q1 q2 =>
          cases q2 with
          | cons q3 q4 =>
            cases q4; cases q1; cases q3
            exact ⟨hs.defers, _, hz, hs.ext, rfl⟩
    refine calls_of_wp hf hb (hg [] _ w ⟨rfl, ?_, MemOk.nil w, Ext.refl _, fun id b hid hbb => (by cases hbb), List.prefix_refl _⟩ _ fun σ' a' w' hs => ?_)
    · have hlen := ha.length
      have h1 : ∀ (n : Nat), RepF [] (List.replicate n undefA) (List.replicate n undef) := by
        intro n
        induction n with
        | zero => exact .nil
        | succ n ih => exact .cons rfl ih
      have h2 : ∀ {l l' : List AV} {us us' : List Value}, RepF [] l us → RepF [] l' us' → RepF [] (l ++ l') (us ++ us') := by
        intro l l' us us' h h'
        induction h with
        | nil => exact h'
        | cons h _ ih => exact .cons h ih
      simpa [hlen] using h2 ha (h1 (fn.ntmps - vs.length))
    · cases o with
      | exit id => cases hK
      | norm =>
        simp only [slR] at hK
        cases hres : resultA P fn F' M' with
        | none => rw [hres] at hK; cases hK
        | some v => rw [hres] at hK; exact fin hres hK hs
      | ret =>
        simp only [slR] at hK
        cases hres : resultA P fn F' M' with
        | none => rw [hres] at hK; cases hK
        | some v => rw [hres] at hK; exact fin hres hK hs

def two32 : F32 := c32 1073741824
def gV (sh x y : F32) : F32 := two32 * pot sh x y
def gOk1 (sh x y : F32) : Bool := finS (pot sh x y) && finS (gV sh x y)
def Nn : Option (Bool × List AC) := some (false, [])
def kSr (s c1 c2 c3 b1 b2 b3 : Bool) (kn kp : Option (Bool × List AC)) : Option (Bool × List AC) := bif !s then kn else bif c1 then (bif c2 then (bif c3 then (bif b1 then (bif b2 then (bif !b3 then kn else kp) else kn) else kn) else none) else none) else none
def kIr (s c1 c2 c3 b1 b2 b3 : Bool) (kn kp : Option (Bool × List AC)) : Option (Bool × List AC) := bif !s then kn else bif c1 then (bif !b1 then kn else bif c2 then (bif !b2 then kn else bif c3 then (bif !b3 then kn else kp) else none) else none) else none
theorem eGates_raw (sh : F32) : runSl Try.prog [eIsShare, eRest, ePotAt, eIsFinite] [11] Try.f12 [.c (.fl .f32 sh)] = kIr (isShare sh) (rsCond sh (loA sh) (hiA sh)) (rsCond sh (loB sh) hiB) (rsCond sh loC (hiC sh)) (rsB sh (loA sh) (hiA sh)) (rsB sh (loB sh) hiB) (rsB sh loC (hiC sh)) Nn
    (bif !(isPt sh (rsX sh (loA sh) (hiA sh)) (c32 0)) || potFit sh (rsX sh (loA sh) (hiA sh)) (c32 0) then (bif !(paB sh (rsX sh (loA sh) (hiA sh)) (c32 0)) then Nn else bif !(isFinite (two32 * paV sh (rsX sh (loA sh) (hiA sh)) (c32 0))) then Nn else (bif !(isPt sh (rsX sh (loB sh) hiB) (c32 0)) || potFit sh (rsX sh (loB sh) hiB) (c32 0) then (bif !(paB sh (rsX sh (loB sh) hiB) (c32 0)) then Nn else bif !(isFinite (two32 * paV sh (rsX sh (loB sh) hiB) (c32 0))) then Nn else (bif !(isPt sh (rsX sh loC (hiC sh)) (c32 0)) || potFit sh (rsX sh loC (hiC sh)) (c32 0) then (bif !(paB sh (rsX sh loC (hiC sh)) (c32 0)) then Nn else bif !(isFinite (two32 * paV sh (rsX sh loC (hiC sh)) (c32 0))) then Nn else (bif !(isPt sh (pX sh) (pY)) || potFit sh (pX sh) (pY) then (bif !(paB sh (pX sh) (pY)) then Nn else bif !(isFinite (two32 * paV sh (pX sh) (pY))) then Nn else (bif !(isPt sh (pX sh) (pZ)) || potFit sh (pX sh) (pZ) then (bif !(paB sh (pX sh) (pZ)) then Nn else bif !(isFinite (two32 * paV sh (pX sh) (pZ))) then Nn else some (true, [.fl .f32 (two32 * paV sh (rsX sh (loA sh) (hiA sh)) (c32 0)), .fl .f32 (two32 * paV sh (rsX sh (loB sh) hiB) (c32 0)), .fl .f32 (two32 * paV sh (rsX sh loC (hiC sh)) (c32 0)), .fl .f32 (two32 * paV sh (pX sh) (pY)), .fl .f32 (two32 * paV sh (pX sh) (pZ))])) else none)) else none)) else none)) else none)) else none) := by kernel_rfl

theorem rs_up (sh : F32) : ∀ (n : Nat) (s s' : F32 × F32), UpS 3 s.1 → UpS 3 s.2 → rsRun sh n s = some s' → UpS 3 s'.1
  | 0, s, s', h1, _, h => by cases h; exact h1
  | n + 1, s, s', h1, h2, h => by
    have hm := mid_up h1 h2 (by decide) (by decide)
    simp only [rsRun] at h
    cases hf : slFin sh (mid s) (c32 0) with
    | false => rw [hf] at h; cases h
    | true =>
      rw [hf] at h
      refine rs_up sh n (rsNext sh s) s' ?_ ?_ h
      · unfold rsNext; cases gt (slX sh (mid s) (c32 0)) (c32 0) with
        | true => exact h1
        | false => exact hm
      · unfold rsNext; cases gt (slX sh (mid s) (c32 0)) (c32 0) with
        | true => exact hm
        | false => exact h2
theorem rsX_up {sh lo hi : F32} (h1 : UpS 3 lo) (h2 : UpS 3 hi) : UpS 3 (rsX sh lo hi) := by
  unfold rsX
  cases h : rsRun sh 26 (lo, hi) with
  | none => exact upS_zero 3
  | some s => exact rs_up sh 26 (lo, hi) s h1 h2 h

def gCells (sh : F32) : List AC := [.fl .f32 (gV sh (rsX sh (loA sh) (hiA sh)) (c32 0)), .fl .f32 (gV sh (rsX sh (loB sh) hiB) (c32 0)), .fl .f32 (gV sh (rsX sh loC (hiC sh)) (c32 0)), .fl .f32 (gV sh (pX sh) (pY)), .fl .f32 (gV sh (pX sh) (pZ))]
def gOk (sh : F32) : Bool := isShare sh && (rsB sh (loA sh) (hiA sh) && (rsB sh (loB sh) hiB && (rsB sh loC (hiC sh) && (gOk1 sh (rsX sh (loA sh) (hiA sh)) (c32 0) && (gOk1 sh (rsX sh (loB sh) hiB) (c32 0) && (gOk1 sh (rsX sh loC (hiC sh)) (c32 0) && (gOk1 sh (pX sh) (pY) && (gOk1 sh (pX sh) (pZ)))))))))
theorem sChain (sh x y : F32) (X : Option (Bool × List AC)) (hf : potFit sh x y = true) : (bif potFit sh x y then (bif !(finS (pot sh x y)) then Nn else bif !(finS (gV sh x y)) then Nn else X) else none) = bif gOk1 sh x y then X else Nn := by
  rw [hf]; unfold gOk1
  cases finS (pot sh x y) <;> cases finS (gV sh x y) <;> rfl
theorem eChain (sh x y : F32) (X : Option (Bool × List AC)) (hp : isPt sh x y = true) (hf : potFit sh x y = true) : (bif !(isPt sh x y) || potFit sh x y then (bif !(paB sh x y) then Nn else bif !(isFinite (two32 * paV sh x y)) then Nn else X) else none) = bif gOk1 sh x y then X else Nn := by
  rw [hf, Bool.or_true]; unfold gOk1 paB paV
  rw [hp]
  cases h : finS (pot sh x y)
  · have : giveB (pot sh x y) = false := by unfold giveB; rw [h]; rfl
    rw [show (bif true then giveB (pot sh x y) else false) = giveB (pot sh x y) from rfl, this]; rfl
  · rw [show (bif true then giveB (pot sh x y) else false) = giveB (pot sh x y) from rfl, show (bif true then giveV (pot sh x y) else c32 0) = giveV (pot sh x y) from rfl, (give_fin h).1, (give_fin h).2, fin_eq]
    show (bif !(finS (gV sh x y)) then Nn else X) = _
    cases finS (gV sh x y) <;> rfl
theorem paV_ok {sh x y : F32} (hp : isPt sh x y = true) (h : gOk1 sh x y = true) : two32 * paV sh x y = gV sh x y := by
  unfold gOk1 at h
  rw [Bool.and_eq_true] at h
  unfold paV
  rw [hp]
  show two32 * giveV (pot sh x y) = _
  rw [(give_fin h.1).1]; rfl
theorem condAnd (x y : Bool) (Z : Option (Bool × List AC)) : (bif x && y then Z else Nn) = bif x then (bif y then Z else Nn) else Nn := by cases x <;> rfl
theorem condNot (x : Bool) (Z : Option (Bool × List AC)) : (bif !x then Nn else Z) = bif x then Z else Nn := by cases x <;> rfl

structure GFacts (sh : F32) : Prop where
  c1 : rsCond sh (loA sh) (hiA sh) = true
  c2 : rsCond sh (loB sh) hiB = true
  c3 : rsCond sh loC (hiC sh) = true
  f1 : potFit sh (rsX sh (loA sh) (hiA sh)) (c32 0) = true
  f2 : potFit sh (rsX sh (loB sh) hiB) (c32 0) = true
  f3 : potFit sh (rsX sh loC (hiC sh)) (c32 0) = true
  f4 : potFit sh (pX sh) (pY) = true
  f5 : potFit sh (pX sh) (pZ) = true
  p1 : isPt sh (rsX sh (loA sh) (hiA sh)) (c32 0) = true
  p2 : isPt sh (rsX sh (loB sh) hiB) (c32 0) = true
  p3 : isPt sh (rsX sh loC (hiC sh)) (c32 0) = true
  p4 : isPt sh (pX sh) (pY) = true
  p5 : isPt sh (pX sh) (pZ) = true
theorem gFacts (sh : F32) (hs : isShare sh = true) : GFacts sh := by
  have hu := isShare_up hs
  have a1 : UpS 3 (loA sh) := (hu.neg.add upS_ka (by decide) (by decide)).mono (by decide)
  have a2 : UpS 3 (hiA sh) := ((upS_one.sub hu (by decide) (by decide)).sub (upS_ka.mono (by decide)) (by decide) (by decide)).mono (by decide)
  have b1 : UpS 3 (loB sh) := ((upS_one.sub hu (by decide) (by decide)).add (upS_ka.mono (by decide)) (by decide) (by decide)).mono (by decide)
  have b2 : UpS 3 hiB := upS_of _ false (2 ^ 23) (-22) rfl (by decide) (by decide) (by decide)
  have e1 : UpS 3 loC := upS_of _ true (2 ^ 23) (-22) rfl (by decide) (by decide) (by decide)
  have e2 : UpS 3 (hiC sh) := (hu.neg.sub upS_ka (by decide) (by decide)).mono (by decide)
  have hx : UpS 40 (pX sh) := ((upS_half.mono (by decide)).sub hu (by decide) (by decide)).mono (by decide)
  have hy : UpS 40 pY := upS_of _ false 14529495 (-24) rfl (by decide) (by decide) (by decide)
  have hz : UpS 40 pZ := upS_of _ true 14529495 (-24) rfl (by decide) (by decide) (by decide)
  have r1 : UpS 40 (rsX sh (loA sh) (hiA sh)) := (rsX_up a1 a2).mono (by decide)
  have r2 : UpS 40 (rsX sh (loB sh) hiB) := (rsX_up b1 b2).mono (by decide)
  have r3 : UpS 40 (rsX sh loC (hiC sh)) := (rsX_up e1 e2).mono (by decide)
  have h0 : UpS 40 (c32 0) := upS_zero 40
  have pt : ∀ {x y : F32}, UpS 40 x → UpS 40 y → isPt sh x y = true := by
    intro x y h1 h2
    unfold isPt cfin
    rw [hs, h1.fin, h2.fin]; rfl
  exact ⟨rs_cond hs a1 a2, rs_cond hs b1 b2, rs_cond hs e1 e2, pot_fit hu r1 h0, pot_fit hu r2 h0, pot_fit hu r3 h0, pot_fit hu hx hy, pot_fit hu hx hz, pt r1 h0, pt r2 h0, pt r3 h0, pt hx hy, pt hx hz⟩

theorem eGates_run (sh : F32) : runSl Try.prog [eIsShare, eRest, ePotAt, eIsFinite] [11] Try.f12 [.c (.fl .f32 sh)] = bif gOk sh then some (true, gCells sh) else Nn := by
  rw [eGates_raw]
  cases hs : isShare sh with
  | false => unfold gOk; rw [hs]; rfl
  | true =>
    obtain ⟨c1, c2, c3, f1, f2, f3, f4, f5, p1, p2, p3, p4, p5⟩ := gFacts sh hs
    rw [c1, c2, c3, eChain _ _ _ _ p5 f5, eChain _ _ _ _ p4 f4, eChain _ _ _ _ p3 f3, eChain _ _ _ _ p2 f2, eChain _ _ _ _ p1 f1]
    unfold gOk kIr
    rw [hs]
    simp only [condAnd, condNot]
    show (bif _ then _ else Nn) = _
    cases h1 : gOk1 sh (rsX sh (loA sh) (hiA sh)) (c32 0)
    · simp only [cond_false]; rfl
    cases h2 : gOk1 sh (rsX sh (loB sh) hiB) (c32 0)
    · simp only [cond_false, cond_true]
    cases h3 : gOk1 sh (rsX sh loC (hiC sh)) (c32 0)
    · simp only [cond_false, cond_true]
    cases h4 : gOk1 sh (pX sh) (pY)
    · simp only [cond_false, cond_true]
    cases h5 : gOk1 sh (pX sh) (pZ)
    · simp only [cond_false, cond_true]
    rw [paV_ok p1 h1, paV_ok p2 h2, paV_ok p3 h3, paV_ok p4 h4, paV_ok p5 h5]
    simp only [cond_true]
    rfl

def gFn : List AV → Option (Bool × Bool × List AC)
  | [.c (.fl .f32 sh)] => some (true, gOk sh, gCells sh)
  | _ => none
theorem gates_ok {f : FuncId} {fn : Func} {E : List (Entry Try.prog)} {I : List FuncId} (hf : Try.prog.funcs[f]? = some fn) (hr : ∀ sh : F32, runSl Try.prog E I fn [.c (.fl .f32 sh)] = bif gOk sh then some (true, gCells sh) else Nn) :
    ∀ args b cells, gFn args = some (true, b, cells) → ∀ vs w, RepF [] args vs → args.all plainA = true → Calls Try.prog f vs.toArray w fun e w' => Ext w w' ∧
    (match b with
    | true => ∃ (blk cap : Nat) (us : Array Value) (t : TypeId), e = .returned (.tuple #[.slice (some ⟨blk, 0, none⟩) cells.length cap, .bool true]) ∧ w.heap.size ≤ blk ∧ w'.heap[blk]? = some (.cells us t (0, 0)) ∧ RepP [] cells us.toList ∧ cap ≤ us.size ∧ cells.length ≤ cap
    | false => e = .returned (.tuple #[.slice none 0 0, .bool false])) := by
  intro args b cells h vs w ha hpl
  clear hpl
  unfold gFn at h
  split at h
  · rename_i sh
    have hq := hr sh
    simp only [Option.some.injEq, Prod.mk.injEq, true_and] at h
    obtain ⟨rfl, rfl⟩ := h
    cases hb : gOk sh with
    | true =>
      rw [hb] at hq
      exact (runSl_sound hf hq ha).mono fun e w' ⟨h1, h2⟩ => ⟨h1, h2⟩
    | false =>
      rw [hb] at hq
      exact (runSl_sound hf hq ha).mono fun e w' ⟨h1, h2⟩ => ⟨h1, h2⟩
  · cases h
def eGatesN : EntryN Try.prog := { f := 12, fn := gFn, enter := fun _ _ => enter_of Try.func12 (by kernel_rfl) (c := Try.f12.body.getD .skip) (by kernel_rfl), ok := gates_ok Try.func12 eGates_run }
def eqG (sh : F32) (k : Option AV) : Option AV := bif !(sameFl (widen (gV sh (rsX sh (loA sh) (hiA sh)) (c32 0))) (widen (gV sh (rsX sh (loA sh) (hiA sh)) (c32 0)))) then No else bif !(sameFl (widen (gV sh (rsX sh (loB sh) hiB) (c32 0))) (widen (gV sh (rsX sh (loB sh) hiB) (c32 0)))) then No else bif !(sameFl (widen (gV sh (rsX sh loC (hiC sh)) (c32 0))) (widen (gV sh (rsX sh loC (hiC sh)) (c32 0)))) then No else bif !(sameFl (widen (gV sh (pX sh) (pY))) (widen (gV sh (pX sh) (pY)))) then No else bif !(sameFl (widen (gV sh (pX sh) (pZ))) (widen (gV sh (pX sh) (pZ)))) then No else k
theorem eqG_eq (sh : F32) (k : Option AV) : eqG sh k = k := by unfold eqG; simp only [sameFl_refl]; rfl
end Go.Proofs.Ytlpahmefebgdlaa.Fx
/- Contracts: ships at points, pushes, constants, speeds. No condition. -/
namespace Go.Proofs.Ytlpahmefebgdlaa.Fx
open Go Go.RowKit

def eConj : Entry Try.prog := { f := 21, fn := shC fun x y => rC x (-y), ok := okC (E := []) Try.func21 (by kernel_rfl) fun x y _ => by kernel_rfl }
def ePlus : Entry Try.prog := { f := 61, fn := shCC fun x y u v => rC (x + u) (y + v), ok := okCC (E := []) Try.func61 (by kernel_rfl) fun x y u v _ => by kernel_rfl }
theorem eRootN_run (x : F32) (hx : fits (sqrt (widen x)) = true) : run Try.prog [eSqrt] Try.f74 [.c (.fl .f32 x)] [] = some (.c (.fl .f32 (narrow (sqrt (widen x))))) := by
  have h : run Try.prog [eSqrt] Try.f74 [.c (.fl .f32 x)] [] = bif fits (sqrt (widen x)) then some (.c (.fl .f32 (narrow (sqrt (widen x))))) else none := by kernel_rfl
  rw [h, hx]; rfl
def eRootN : Entry Try.prog := { f := 74, fn := shS fun x => (fits (sqrt (widen x)), .c (.fl .f32 (narrow (sqrt (widen x))))), ok := okS (E := [eSqrt]) Try.func74 (by kernel_rfl) fun x h => eRootN_run x h }
theorem eApart_run (x y u v : F32) (hx : fits (longF (x - u) (y - v)) = true) : run Try.prog [eLong] Try.f18 [.c (.cx .f32 x y), .c (.cx .f32 u v)] [] = some (.c (.fl .f64 (widen (long (x - u) (y - v))))) := by
  have h : run Try.prog [eLong] Try.f18 [.c (.cx .f32 x y), .c (.cx .f32 u v)] [] = bif fits (longF (x - u) (y - v)) then some (.c (.fl .f64 (widen (long (x - u) (y - v))))) else none := by kernel_rfl
  rw [h, hx]; rfl
def eApart : Entry Try.prog := { f := 18, fn := shCC fun x y u v => (fits (longF (x - u) (y - v)), .c (.fl .f64 (widen (long (x - u) (y - v))))), ok := okCC (E := [eLong]) Try.func18 (by kernel_rfl) fun x y u v h => eApart_run x y u v h }

-- ships
def shSh (g : F32 → F32 → F32 → F32 → Bool × AV) : List AV → List (List AC) → Option (Bool × AV)
  | [.agg [.cx .f32 x y, .cx .f32 u v]], _ => some (g x y u v)
  | _, _ => none
theorem okSh {P : Program} {E : List (Entry P)} {f : FuncId} {fn : Func} {g : F32 → F32 → F32 → F32 → Bool × AV} (hf : P.funcs[f]? = some fn) (hn : (fn.name == "runtime.NumGoroutine") = false)
    (h : ∀ (x y u v : F32), (g x y u v).1 = true → runP P E fn [.agg [.cx .f32 x y, .cx .f32 u v]] [] = some (g x y u v).2) : EOk P f (shSh g) := by
  intro args M q hr σ vs w _ ha
  unfold shSh at hr
  split at hr
  · rename_i x y u v
    have hr' := Option.some.inj hr
    have h1 := h x y u v (by rw [hr'])
    rw [hr'] at h1
    exact gives0P hf hn rfl h1 ha
  · cases hr
def shSSh (g : F32 → F32 → F32 → F32 → F32 → Bool × AV) : List AV → List (List AC) → Option (Bool × AV)
  | [.c (.fl .f32 s), .agg [.cx .f32 x y, .cx .f32 u v]], _ => some (g s x y u v)
  | _, _ => none
theorem okSSh {P : Program} {E : List (Entry P)} {f : FuncId} {fn : Func} {g : F32 → F32 → F32 → F32 → F32 → Bool × AV} (hf : P.funcs[f]? = some fn) (hn : (fn.name == "runtime.NumGoroutine") = false)
    (h : ∀ (s x y u v : F32), (g s x y u v).1 = true → runP P E fn [.c (.fl .f32 s), .agg [.cx .f32 x y, .cx .f32 u v]] [] = some (g s x y u v).2) : EOk P f (shSSh g) := by
  intro args M q hr σ vs w _ ha
  unfold shSSh at hr
  split at hr
  · rename_i s x y u v
    have hr' := Option.some.inj hr
    have h1 := h s x y u v (by rw [hr'])
    rw [hr'] at h1
    exact gives0P hf hn rfl h1 ha
  · cases hr
def vShip (x y u v : F32) : Bool := cfin x y && cfin u v
theorem eVShip_run (x y u v : F32) : runP Try.prog [eCFin] Try.f59 [.agg [.cx .f32 x y, .cx .f32 u v]] [] = some (.c (.sb (vShip x y u v))) := by
  unfold vShip; rw [push_and]; kernel_rfl
def eVShip : Entry Try.prog := { f := 59, fn := shSh fun x y u v => rB (vShip x y u v), ok := okSh (E := [eCFin]) Try.func59 (by kernel_rfl) fun x y u v _ => eVShip_run x y u v }
def coW (s x y u v : F32) : F32 := two32 * pot s x y - powN u v
def coOk (s x y u v : F32) : Bool := isShare s && vShip x y u v
theorem eConst_run (s x y u v : F32) (hx : (!(coOk s x y u v) || (potFit s x y && fits (powerW u v))) = true) : runP Try.prog [eIsShare, eVShip, eFrame, ePotential, ePowerOf, eTold] Try.f15 [.c (.fl .f32 s), .agg [.cx .f32 x y, .cx .f32 u v]] [] =
    some (.tup [.fl .f32 (bif coOk s x y u v then giveV (coW s x y u v) else c32 0), .sb (bif coOk s x y u v then giveB (coW s x y u v) else false)]) := by
  have h : runP Try.prog [eIsShare, eVShip, eFrame, ePotential, ePowerOf, eTold] Try.f15 [.c (.fl .f32 s), .agg [.cx .f32 x y, .cx .f32 u v]] [] = bif !(isShare s) then Zr else bif !(vShip x y u v) then Zr else
    bif frFit s x y then (bif fits (powerW x y) then (bif fits (powerW u v) then some (.tup [.fl .f32 (toldV (coW s x y u v)), .sb (toldB (coW s x y u v))]) else none) else none) else none := by kernel_rfl
  rw [h, (told_give _).1, (told_give _).2]
  unfold coOk at hx ⊢
  cases h1 : isShare s
  · rfl
  · cases h2 : vShip x y u v
    · rfl
    · rw [h1, h2] at hx
      have h3 : (potFit s x y && fits (powerW u v)) = true := hx
      unfold potFit at h3
      simp only [Bool.and_eq_true] at h3
      rw [h3.1.1, h3.1.2, h3.2]; rfl
def eConst : Entry Try.prog := { f := 15, fn := shSSh fun s x y u v => (!(coOk s x y u v) || (potFit s x y && fits (powerW u v)), .tup [.fl .f32 (bif coOk s x y u v then giveV (coW s x y u v) else c32 0), .sb (bif coOk s x y u v then giveB (coW s x y u v) else false)]), ok := okSSh (E := [eIsShare, eVShip, eFrame, ePotential, ePowerOf, eTold]) Try.func15 (by kernel_rfl) fun s x y u v h => eConst_run s x y u v h }

end Go.Proofs.Ytlpahmefebgdlaa.Fx
