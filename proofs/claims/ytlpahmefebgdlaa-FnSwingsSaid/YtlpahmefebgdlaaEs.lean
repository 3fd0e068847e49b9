/- The executor, ninth part: calls run in place, slices built and appended to. No condition. -/
import Derived.Test.YtlpahmefebgdlaaEr
import Derived.Laws.Append
import Derived.Laws.AppendOwn
namespace Go.Proofs.Ytlpahmefebgdlaa.Fx
open Go Go.RowKit

-- forgetting a block
def killC (id : Nat) : AC → AC
  | .ptr i o => if i = id then .any else .ptr i o
  | .slc i n => if i = id then .any else .slc i n
  | .sub i o n => if i = id then .any else .sub i o n
  | x => x
def killA (id : Nat) : AV → AV
  | .c x => .c (killC id x)
  | .agg l => .agg (l.map (killC id))
  | .tup l => .tup (l.map (killC id))

theorem RepC.kill {σ : List (Nat × Nat)} {id : Nat} (p : Nat × Nat) {x : AC} {v : Value} (h : RepC σ x v) : RepC (σ.set id p) (killC id x) v := by
  cases x with
  | ptr i o =>
    simp only [killC]
    split
    · trivial
    · rename_i hi
      obtain ⟨b, hb, e⟩ := h
      exact ⟨b, by rw [List.getElem?_set_ne (fun e => hi e.symm)]; exact hb, e⟩
  | slc i n =>
    simp only [killC]
    split
    · trivial
    · rename_i hi
      obtain ⟨b, hb, e⟩ := h
      exact ⟨b, by rw [List.getElem?_set_ne (fun e => hi e.symm)]; exact hb, e⟩
  | sub i o n =>
    simp only [killC]
    split
    · trivial
    · rename_i hi
      obtain ⟨b, a, c, hb, e⟩ := h
      exact ⟨b, a, c, by rw [List.getElem?_set_ne (fun e => hi e.symm)]; exact hb, e⟩
  | _ => exact h
theorem RepL.kill {σ : List (Nat × Nat)} {id : Nat} (p : Nat × Nat) {l : List AC} {vs : List Value} (h : RepL σ l vs) : RepL (σ.set id p) (l.map (killC id)) vs := by
  induction h with
  | nil => exact .nil
  | cons h _ ih => exact .cons (h.kill p) ih
theorem Rep.kill {σ : List (Nat × Nat)} {id : Nat} (p : Nat × Nat) {x : AV} {v : Value} (h : Rep σ x v) : Rep (σ.set id p) (killA id x) v := by
  cases x with
  | c x => exact RepC.kill p h
  | agg l => obtain ⟨vs, e, hl⟩ := h; exact ⟨vs, e, hl.kill p⟩
  | tup l => obtain ⟨vs, e, hl⟩ := h; exact ⟨vs, e, hl.kill p⟩
theorem RepF.kill {σ : List (Nat × Nat)} {id : Nat} (p : Nat × Nat) {F : List AV} {vs : List Value} (h : RepF σ F vs) : RepF (σ.set id p) (F.map (killA id)) vs := by
  induction h with
  | nil => exact .nil
  | cons h _ ih => exact .cons (h.kill p) ih
theorem RepP.kill {σ : List (Nat × Nat)} {id : Nat} (p : Nat × Nat) {cs : List AC} {vs : List Value} (h : RepP σ cs vs) : RepP (σ.set id p) (cs.map (killC id)) vs := by
  obtain ⟨k, h⟩ := h
  refine ⟨k, ?_⟩
  have := h.kill (id := id) p
  rw [List.map_append, List.map_replicate] at this
  exact this

/-- An append to a slice that the run made itself, of cells; or to none. -/
def appA (P : Program) (n0 k0 : Nat) (t : TypeId) (s x : AV) (F : List AV) (M : List (List AC)) : Option (AV × List AV × List (List AC)) :=
  match P.underlying t with
  | some (.slice e) =>
    match P.info? e with
    | some i =>
      if i.size = 1 ∧ i.zero.map (·.cells.size) = some 1 ∧ i.bytes ≤ 1000 then
        match s, x with
        | .c (.slc id n), .c (.slc id2 m) =>
          match M[id]?, M[id2]? with
          | some cs, some l =>
            if cs.length = n ∧ m ≤ l.length ∧ (l.take m).all oneA = true ∧ cs.all plainC = true ∧ (l.take m).all plainC = true ∧ n0 ≤ id ∧ k0 ≤ id ∧ 0 < m ∧ n + m ≤ 1000 then
              some (.c (.slc id (n + m)), F.map (killA id), (M.map (·.map (killC id))).set id (cs ++ l.take m))
            else none
          | _, _ => none
        | _, _ => none
      else none
    | none => none
  | _ => none

theorem cells_take {σ : List (Nat × Nat)} {l : List AC} {vs : List Value} (h : RepP σ l vs) (m : Nat) (hm : m ≤ l.length) : RepL σ (l.take m) (vs.take m) := by
  obtain ⟨k, h⟩ := h
  have := h.take m
  rw [List.take_append_of_le_length hm] at this
  exact this

theorem MemOk.kill {σ : List (Nat × Nat)} {M : List (List AC)} {w w' : World} {id : Nat} {p : Nat × Nat} {l : List AC} {vs : Array Value} {e : TypeId} (h : MemOk σ M w) (hid : id < σ.length)
    (hnew : w'.heap[p.1]? = some (.cells vs e (0, 0))) (hl : RepP (σ.set id p) l vs.toList) (hc : p.2 ≤ vs.size)
    (hfresh : ∀ (j : Nat) (b : Nat × Nat), j ≠ id → σ[j]? = some b → b.1 ≠ p.1 ∧ w'.heap[b.1]? = w.heap[b.1]?) : MemOk (σ.set id p) ((M.map (·.map (killC id))).set id l) w' := by
  refine ⟨by simp [h.len], ?_, fun j b cs hb hcs => ?_⟩
  · rw [List.nodup_iff_pairwise_ne, List.pairwise_iff_getElem]
    intro i j hi hj hij he
    have he' : ((σ.set id p).map (·.1))[i]? = ((σ.set id p).map (·.1))[j]? := by rw [List.getElem?_eq_getElem hi, List.getElem?_eq_getElem hj, he]
    have hi' : i < σ.length := by simpa using hi
    have hj' : j < σ.length := by simpa using hj
    clear he
    rw [List.getElem?_map, List.getElem?_map] at he'
    have at_ : ∀ k, (hk : k < σ.length) → k ≠ id → (σ.set id p)[k]? = some (σ[k]'hk) := fun k hk hne => by rw [List.getElem?_set_ne (Ne.symm hne), List.getElem?_eq_getElem hk]
    by_cases h1 : i = id
    · subst h1
      rw [List.getElem?_set_self hid, at_ j hj' (by omega)] at he'
      exact (hfresh j σ[j] (by omega) (List.getElem?_eq_getElem hj')).1 (Option.some.inj he').symm
    · by_cases h2 : j = id
      · subst h2
        rw [List.getElem?_set_self hid, at_ i hi' h1] at he'
        exact (hfresh i σ[i] h1 (List.getElem?_eq_getElem hi')).1 (Option.some.inj he')
      · rw [at_ i hi' h1, at_ j hj' h2] at he'
        have hn := h.nodup
        have h3 : (σ.map (·.1))[i]? = (σ.map (·.1))[j]? := by rw [List.getElem?_map, List.getElem?_map, List.getElem?_eq_getElem hi', List.getElem?_eq_getElem hj']; exact he'
        have := (List.getElem?_inj (by simpa using hi') hn).1 h3
        omega
  · by_cases hj : j = id
    · subst hj
      rw [List.getElem?_set_self hid] at hb
      rw [List.getElem?_set_self (by simpa [← h.len] using hid)] at hcs
      cases hb; cases hcs
      exact ⟨vs, e, hnew, hl, hc⟩
    · rw [List.getElem?_set_ne (Ne.symm hj)] at hb
      rw [List.getElem?_set_ne (Ne.symm hj), List.getElem?_map] at hcs
      cases hcs0 : M[j]? with
      | none => rw [hcs0] at hcs; cases hcs
      | some cs0 =>
        rw [hcs0] at hcs
        cases hcs
        obtain ⟨vs', e', hw, hr, hs⟩ := h.at_ j b cs0 hb hcs0
        exact ⟨vs', e', by rw [(hfresh j b hj hb).2]; exact hw, hr.kill p, hs⟩

theorem append_room {P : Program} {w : World} (t ty e e1 : TypeId) (i : TypeInfo) (ht : P.underlying t = some (.slice e)) (hi : P.info? e = some i)
    (g sLen sCap : Nat) (cur : Array Value) (hg : w.heap[g]? = some (.cells cur e1 (0, 0)))
    (a : Addr) (m c : Nat) (news : List Value) (hl : news.length = m * i.size) (hnews : ∀ j u, news[j]? = some u → w.cell? (a.add j) = some u) (h1 : ∀ u ∈ news, u.oneCell' = true)
    (hroom : sLen + m ≤ sCap) (hfit : sLen * i.size + news.length ≤ cur.size) :
    (Builtin.append_ #[t, t] ty #[.slice (some ⟨g, 0, none⟩) sLen sCap, .slice (some a) m c]).run P w =
      .ok (.slice (some ⟨g, 0, none⟩) (sLen + m) sCap) (w.setRow g (cur.toList.take (sLen * i.size) ++ news ++ cur.toList.drop (sLen * i.size + news.length)).toArray) := by
  have hf := run_firstCells_some (P := P) w i.size m a m c news hl hnews
  have hst := run_storeCells_at P g (sLen * i.size) e1 news 0 cur w hg (by simpa using hfit) h1
  simp only [Nat.add_zero] at hst
  simp [Builtin.append_, run_underlying ht, sizeOf, typeInfo, hi, Builtin.lenOf, hroom, hf, Addr.add_lit, hst]

theorem app_sound {P : Program} {n0 k0 : Nat} {w0 : Base} {F F1 : List AV} {M M1 : List (List AC)} {t ty : TypeId} {s x : Operand} {r : AV} (hk : w0.s0.length ≤ k0) (h : appA P n0 k0 t (evA F s) (evA F x) F M = some (r, F1, M1)) (dst : Option Tmp)
    {σ : List (Nat × Nat)} {a : Act} {w : World} (hS : St σ n0 w0 F M a w) : ∃ σ' v w', (Builtin.append_ #[t, t] ty #[a.eval s, a.eval x]).run P w = .ok v w' ∧ St σ' n0 w0 (putA F1 dst r) M1 (a.put dst v) w' := by
  unfold appA at h
  split at h
  · rename_i e ht
    split at h
    · rename_i i hi
      split at h
      · rename_i hsz
        obtain ⟨hsz, hzz, hby⟩ := hsz
        obtain ⟨z, hz, hz1⟩ : ∃ z, i.zero = some z ∧ z.cells.size = 1 := by
          cases hq : i.zero with
          | none => rw [hq] at hzz; cases hzz
          | some z => rw [hq] at hzz; exact ⟨z, rfl, Option.some.inj hzz⟩
        split at h
        · rename_i id n id2 m es ex
          split at h
          · rename_i cs l hcs hl
            split at h
            · rename_i hc
              obtain ⟨c1, c2, c3, c4, c5, c6, c7, c8, c9⟩ := hc
              cases h
              have hs := rep_ev hS.frame s
              have hx := rep_ev hS.frame x
              rw [es] at hs; rw [ex] at hx
              obtain ⟨b, hb, hbn, hvs⟩ := hs
              obtain ⟨b2, hb2, hbn2, hvx⟩ := hx
              obtain ⟨vs, e1, hw1, hP1, hs1⟩ := hS.mem.at_ id b cs hb hcs
              obtain ⟨us, e2, hw2, hP2, hs2⟩ := hS.mem.at_ id2 b2 l hb2 hl
              have hidlt : id < σ.length := (List.getElem?_eq_some_iff.1 hb).1
              have hnew := cells_take hP2 m c2
              have hold := cells_take hP1 n (by omega)
              have hold' : RepL σ cs (vs.toList.take n) := by rwa [List.take_of_length_le (by omega)] at hold
              have hPl1 := hP1.le
              have hPl2 := hP2.le
              simp only [Array.length_toList] at hPl1 hPl2
              have one : ∀ u ∈ us.toList.take m, u.cells = #[u] ∧ u.oneCell' = true := by
                intro u hu
                obtain ⟨j, hj⟩ := List.getElem?_of_mem hu
                have hjl : j < (l.take m).length := by rw [hnew.length]; exact (List.getElem?_eq_some_iff.1 hj).1
                obtain ⟨v, hv, hr⟩ := hnew.get? (List.getElem?_eq_getElem hjl)
                rw [hj] at hv
                cases hv
                exact oneA_cells hr (List.all_eq_true.1 c3 _ (List.getElem_mem _))
              have hll : (us.toList.take m).length = m * i.size := by simp [hsz]; omega
              have hnews : ∀ j u, (us.toList.take m)[j]? = some u → w.cell? ((⟨b2.1, 0, none⟩ : Addr).add j) = some u := by
                intro j u hj
                have hjm : j < m := by
                  have := (List.getElem?_eq_some_iff.1 hj).1
                  simp at this; omega
                rw [List.getElem?_take_of_lt hjm] at hj
                rw [add_off]
                simp only [World.cell?, hw2]
                simpa using hj
              have hpre : ∀ {p : Nat × Nat}, w0.s0 <+: σ.set id p := by
                intro p
                obtain ⟨t, ht⟩ := hS.pre
                refine ⟨t.set (id - w0.s0.length) p, ?_⟩
                rw [← ht, List.set_append_right _ _ (by omega)]
              rw [hvs, hvx]
              by_cases hroom : n + m ≤ b.2
              · -- in place
                have hr := append_room (P := P) (w := w) t ty e e1 i ht hi b.1 n b.2 vs hw1 ⟨b2.1, 0, none⟩ m b2.2 (us.toList.take m) hll hnews (fun u hu => (one u hu).2) hroom (by rw [hsz]; simp; omega)
                refine ⟨σ.set id b, _, _, hr, ?_⟩
                have hset : σ.set id b = σ := by
                  apply List.ext_getElem?
                  intro j
                  by_cases hj : id = j
                  · subst hj; rw [List.getElem?_set_self hidlt, hb]
                  · rw [List.getElem?_set_ne hj]
                rw [hsz, Nat.mul_one]
                have hlen : (us.toList.take m).length = m := by simp; omega
                refine ⟨by cases dst <;> exact hS.defers, rep_put (hS.frame.kill b) dst ?_, hS.mem.kill hidlt (p := b) (vs := (vs.toList.take n ++ us.toList.take m ++ vs.toList.drop (n + (us.toList.take m).length)).toArray) (e := e1) (setRow_heap w b.1 vs _ e1 (0, 0) hw1) ?_ ?_ ?_, hS.ext.setRow (hS.own id b c6 hb) _, ?_, hpre⟩
                · exact ⟨b, List.getElem?_set_self hidlt, hroom, rfl⟩
                · rw [hset]
                  refine ⟨vs.size - (n + m), ?_⟩
                  rw [List.toList_toArray]
                  refine (hold'.append hnew).append ?_
                  have := RepL.some_any (σ := σ) (vs.toList.drop (n + (us.toList.take m).length))
                  rw [List.length_drop, hlen, Array.length_toList] at this
                  rw [hlen]
                  exact this
                · simp; omega
                · intro j b' hj hb'
                  have hne : b'.1 ≠ b.1 := fun e => by
                    have h1 : (σ.map (·.1))[j]? = some b'.1 := by rw [List.getElem?_map, hb']; rfl
                    have h2 : (σ.map (·.1))[id]? = some b.1 := by rw [List.getElem?_map, hb]; rfl
                    exact hj ((List.getElem?_inj (List.getElem?_eq_some_iff.1 h1).1 hS.mem.nodup).1 (h1.trans (by rw [e, h2])))
                  refine ⟨hne, ?_⟩
                  simp only [World.setRow, Array.getElem?_modify]
                  rw [if_neg (Ne.symm hne)]
                · rw [hset]; exact hS.own
              · -- a new block
                have hcap : n ≤ 1000 := by omega
                have hnext := nextslicecap_le (need := n + m) (old := b.2) (by omega)
                have holds : ∀ j v, (vs.toList.take n)[j]? = some v → w.cell? ((⟨b.1, 0, none⟩ : Addr).add j) = some v := by
                  intro j u hj
                  have hjm : j < n := by
                    have := (List.getElem?_eq_some_iff.1 hj).1
                    simp at this; omega
                  rw [List.getElem?_take_of_lt hjm] at hj
                  rw [add_off]
                  simp only [World.cell?, hw1]
                  simpa using hj
                have hr := run_append_grow (P := P) w t ty e i z ht hi hz ⟨b.1, 0, none⟩ n b.2 (vs.toList.take n) (by simp [hsz]; omega) holds ⟨b2.1, 0, none⟩ m b2.2 (us.toList.take m) hll hnews (by omega) (by omega) (by
                  have : Builtin.nextslicecap (n + m) b.2 * i.bytes ≤ 2000 * 1000 := Nat.mul_le_mul (by omega) hby
                  omega)
                have hge := grownCap_ge w (n + m) b.2 e
                refine ⟨σ.set id (w.heap.size, grownCap w (n + m) b.2 e), _, _, hr, ?_⟩
                have hext : Ext w (w.drew.alloc (.cells ((vs.toList.take n).toArray ++ (us.toList.take m).toArray ++ Builtin.zeroCells z.cells (grownCap w (n + m) b.2 e - (n + m))) e)) := (Ext.drewN w 1).trans (Ext.alloc _ _)
                refine ⟨by cases dst <;> exact hS.defers, rep_put (hS.frame.kill _) dst ?_, hS.mem.kill hidlt (p := (w.heap.size, grownCap w (n + m) b.2 e)) (heap_alloc_new w.drew _) ?_ ?_ ?_, hS.ext.trans hext, ?_, hpre⟩
                · exact ⟨_, List.getElem?_set_self hidlt, hge, rfl⟩
                · refine ⟨grownCap w (n + m) b.2 e - (n + m), ?_⟩
                  have k1 : RepL (σ.set id (w.heap.size, grownCap w (n + m) b.2 e)) cs (vs.toList.take n) := plainL_rep c4 hold'
                  have k2 : RepL (σ.set id (w.heap.size, grownCap w (n + m) b.2 e)) (l.take m) (us.toList.take m) := plainL_rep c5 hnew
                  have k3 := RepL.some_any (σ := σ.set id (w.heap.size, grownCap w (n + m) b.2 e)) (Builtin.zeroCells z.cells (grownCap w (n + m) b.2 e - (n + m))).toList
                  rw [Array.length_toList, size_zeroCells, hz1, Nat.mul_one] at k3
                  have := (k1.append k2).append k3
                  simpa using this
                · simp only [Array.size_append, List.size_toArray, size_zeroCells, hz1, Nat.mul_one, List.length_take, Array.length_toList]
                  omega
                · intro j b' hj hb'
                  have hlt := hS.mem.lt hb'
                  exact ⟨by show b'.1 ≠ w.heap.size; omega, heap_alloc_old w.drew _ hlt⟩
                · intro j b' hj hb'
                  by_cases hji : j = id
                  · subst hji
                    rw [List.getElem?_set_self hidlt] at hb'
                    cases hb'
                    exact hS.ext.size
                  · rw [List.getElem?_set_ne (Ne.symm hji)] at hb'
                    exact hS.own j b' hj hb'
            · cases h
          · cases h
        · cases h
      · cases h
    · cases h
  · cases h

end Go.Proofs.Ytlpahmefebgdlaa.Fx
