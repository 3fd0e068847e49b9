/- Texts put together: Lb. No condition. -/
import Derived.Test.YtlpahmefebgdlaaQm
import Derived.Test.YtlpahmefebgdlaaRows
import Derived.ProofKit
import Derived.OpenShut
import Derived.ChangeSlices
import Derived.WideKeyArgs
/- Two slices of bytes as a law's arguments: opened and shut. No condition. -/
namespace Go.Proofs.Ytlpahmefebgdlaa
open Go.ChangeShapes Go.WideShapes Go.ChangeAt Go.RowKit Fx

theorem laidB : laidOutB Try.prog = true := by kernel_rfl
theorem cells5 : Try.prog.cellsOf 5 = 1 := by kernel_rfl
section
variable {H : Type} {enc : TypeId × Value → H}
set_option maxRecDepth 100000 in
theorem open_bytes {W : World} {base : Nat} {v : Value} {d : DataW H} {p : List MemPlace} (hval : Value.okWide Try.prog W .any base 22 v) (h : DataW.Trod enc Try.prog W 0 (fun _ => true) true 22 v d p) :
    (∃ l, BytesAt W v l) ∧ ∀ x ∈ p, ∃ xb xo, x = .cell xb xo ∧ xb < W.heap.size := by
  obtain ⟨a1, len, cap, rfl⟩ := okWide_slice Try.underlying22 hval
  obtain ⟨fuel, hf⟩ := h
  rcases open_ints Try.underlying22 Try.underlying5 cells5 hf with ⟨hcs, hx⟩ | ⟨a, len', cap', zs, hcs, _, hl, hm, hz, hx, hcell, hwz⟩
  · simp [Value.cells] at hcs
    obtain ⟨rfl, rfl, rfl⟩ := hcs
    simp only [Prod.mk.injEq] at hx
    obtain ⟨rfl, rfl⟩ := hx
    exact ⟨⟨[], .inl ⟨_, _, rfl, rfl⟩⟩, fun _ h => (by cases h)⟩
  · simp [Value.cells] at hcs
    obtain ⟨rfl, rfl, rfl⟩ := hcs
    simp only [Prod.mk.injEq] at hx
    obtain ⟨rfl, rfl⟩ := hx
    simp only [if_true] at hz
    obtain ⟨ab, ao, spot⟩ := a
    have hspot : 0 < zs.length → spot = none := fun h0 => by simpa [Addr.add] using World.cell?_spot (hcell 0 h0)
    refine ⟨?_, fun x hx => ?_⟩
    · by_cases hlen : len = 0
      · subst hlen
        exact ⟨[], .inl ⟨_, _, rfl, rfl⟩⟩
      · have hsp := hspot (by omega)
        subst hsp
        have htl : (zs.take len).length = len := by simp; omega
        have hml : maxLen = 9223372036854775807 := by decide
        refine ⟨zs.take len, .inr ⟨ab, ao, cap, by rw [htl], by rw [htl]; omega, fun j hj => ?_⟩⟩
        rw [htl] at hj
        have hcj := hcell j (by omega)
        rw [Addr.add_lit] at hcj
        have e : (zs.take len).getD j 0 = zs.getD j 0 := by simp [List.getD, hj]
        rw [e]
        have hb := range_u8 hwz j
        rw [← List.getD_eq_getElem?_getD] at hb
        exact ⟨hcj, hb.1, by omega⟩
    · simp only [MemPlace.row, List.mem_map, List.mem_range] at hx
      obtain ⟨i, hi, rfl⟩ := hx
      exact ⟨_, _, rfl, by
        have := World.block_lt_of_cell? W _ (hcell i (by omega))
        rwa [block_add] at this⟩

set_option maxRecDepth 100000 in
theorem shut_bytes {W W' : World} {v : Value} {d : DataW H} {p : List MemPlace} (h : DataW.Trod enc Try.prog W 0 (fun _ => true) true 22 v d p) (hp : ∀ x ∈ p, ∃ xb xo, x = .cell xb xo ∧ xb < W.heap.size) (hw : Ext W W') :
    DataW.Trod enc Try.prog W' 0 (fun x => decide (x < W.heap.size)) true 22 v d p :=
  WideElems.Trod_stays (P := Try.prog) laidB (by kernel_rfl) (of_decide_eq_true (by kernel_rfl)) h
    (fun x hx => by
      obtain ⟨xb, xo, rfl, hlt⟩ := hp x hx
      show W'.cell? ⟨xb, xo, none⟩ = W.cell? ⟨xb, xo, none⟩
      unfold World.cell?
      rw [hw.block xb hlt])
    (fun x hx => by obtain ⟨xb, xo, rfl, hlt⟩ := hp x hx; exact decide_eq_true hlt)
end
end Go.Proofs.Ytlpahmefebgdlaa
