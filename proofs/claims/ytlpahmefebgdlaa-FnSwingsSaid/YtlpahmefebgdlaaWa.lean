/- Slices of bytes that came in: what the laws read of them. No condition. -/
import Derived.Test.YtlpahmefebgdlaaEv
import Derived.Test.YtlpahmefebgdlaaProg
import Derived.WalkKit
import Derived.KernelRfl
import Derived.Lib.Hide
import Derived.IntWalk
namespace Go.Proofs.Ytlpahmefebgdlaa.Fx
open Go Go.RowKit

/-- A value is a slice with these bytes. -/
def BytesAt (W : World) (v : Value) (l : List Int) : Prop :=
  (∃ a cap, v = .slice a 0 cap ∧ l = []) ∨
  ∃ b off cap, v = .slice (some ⟨b, off, none⟩) l.length cap ∧ l.length ≤ 9223372036854775807 ∧ ∀ j, j < l.length → W.cell? ⟨b, off + j, none⟩ = some (.int .u8 (l.getD j 0)) ∧ 0 ≤ l.getD j 0 ∧ l.getD j 0 < 256

theorem Ext.cell {W w : World} (h : Ext W w) {a : Addr} {v : Value} (ha : W.cell? a = some v) : w.cell? a = some v := by
  have hb := World.block_lt_of_cell? W a ha
  unfold World.cell? at ha ⊢
  rw [h.block a.block hb]; exact ha

theorem BytesAt.ext {W w : World} (hw : Ext W w) {v : Value} {l : List Int} (h : BytesAt W v l) : BytesAt w v l := by
  rcases h with h | ⟨b, off, cap, rfl, hl, hc⟩
  · exact .inl h
  · exact .inr ⟨b, off, cap, rfl, hl, fun j hj => ⟨hw.cell (hc j hj).1, (hc j hj).2⟩⟩

theorem BytesAt.range {W : World} {v : Value} {l : List Int} (h : BytesAt W v l) (j : Nat) : 0 ≤ l.getD j 0 ∧ l.getD j 0 < 256 := by
  by_cases hj : j < l.length
  · rcases h with ⟨_, _, _, rfl⟩ | ⟨b, off, cap, _, _, hc⟩
    · cases hj
    · exact (hc j hj).2
  · have : l.getD j 0 = 0 := by simp [List.getD, List.getElem?_eq_none (Nat.le_of_not_lt hj)]
    rw [this]; decide

/-- Which slices those are, and their bytes. -/
noncomputable def good (W : World) (v : Value) : Bool := @decide (∃ l, BytesAt W v l) (Classical.propDecidable _)
noncomputable def bytesOf (W : World) (v : Value) : List Int := Classical.epsilon fun l => BytesAt W v l
theorem good_of {W : World} {v : Value} {l : List Int} (h : BytesAt W v l) : good W v = true := by
  unfold good; exact @decide_eq_true _ (Classical.propDecidable _) ⟨l, h⟩
theorem of_good {W : World} {v : Value} (h : good W v = true) : BytesAt W v (bytesOf W v) :=
  Classical.epsilon_spec (@of_decide_eq_true _ (Classical.propDecidable _) h)

/-- What r8At reads. -/
def r8v (l : List Int) (k n : Int) : Int := if n ≤ 1 then 0 else if (l.length : Int) ≤ k then 0 else l.getD k.toNat 0 % n
/-- What b10At reads. -/
def b10v (l : List Int) (k n : Int) : Int := if n ≤ 1 then 0 else if k < (l.length : Int) then l.getD k.toNat 0 % n else (k * 37 + 11) % n

theorem r8v_range (l : List Int) (k : Int) {n : Int} (hn : 0 < n) : 0 ≤ r8v l k n ∧ r8v l k n < n := by
  unfold r8v
  split
  · omega
  · split
    · omega
    · exact ⟨Int.emod_nonneg _ (by omega), Int.emod_lt_of_pos _ hn⟩
theorem b10v_range (l : List Int) (k : Int) {n : Int} (hn : 0 < n) : 0 ≤ b10v l k n ∧ b10v l k n < n := by
  unfold b10v
  split
  · omega
  · split
    · exact ⟨Int.emod_nonneg _ (by omega), Int.emod_lt_of_pos _ hn⟩
    · exact ⟨Int.emod_nonneg _ (by omega), Int.emod_lt_of_pos _ hn⟩

theorem wrap_byte {z : Int} (h0 : 0 ≤ z) (h1 : z < 256) : IntKind.i64.wrap z = z := Go.IntWalk.i64_in _ (by omega)
theorem tmod_byte {z n : Int} (h0 : 0 ≤ z) : z.tmod n = z % n := Int.tmod_eq_emod_of_nonneg h0

theorem r8At_some (b off cap : Nat) (l : List Int) (k : Nat) (n : Int) (w : World) (hn : 1 < n) (hk : k < l.length)
    (hc : w.cell? ⟨b, off + k, none⟩ = some (.int .u8 (l.getD k 0))) (h0 : 0 ≤ l.getD k 0) (h1 : l.getD k 0 < 256) :
    Calls Try.prog 10 #[.slice (some ⟨b, off, none⟩) l.length cap, .int .i64 k, .int .i64 n] w fun e w' => e = .returned (.int .i64 (l.getD k 0 % n)) ∧ w' = w := by
  obtain ⟨z, hz⟩ : ∃ z, l.getD k 0 = z := ⟨_, rfl⟩
  rw [hz] at hc h0 h1 ⊢
  obtain ⟨m, hm⟩ : ∃ m, l.length = m := ⟨_, rfl⟩
  rw [hm] at hk ⊢
  clear hz hm
  have hr : (IntKind.i64.wrap z).tmod n = z % n := by rw [wrap_byte h0 h1, tmod_byte h0]
  have hr' : z.tmod n = z % n := tmod_byte h0
  have H := Lib.hid hr
  have H' := Lib.hid hr'
  clear hr hr'
  go_enter Try.func10, Try.ntmps10
  go_wp2
  go_ret
  refine ⟨?_, rfl⟩
  rfl
theorem r8At_small (v : Value) (k n : Int) (w : World) (hn : n ≤ 1) (hv : ∃ a len cap, v = .slice a len cap) :
    Calls Try.prog 10 #[v, .int .i64 k, .int .i64 n] w fun e w' => e = .returned (.int .i64 0) ∧ w' = w := by
  obtain ⟨a, len, cap, rfl⟩ := hv
  go_enter Try.func10, Try.ntmps10
  go_wp2
  go_ret
  exact ⟨rfl, rfl⟩
theorem r8At_out (a : Option Addr) (m cap k : Nat) (n : Int) (w : World) (hn : 1 < n) (hk : m ≤ k) :
    Calls Try.prog 10 #[.slice a m cap, .int .i64 k, .int .i64 n] w fun e w' => e = .returned (.int .i64 0) ∧ w' = w := by
  go_enter Try.func10, Try.ntmps10
  go_wp2
  go_ret
  exact ⟨rfl, rfl⟩

theorem b10At_some (b off cap : Nat) (l : List Int) (k : Nat) (n : Int) (w : World) (hn : 1 < n) (hk : k < l.length)
    (hc : w.cell? ⟨b, off + k, none⟩ = some (.int .u8 (l.getD k 0))) (h0 : 0 ≤ l.getD k 0) (h1 : l.getD k 0 < 256) :
    Calls Try.prog 26 #[.slice (some ⟨b, off, none⟩) l.length cap, .int .i64 k, .int .i64 n] w fun e w' => e = .returned (.int .i64 (l.getD k 0 % n)) ∧ w' = w := by
  obtain ⟨z, hz⟩ : ∃ z, l.getD k 0 = z := ⟨_, rfl⟩
  rw [hz] at hc h0 h1 ⊢
  obtain ⟨m, hm⟩ : ∃ m, l.length = m := ⟨_, rfl⟩
  rw [hm] at hk ⊢
  clear hz hm
  have hr : (IntKind.i64.wrap z).tmod n = z % n := by rw [wrap_byte h0 h1, tmod_byte h0]
  have hr' : z.tmod n = z % n := tmod_byte h0
  have H := Lib.hid hr
  have H' := Lib.hid hr'
  clear hr hr'
  go_enter Try.func26, Try.ntmps26
  go_wp2
  go_ret
  refine ⟨?_, rfl⟩
  rfl
theorem b10At_small (v : Value) (k n : Int) (w : World) (hn : n ≤ 1) (hv : ∃ a len cap, v = .slice a len cap) :
    Calls Try.prog 26 #[v, .int .i64 k, .int .i64 n] w fun e w' => e = .returned (.int .i64 0) ∧ w' = w := by
  obtain ⟨a, len, cap, rfl⟩ := hv
  go_enter Try.func26, Try.ntmps26
  go_wp2
  go_ret
  exact ⟨rfl, rfl⟩
theorem b10At_out (a : Option Addr) (m cap k : Nat) (n : Int) (w : World) (hn : 1 < n) (hk : m ≤ k) (hbig : k ≤ 1000) :
    Calls Try.prog 26 #[.slice a m cap, .int .i64 k, .int .i64 n] w fun e w' => e = .returned (.int .i64 (((k : Int) * 37 + 11) % n)) ∧ w' = w := by
  have h1 : IntKind.i64.wrap ((k : Int) * 37) = (k : Int) * 37 := Go.IntWalk.i64_in _ (by omega)
  have h2 : IntKind.i64.wrap ((k : Int) * 37 + 11) = (k : Int) * 37 + 11 := Go.IntWalk.i64_in _ (by omega)
  have hr' : ((k : Int) * 37 + 11).tmod n = ((k : Int) * 37 + 11) % n := tmod_byte (by omega)
  have H1 := Lib.hid h1
  have H2 := Lib.hid h2
  have H' := Lib.hid hr'
  clear h1 h2 hr'
  go_enter Try.func26, Try.ntmps26
  go_wp2
  go_ret
  refine ⟨?_, rfl⟩
  first
    | rfl
    | rw [H'.out]
    | rw [H1.out, H2.out, H'.out]
    | rw [H2.out, H'.out]

theorem r8Long_run (a c : Option Addr) (la ca lc cc : Nat) (w : World) :
    Calls Try.prog 9 #[.slice a la ca, .slice c lc cc] w fun e w' => e = .returned (.bool (decide ((la : Int) > 48) || decide ((lc : Int) > 48))) ∧ w' = w := by
  go_enter Try.func9, Try.ntmps9
  go_wp2
  all_goals (go_ret; refine ⟨?_, rfl⟩; simp_all)
theorem b10Long_run (a c : Option Addr) (la ca lc cc : Nat) (w : World) :
    Calls Try.prog 25 #[.slice a la ca, .slice c lc cc] w fun e w' => e = .returned (.bool (decide ((la : Int) > 1048576) || decide ((lc : Int) > 1048576))) ∧ w' = w := by
  go_enter Try.func25, Try.ntmps25
  go_wp2
  all_goals (go_ret; refine ⟨?_, rfl⟩; simp_all)

theorem calls_gives {P : Program} {f : FuncId} {fn : Func} {c : Code} {args : Array Value} {w : World} {v : Value} {σ : List (Nat × Nat)} {r : AV} (hf : P.funcs[f]? = some fn) (hn : (fn.name == "runtime.NumGoroutine") = false) (hb : fn.body = some c)
    (h : Calls P f args w fun e w' => e = .returned v ∧ w' = w) (hr : Rep σ r v) : Gives P f args w fun v w' => Rep σ r v ∧ Ext w w' :=
  .inr ⟨enter_of hf hn hb, h.mono fun _ _ ⟨he, hw⟩ => ⟨v, he, hr, hw ▸ Ext.refl w⟩⟩

noncomputable def shWA (W : World) (g : List Int → Int → Int → Int) : List AV → Option (Bool × AV)
  | [.c (.val v), .c (.val (.int .i64 k)), .c (.val (.int .i64 n))] => some (decide (0 ≤ k ∧ k ≤ 1000) && good W v, .c (.val (.int .i64 (g (bytesOf W v) k n))))
  | _ => none

theorem byte_args {args : List AV} {W : World} {g : List Int → Int → Int → Int} {r : AV} (h : shWA W g args = some (true, r)) {σ : List (Nat × Nat)} {vs : List Value} (ha : RepF σ args vs) :
    ∃ (v : Value) (k : Nat) (n : Int), vs = [v, .int .i64 k, .int .i64 n] ∧ k ≤ 1000 ∧ BytesAt W v (bytesOf W v) ∧ r = .c (.val (.int .i64 (g (bytesOf W v) k n))) := by
  unfold shWA at h
  split at h
  · rename_i v k n
    simp only [Option.some.injEq, Prod.mk.injEq, Bool.and_eq_true, decide_eq_true_eq] at h
    obtain ⟨⟨⟨h1, h2⟩, hg⟩, rfl⟩ := h
    obtain ⟨k', rfl⟩ := Int.eq_ofNat_of_zero_le h1
    cases ha with
    | cons e1 ha => cases ha with
      | cons e2 ha => cases ha with
        | cons e3 ha =>
          cases ha
          have e1' : _ = v := e1
          have e2' : _ = Value.int .i64 (k' : Int) := e2
          have e3' : _ = Value.int .i64 n := e3
          subst e1' e2' e3'
          exact ⟨_, k', n, rfl, by omega, of_good hg, rfl⟩
  · cases h

theorem wR8At_ok (W : World) : ∀ args r, (shWA W r8v) args = some (true, r) → ∀ σ vs w, Ext W w → RepF σ args vs → Gives Try.prog 10 vs.toArray w fun v w' => Rep σ r v ∧ Ext w w' := by
  intro args r hr σ vs w hw ha
  obtain ⟨v, k, n, rfl, hk, hB, rfl⟩ := byte_args hr ha
  have hB' := hB.ext hw
  generalize bytesOf W v = l at hB hB' hr ⊢
  refine calls_gives (v := .int .i64 (r8v l k n)) Try.func10 (by kernel_rfl) (c := Try.f10.body.getD .skip) (by kernel_rfl) ?_ rfl
  unfold r8v
  by_cases h1 : n ≤ 1
  · rw [if_pos h1]
    refine r8At_small v k n w h1 ?_
    rcases hB with ⟨a, cap, rfl, _⟩ | ⟨b, off, cap, rfl, _⟩ <;> exact ⟨_, _, _, rfl⟩
  · rw [if_neg h1]
    by_cases h2 : (l.length : Int) ≤ k
    · rw [if_pos h2]
      rcases hB with ⟨a, cap, rfl, rfl⟩ | ⟨b, off, cap, rfl, _⟩
      · exact r8At_out a 0 cap k n w (by omega) (Nat.zero_le _)
      · exact r8At_out _ _ _ k n w (by omega) (by omega)
    · rw [if_neg h2, Int.toNat_natCast]
      rcases hB' with ⟨a, cap, rfl, rfl⟩ | ⟨b, off, cap, rfl, hl, hc⟩
      · exact absurd (Int.natCast_nonneg k) h2
      · have hk' : k < l.length := by omega
        exact r8At_some b off cap l k n w (by omega) hk' (hc k hk').1 (hc k hk').2.1 (hc k hk').2.2
noncomputable def wR8At (W : World) : EntryW Try.prog (Ext W) := { f := 10, fn := shWA W r8v, ok := wR8At_ok W }
theorem wB10At_ok (W : World) : ∀ args r, (shWA W b10v) args = some (true, r) → ∀ σ vs w, Ext W w → RepF σ args vs → Gives Try.prog 26 vs.toArray w fun v w' => Rep σ r v ∧ Ext w w' := by
  intro args r hr σ vs w hw ha
  obtain ⟨v, k, n, rfl, hk, hB, rfl⟩ := byte_args hr ha
  have hB' := hB.ext hw
  generalize bytesOf W v = l at hB hB' hr ⊢
  refine calls_gives (v := .int .i64 (b10v l k n)) Try.func26 (by kernel_rfl) (c := Try.f26.body.getD .skip) (by kernel_rfl) ?_ rfl
  unfold b10v
  by_cases h1 : n ≤ 1
  · rw [if_pos h1]
    refine b10At_small v k n w h1 ?_
    rcases hB with ⟨a, cap, rfl, _⟩ | ⟨b, off, cap, rfl, _⟩ <;> exact ⟨_, _, _, rfl⟩
  · rw [if_neg h1]
    by_cases h2 : (k : Int) < (l.length : Int)
    · rw [if_pos h2, Int.toNat_natCast]
      rcases hB' with ⟨a, cap, rfl, rfl⟩ | ⟨b, off, cap, rfl, hl, hc⟩
      · exact absurd h2 (Int.not_lt.2 (Int.natCast_nonneg k))
      · have hk' : k < l.length := by omega
        exact b10At_some b off cap l k n w (by omega) hk' (hc k hk').1 (hc k hk').2.1 (hc k hk').2.2
    · rw [if_neg h2]
      rcases hB with ⟨a, cap, rfl, rfl⟩ | ⟨b, off, cap, rfl, _⟩
      · exact b10At_out a 0 cap k n w (by omega) (Nat.zero_le _) hk
      · exact b10At_out _ _ _ k n w (by omega) (by omega) hk
noncomputable def wB10At (W : World) : EntryW Try.prog (Ext W) := { f := 26, fn := shWA W b10v, ok := wB10At_ok W }

/-- Whether the input is too long. -/
def longV (m : Int) (l l' : List Int) : Bool := decide ((l.length : Int) > m) || decide ((l'.length : Int) > m)
noncomputable def shWL (W : World) (m : Int) : List AV → Option (Bool × AV)
  | [.c (.val v), .c (.val u)] => some (good W v && good W u, .c (.sb (longV m (bytesOf W v) (bytesOf W u))))
  | _ => none
theorem long_args {args : List AV} {W : World} {m : Int} {r : AV} (h : shWL W m args = some (true, r)) {σ : List (Nat × Nat)} {vs : List Value} (ha : RepF σ args vs) :
    ∃ (a : Option Addr) (ca : Nat) (l : List Int) (b : Option Addr) (cb : Nat) (l' : List Int), vs = [.slice a l.length ca, .slice b l'.length cb] ∧ r = .c (.sb (longV m l l')) := by
  have sl : ∀ {v l}, BytesAt W v l → ∃ a c, v = .slice a l.length c := by
    intro v l h
    rcases h with ⟨a, cap, rfl, rfl⟩ | ⟨b, off, cap, rfl, _⟩
    · exact ⟨a, cap, rfl⟩
    · exact ⟨_, _, rfl⟩
  unfold shWL at h
  split at h
  · rename_i v u
    simp only [Option.some.injEq, Prod.mk.injEq, Bool.and_eq_true] at h
    obtain ⟨⟨h1, h2⟩, rfl⟩ := h
    cases ha with
    | cons e1 ha => cases ha with
      | cons e2 ha =>
        cases ha
        have e1' : _ = v := e1
        have e2' : _ = u := e2
        subst e1' e2'
        obtain ⟨a, ca, hv⟩ := sl (of_good h1)
        obtain ⟨b, cb, hu⟩ := sl (of_good h2)
        exact ⟨a, ca, _, b, cb, _, by rw [← hv, ← hu], rfl⟩
  · cases h
theorem wR8Long_ok (W : World) : ∀ args r, (shWL W 48) args = some (true, r) → ∀ σ vs w, Ext W w → RepF σ args vs → Gives Try.prog 9 vs.toArray w fun v w' => Rep σ r v ∧ Ext w w' := by
  intro args r hr σ vs w hw ha
  obtain ⟨a, ca, l, b, cb, l', rfl, rfl⟩ := long_args hr ha
  exact calls_gives Try.func9 (by kernel_rfl) (c := Try.f9.body.getD .skip) (by kernel_rfl) (r8Long_run a b l.length ca l'.length cb w) rfl
noncomputable def wR8Long (W : World) : EntryW Try.prog (Ext W) := { f := 9, fn := shWL W 48, ok := wR8Long_ok W }
theorem wB10Long_ok (W : World) : ∀ args r, (shWL W 1048576) args = some (true, r) → ∀ σ vs w, Ext W w → RepF σ args vs → Gives Try.prog 25 vs.toArray w fun v w' => Rep σ r v ∧ Ext w w' := by
  intro args r hr σ vs w hw ha
  obtain ⟨a, ca, l, b, cb, l', rfl, rfl⟩ := long_args hr ha
  exact calls_gives Try.func25 (by kernel_rfl) (c := Try.f25.body.getD .skip) (by kernel_rfl) (b10Long_run a b l.length ca l'.length cb w) rfl
noncomputable def wB10Long (W : World) : EntryW Try.prog (Ext W) := { f := 25, fn := shWL W 1048576, ok := wB10Long_ok W }
theorem ext_mono (W : World) : ∀ w w', Ext W w → Ext w w' → Ext W w' := fun _ _ h h' => h.trans h'
end Go.Proofs.Ytlpahmefebgdlaa.Fx
