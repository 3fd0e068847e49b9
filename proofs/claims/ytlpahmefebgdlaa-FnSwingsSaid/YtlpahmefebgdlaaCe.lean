/- Contracts: functions over slices of a few numbers. No condition. -/
import Derived.Test.YtlpahmefebgdlaaCd
namespace Go.Proofs.Ytlpahmefebgdlaa.Fx
open Go Go.RowKit

/-- An entry's proof, for one slice and arguments without pointers. -/
theorem gives_slc {P : Program} {E : List (Entry P)} {f : FuncId} {fn : Func} (hf : P.funcs[f]? = some fn) (hn : (fn.name == "runtime.NumGoroutine") = false) {cs : List AC} {n : Nat} {rest : List AV} {r : AV}
    (h : run P E fn (.c (.slc 0 n) :: rest) [cs] = some r) (hp : rest.all plainA = true) (hc : cs.all plainC = true) {σ : List (Nat × Nat)} {M : List (List AC)} {id : Nat} {vs : List Value} {w : World}
    (hM : MemOk σ M w) (hid : M[id]? = some cs) (ha : RepF σ (.c (.slc id n) :: rest) vs) : Gives P f vs.toArray w fun v w' => Rep σ r v ∧ Ext w w' := by
  have hr := run_plain h
  cases ha with
  | cons h1 h2 =>
    obtain ⟨b, hb, hle, hv⟩ := h1
    have hM' : MemOk [b] [cs] w := ⟨rfl, by simp, fun i b' cs' hb' hc' => by
      cases i with
      | zero =>
        cases hb'; cases hc'
        obtain ⟨vs, e, hw, ⟨k, hl⟩, hs⟩ := hM.at_ id b cs hb hid
        exact ⟨vs, e, hw, ⟨k, plainL_rep (by simp [hc]; right; rfl) hl⟩, hs⟩
      | succ i => cases hb'⟩
    have ha' : RepF [b] (.c (.slc 0 n) :: rest) _ := .cons ⟨b, rfl, hle, hv⟩ (plainF hp h2)
    rcases gives_of_run hf hn h hM' ha' with ⟨v, w', h3, h4, h5⟩ | ⟨h3, h4⟩
    · exact .inl ⟨v, w', h3, plain_rep hr h4, h5⟩
    · exact .inr ⟨h3, h4.mono fun e w' ⟨v, he, hv, hw⟩ => ⟨v, he, plain_rep hr hv, hw⟩⟩

theorem push_int (c : Bool) (a b : Int) : some (AV.c (.val (.int .i64 (bif c then a else b)))) = bif c then some (.c (.val (.int .i64 a))) else some (.c (.val (.int .i64 b))) := by cases c <;> rfl
def eShut : Entry Try.prog := { f := 118, fn := shS fun x => rB (!(isFinite x)), ok := okS (E := [eIsFinite]) Try.func118 (by kernel_rfl) fun x _ => by kernel_rfl }
def theShut : AV := .c (.val (.func (.func 118) #[] #[]))

-- 2 numbers
def shL2 (g : F32 → F32 → Bool × AV) : List AV → List (List AC) → Option (Bool × AV)
  | [.c (.slc id 2)], M => match M[id]? with
    | some [.fl .f32 x0, .fl .f32 x1] => some (g x0 x1)
    | _ => none
  | _, _ => none
theorem okL2 {P : Program} {E : List (Entry P)} {f : FuncId} {fn : Func} {g : F32 → F32 → Bool × AV} (hf : P.funcs[f]? = some fn) (hn : (fn.name == "runtime.NumGoroutine") = false)
    (h : ∀ (x0 x1 : F32), (g x0 x1).1 = true → run P E fn [.c (.slc 0 2)] [[.fl .f32 x0, .fl .f32 x1]] = some (g x0 x1).2) : EOk P f (shL2 g) := by
  intro args M r hr σ vs w hM ha
  unfold shL2 at hr
  split at hr
  · split at hr
    · rename_i id M x0 x1 hid
      have hr' := Option.some.inj hr
      have h1 := h x0 x1 (by rw [hr'])
      rw [hr'] at h1
      exact gives_slc hf hn h1 rfl rfl hM hid ha
    · cases hr
  · cases hr
def shLF2 (g : F32 → F32 → Bool × AV) : List AV → List (List AC) → Option (Bool × AV)
  | [.c (.slc id 2), .c (.val (.func (.func 118) ⟨[]⟩ ⟨[]⟩))], M => match M[id]? with
    | some [.fl .f32 x0, .fl .f32 x1] => some (g x0 x1)
    | _ => none
  | _, _ => none
theorem okLF2 {P : Program} {E : List (Entry P)} {f : FuncId} {fn : Func} {g : F32 → F32 → Bool × AV} (hf : P.funcs[f]? = some fn) (hn : (fn.name == "runtime.NumGoroutine") = false)
    (h : ∀ (x0 x1 : F32), (g x0 x1).1 = true → run P E fn [.c (.slc 0 2), theShut] [[.fl .f32 x0, .fl .f32 x1]] = some (g x0 x1).2) : EOk P f (shLF2 g) := by
  intro args M r hr σ vs w hM ha
  unfold shLF2 at hr
  split at hr
  · split at hr
    · rename_i id M x0 x1 hid
      have hr' := Option.some.inj hr
      have h1 := h x0 x1 (by rw [hr'])
      rw [hr'] at h1
      exact gives_slc hf hn h1 rfl rfl hM hid ha
    · cases hr
  · cases hr
def idx2 (x0 x1 : F32) : Int := (bif !(isFinite x0) then 0 else bif !(isFinite x1) then 1 else -1)
def eIndex2 : Entry Try.prog := { f := 139, fn := shLF2 fun x0 x1 => (true, .c (.val (.int .i64 (idx2 x0 x1)))), ok := okLF2 (E := [eShut]) Try.func139 (by kernel_rfl) fun x0 x1 _ => by show _ = some (AV.c (.val (.int .i64 (idx2 x0 x1)))); unfold idx2; simp only [push_int]; kernel_rfl }
def eContains2 : Entry Try.prog := { f := 117, fn := shLF2 fun x0 x1 => rB (decide (idx2 x0 x1 ≥ 0)), ok := okLF2 (E := [eIndex2]) Try.func117 (by kernel_rfl) fun x0 x1 _ => by kernel_rfl }
def eAreFinite2 : Entry Try.prog := { f := 73, fn := shL2 fun x0 x1 => rB (!decide (idx2 x0 x1 ≥ 0)), ok := okL2 (E := [eContains2]) Try.func73 (by kernel_rfl) fun x0 x1 _ => by kernel_rfl }
theorem idx2_eq (x0 x1 : F32) : (!decide (idx2 x0 x1 ≥ 0)) = (finS x0 && finS x1) := by
  unfold idx2
  simp only [fin_eq]
  cases finS x0 <;> cases finS x1 <;> rfl
theorem eAreLengths2_run (x0 x1 : F32) : run Try.prog [eALength] Try.f75 [.c (.slc 0 2)] [[.fl .f32 x0, .fl .f32 x1]] = some (.c (.sb (aLength x0 && aLength x1))) := by
  have h : run Try.prog [eALength] Try.f75 [.c (.slc 0 2)] [[.fl .f32 x0, .fl .f32 x1]] = bif !(aLength x0) then some (.c (.sb false)) else bif !(aLength x1) then some (.c (.sb false)) else some (.c (.sb true)) := by kernel_rfl
  rw [h]
  cases aLength x0 <;> cases aLength x1 <;> rfl
def eAreLengths2 : Entry Try.prog := { f := 75, fn := shL2 fun x0 x1 => rB (aLength x0 && aLength x1), ok := okL2 (E := [eALength]) Try.func75 (by kernel_rfl) fun x0 x1 _ => eAreLengths2_run x0 x1 }
-- 3 numbers
def shL3 (g : F32 → F32 → F32 → Bool × AV) : List AV → List (List AC) → Option (Bool × AV)
  | [.c (.slc id 3)], M => match M[id]? with
    | some [.fl .f32 x0, .fl .f32 x1, .fl .f32 x2] => some (g x0 x1 x2)
    | _ => none
  | _, _ => none
theorem okL3 {P : Program} {E : List (Entry P)} {f : FuncId} {fn : Func} {g : F32 → F32 → F32 → Bool × AV} (hf : P.funcs[f]? = some fn) (hn : (fn.name == "runtime.NumGoroutine") = false)
    (h : ∀ (x0 x1 x2 : F32), (g x0 x1 x2).1 = true → run P E fn [.c (.slc 0 3)] [[.fl .f32 x0, .fl .f32 x1, .fl .f32 x2]] = some (g x0 x1 x2).2) : EOk P f (shL3 g) := by
  intro args M r hr σ vs w hM ha
  unfold shL3 at hr
  split at hr
  · split at hr
    · rename_i id M x0 x1 x2 hid
      have hr' := Option.some.inj hr
      have h1 := h x0 x1 x2 (by rw [hr'])
      rw [hr'] at h1
      exact gives_slc hf hn h1 rfl rfl hM hid ha
    · cases hr
  · cases hr
def shLF3 (g : F32 → F32 → F32 → Bool × AV) : List AV → List (List AC) → Option (Bool × AV)
  | [.c (.slc id 3), .c (.val (.func (.func 118) ⟨[]⟩ ⟨[]⟩))], M => match M[id]? with
    | some [.fl .f32 x0, .fl .f32 x1, .fl .f32 x2] => some (g x0 x1 x2)
    | _ => none
  | _, _ => none
theorem okLF3 {P : Program} {E : List (Entry P)} {f : FuncId} {fn : Func} {g : F32 → F32 → F32 → Bool × AV} (hf : P.funcs[f]? = some fn) (hn : (fn.name == "runtime.NumGoroutine") = false)
    (h : ∀ (x0 x1 x2 : F32), (g x0 x1 x2).1 = true → run P E fn [.c (.slc 0 3), theShut] [[.fl .f32 x0, .fl .f32 x1, .fl .f32 x2]] = some (g x0 x1 x2).2) : EOk P f (shLF3 g) := by
  intro args M r hr σ vs w hM ha
  unfold shLF3 at hr
  split at hr
  · split at hr
    · rename_i id M x0 x1 x2 hid
      have hr' := Option.some.inj hr
      have h1 := h x0 x1 x2 (by rw [hr'])
      rw [hr'] at h1
      exact gives_slc hf hn h1 rfl rfl hM hid ha
    · cases hr
  · cases hr
def idx3 (x0 x1 x2 : F32) : Int := (bif !(isFinite x0) then 0 else bif !(isFinite x1) then 1 else bif !(isFinite x2) then 2 else -1)
def eIndex3 : Entry Try.prog := { f := 139, fn := shLF3 fun x0 x1 x2 => (true, .c (.val (.int .i64 (idx3 x0 x1 x2)))), ok := okLF3 (E := [eShut]) Try.func139 (by kernel_rfl) fun x0 x1 x2 _ => by show _ = some (AV.c (.val (.int .i64 (idx3 x0 x1 x2)))); unfold idx3; simp only [push_int]; kernel_rfl }
def eContains3 : Entry Try.prog := { f := 117, fn := shLF3 fun x0 x1 x2 => rB (decide (idx3 x0 x1 x2 ≥ 0)), ok := okLF3 (E := [eIndex3]) Try.func117 (by kernel_rfl) fun x0 x1 x2 _ => by kernel_rfl }
def eAreFinite3 : Entry Try.prog := { f := 73, fn := shL3 fun x0 x1 x2 => rB (!decide (idx3 x0 x1 x2 ≥ 0)), ok := okL3 (E := [eContains3]) Try.func73 (by kernel_rfl) fun x0 x1 x2 _ => by kernel_rfl }
theorem idx3_eq (x0 x1 x2 : F32) : (!decide (idx3 x0 x1 x2 ≥ 0)) = (finS x0 && finS x1 && finS x2) := by
  unfold idx3
  simp only [fin_eq]
  cases finS x0 <;> cases finS x1 <;> cases finS x2 <;> rfl
theorem eAreLengths3_run (x0 x1 x2 : F32) : run Try.prog [eALength] Try.f75 [.c (.slc 0 3)] [[.fl .f32 x0, .fl .f32 x1, .fl .f32 x2]] = some (.c (.sb (aLength x0 && aLength x1 && aLength x2))) := by
  have h : run Try.prog [eALength] Try.f75 [.c (.slc 0 3)] [[.fl .f32 x0, .fl .f32 x1, .fl .f32 x2]] = bif !(aLength x0) then some (.c (.sb false)) else bif !(aLength x1) then some (.c (.sb false)) else bif !(aLength x2) then some (.c (.sb false)) else some (.c (.sb true)) := by kernel_rfl
  rw [h]
  cases aLength x0 <;> cases aLength x1 <;> cases aLength x2 <;> rfl
def eAreLengths3 : Entry Try.prog := { f := 75, fn := shL3 fun x0 x1 x2 => rB (aLength x0 && aLength x1 && aLength x2), ok := okL3 (E := [eALength]) Try.func75 (by kernel_rfl) fun x0 x1 x2 _ => eAreLengths3_run x0 x1 x2 }
-- 4 numbers
def shL4 (g : F32 → F32 → F32 → F32 → Bool × AV) : List AV → List (List AC) → Option (Bool × AV)
  | [.c (.slc id 4)], M => match M[id]? with
    | some [.fl .f32 x0, .fl .f32 x1, .fl .f32 x2, .fl .f32 x3] => some (g x0 x1 x2 x3)
    | _ => none
  | _, _ => none
theorem okL4 {P : Program} {E : List (Entry P)} {f : FuncId} {fn : Func} {g : F32 → F32 → F32 → F32 → Bool × AV} (hf : P.funcs[f]? = some fn) (hn : (fn.name == "runtime.NumGoroutine") = false)
    (h : ∀ (x0 x1 x2 x3 : F32), (g x0 x1 x2 x3).1 = true → run P E fn [.c (.slc 0 4)] [[.fl .f32 x0, .fl .f32 x1, .fl .f32 x2, .fl .f32 x3]] = some (g x0 x1 x2 x3).2) : EOk P f (shL4 g) := by
  intro args M r hr σ vs w hM ha
  unfold shL4 at hr
  split at hr
  · split at hr
    · rename_i id M x0 x1 x2 x3 hid
      have hr' := Option.some.inj hr
      have h1 := h x0 x1 x2 x3 (by rw [hr'])
      rw [hr'] at h1
      exact gives_slc hf hn h1 rfl rfl hM hid ha
    · cases hr
  · cases hr
def shLF4 (g : F32 → F32 → F32 → F32 → Bool × AV) : List AV → List (List AC) → Option (Bool × AV)
  | [.c (.slc id 4), .c (.val (.func (.func 118) ⟨[]⟩ ⟨[]⟩))], M => match M[id]? with
    | some [.fl .f32 x0, .fl .f32 x1, .fl .f32 x2, .fl .f32 x3] => some (g x0 x1 x2 x3)
    | _ => none
  | _, _ => none
theorem okLF4 {P : Program} {E : List (Entry P)} {f : FuncId} {fn : Func} {g : F32 → F32 → F32 → F32 → Bool × AV} (hf : P.funcs[f]? = some fn) (hn : (fn.name == "runtime.NumGoroutine") = false)
    (h : ∀ (x0 x1 x2 x3 : F32), (g x0 x1 x2 x3).1 = true → run P E fn [.c (.slc 0 4), theShut] [[.fl .f32 x0, .fl .f32 x1, .fl .f32 x2, .fl .f32 x3]] = some (g x0 x1 x2 x3).2) : EOk P f (shLF4 g) := by
  intro args M r hr σ vs w hM ha
  unfold shLF4 at hr
  split at hr
  · split at hr
    · rename_i id M x0 x1 x2 x3 hid
      have hr' := Option.some.inj hr
      have h1 := h x0 x1 x2 x3 (by rw [hr'])
      rw [hr'] at h1
      exact gives_slc hf hn h1 rfl rfl hM hid ha
    · cases hr
  · cases hr
def idx4 (x0 x1 x2 x3 : F32) : Int := (bif !(isFinite x0) then 0 else bif !(isFinite x1) then 1 else bif !(isFinite x2) then 2 else bif !(isFinite x3) then 3 else -1)
def eIndex4 : Entry Try.prog := { f := 139, fn := shLF4 fun x0 x1 x2 x3 => (true, .c (.val (.int .i64 (idx4 x0 x1 x2 x3)))), ok := okLF4 (E := [eShut]) Try.func139 (by kernel_rfl) fun x0 x1 x2 x3 _ => by show _ = some (AV.c (.val (.int .i64 (idx4 x0 x1 x2 x3)))); unfold idx4; simp only [push_int]; kernel_rfl }
def eContains4 : Entry Try.prog := { f := 117, fn := shLF4 fun x0 x1 x2 x3 => rB (decide (idx4 x0 x1 x2 x3 ≥ 0)), ok := okLF4 (E := [eIndex4]) Try.func117 (by kernel_rfl) fun x0 x1 x2 x3 _ => by kernel_rfl }
def eAreFinite4 : Entry Try.prog := { f := 73, fn := shL4 fun x0 x1 x2 x3 => rB (!decide (idx4 x0 x1 x2 x3 ≥ 0)), ok := okL4 (E := [eContains4]) Try.func73 (by kernel_rfl) fun x0 x1 x2 x3 _ => by kernel_rfl }
theorem idx4_eq (x0 x1 x2 x3 : F32) : (!decide (idx4 x0 x1 x2 x3 ≥ 0)) = (finS x0 && finS x1 && finS x2 && finS x3) := by
  unfold idx4
  simp only [fin_eq]
  cases finS x0 <;> cases finS x1 <;> cases finS x2 <;> cases finS x3 <;> rfl
theorem eAreLengths4_run (x0 x1 x2 x3 : F32) : run Try.prog [eALength] Try.f75 [.c (.slc 0 4)] [[.fl .f32 x0, .fl .f32 x1, .fl .f32 x2, .fl .f32 x3]] = some (.c (.sb (aLength x0 && aLength x1 && aLength x2 && aLength x3))) := by
  have h : run Try.prog [eALength] Try.f75 [.c (.slc 0 4)] [[.fl .f32 x0, .fl .f32 x1, .fl .f32 x2, .fl .f32 x3]] = bif !(aLength x0) then some (.c (.sb false)) else bif !(aLength x1) then some (.c (.sb false)) else bif !(aLength x2) then some (.c (.sb false)) else bif !(aLength x3) then some (.c (.sb false)) else some (.c (.sb true)) := by kernel_rfl
  rw [h]
  cases aLength x0 <;> cases aLength x1 <;> cases aLength x2 <;> cases aLength x3 <;> rfl
def eAreLengths4 : Entry Try.prog := { f := 75, fn := shL4 fun x0 x1 x2 x3 => rB (aLength x0 && aLength x1 && aLength x2 && aLength x3), ok := okL4 (E := [eALength]) Try.func75 (by kernel_rfl) fun x0 x1 x2 x3 _ => eAreLengths4_run x0 x1 x2 x3 }
-- 6 numbers
def shL6 (g : F32 → F32 → F32 → F32 → F32 → F32 → Bool × AV) : List AV → List (List AC) → Option (Bool × AV)
  | [.c (.slc id 6)], M => match M[id]? with
    | some [.fl .f32 x0, .fl .f32 x1, .fl .f32 x2, .fl .f32 x3, .fl .f32 x4, .fl .f32 x5] => some (g x0 x1 x2 x3 x4 x5)
    | _ => none
  | _, _ => none
theorem okL6 {P : Program} {E : List (Entry P)} {f : FuncId} {fn : Func} {g : F32 → F32 → F32 → F32 → F32 → F32 → Bool × AV} (hf : P.funcs[f]? = some fn) (hn : (fn.name == "runtime.NumGoroutine") = false)
    (h : ∀ (x0 x1 x2 x3 x4 x5 : F32), (g x0 x1 x2 x3 x4 x5).1 = true → run P E fn [.c (.slc 0 6)] [[.fl .f32 x0, .fl .f32 x1, .fl .f32 x2, .fl .f32 x3, .fl .f32 x4, .fl .f32 x5]] = some (g x0 x1 x2 x3 x4 x5).2) : EOk P f (shL6 g) := by
  intro args M r hr σ vs w hM ha
  unfold shL6 at hr
  split at hr
  · split at hr
    · rename_i id M x0 x1 x2 x3 x4 x5 hid
      have hr' := Option.some.inj hr
      have h1 := h x0 x1 x2 x3 x4 x5 (by rw [hr'])
      rw [hr'] at h1
      exact gives_slc hf hn h1 rfl rfl hM hid ha
    · cases hr
  · cases hr
def shLF6 (g : F32 → F32 → F32 → F32 → F32 → F32 → Bool × AV) : List AV → List (List AC) → Option (Bool × AV)
  | [.c (.slc id 6), .c (.val (.func (.func 118) ⟨[]⟩ ⟨[]⟩))], M => match M[id]? with
    | some [.fl .f32 x0, .fl .f32 x1, .fl .f32 x2, .fl .f32 x3, .fl .f32 x4, .fl .f32 x5] => some (g x0 x1 x2 x3 x4 x5)
    | _ => none
  | _, _ => none
theorem okLF6 {P : Program} {E : List (Entry P)} {f : FuncId} {fn : Func} {g : F32 → F32 → F32 → F32 → F32 → F32 → Bool × AV} (hf : P.funcs[f]? = some fn) (hn : (fn.name == "runtime.NumGoroutine") = false)
    (h : ∀ (x0 x1 x2 x3 x4 x5 : F32), (g x0 x1 x2 x3 x4 x5).1 = true → run P E fn [.c (.slc 0 6), theShut] [[.fl .f32 x0, .fl .f32 x1, .fl .f32 x2, .fl .f32 x3, .fl .f32 x4, .fl .f32 x5]] = some (g x0 x1 x2 x3 x4 x5).2) : EOk P f (shLF6 g) := by
  intro args M r hr σ vs w hM ha
  unfold shLF6 at hr
  split at hr
  · split at hr
    · rename_i id M x0 x1 x2 x3 x4 x5 hid
      have hr' := Option.some.inj hr
      have h1 := h x0 x1 x2 x3 x4 x5 (by rw [hr'])
      rw [hr'] at h1
      exact gives_slc hf hn h1 rfl rfl hM hid ha
    · cases hr
  · cases hr
def idx6 (x0 x1 x2 x3 x4 x5 : F32) : Int := (bif !(isFinite x0) then 0 else bif !(isFinite x1) then 1 else bif !(isFinite x2) then 2 else bif !(isFinite x3) then 3 else bif !(isFinite x4) then 4 else bif !(isFinite x5) then 5 else -1)
def eIndex6 : Entry Try.prog := { f := 139, fn := shLF6 fun x0 x1 x2 x3 x4 x5 => (true, .c (.val (.int .i64 (idx6 x0 x1 x2 x3 x4 x5)))), ok := okLF6 (E := [eShut]) Try.func139 (by kernel_rfl) fun x0 x1 x2 x3 x4 x5 _ => by show _ = some (AV.c (.val (.int .i64 (idx6 x0 x1 x2 x3 x4 x5)))); unfold idx6; simp only [push_int]; kernel_rfl }
def eContains6 : Entry Try.prog := { f := 117, fn := shLF6 fun x0 x1 x2 x3 x4 x5 => rB (decide (idx6 x0 x1 x2 x3 x4 x5 ≥ 0)), ok := okLF6 (E := [eIndex6]) Try.func117 (by kernel_rfl) fun x0 x1 x2 x3 x4 x5 _ => by kernel_rfl }
def eAreFinite6 : Entry Try.prog := { f := 73, fn := shL6 fun x0 x1 x2 x3 x4 x5 => rB (!decide (idx6 x0 x1 x2 x3 x4 x5 ≥ 0)), ok := okL6 (E := [eContains6]) Try.func73 (by kernel_rfl) fun x0 x1 x2 x3 x4 x5 _ => by kernel_rfl }
theorem idx6_eq (x0 x1 x2 x3 x4 x5 : F32) : (!decide (idx6 x0 x1 x2 x3 x4 x5 ≥ 0)) = (finS x0 && finS x1 && finS x2 && finS x3 && finS x4 && finS x5) := by
  unfold idx6
  simp only [fin_eq]
  cases finS x0 <;> cases finS x1 <;> cases finS x2 <;> cases finS x3 <;> cases finS x4 <;> cases finS x5 <;> rfl
theorem eAreLengths6_run (x0 x1 x2 x3 x4 x5 : F32) : run Try.prog [eALength] Try.f75 [.c (.slc 0 6)] [[.fl .f32 x0, .fl .f32 x1, .fl .f32 x2, .fl .f32 x3, .fl .f32 x4, .fl .f32 x5]] = some (.c (.sb (aLength x0 && aLength x1 && aLength x2 && aLength x3 && aLength x4 && aLength x5))) := by
  have h : run Try.prog [eALength] Try.f75 [.c (.slc 0 6)] [[.fl .f32 x0, .fl .f32 x1, .fl .f32 x2, .fl .f32 x3, .fl .f32 x4, .fl .f32 x5]] = bif !(aLength x0) then some (.c (.sb false)) else bif !(aLength x1) then some (.c (.sb false)) else bif !(aLength x2) then some (.c (.sb false)) else bif !(aLength x3) then some (.c (.sb false)) else bif !(aLength x4) then some (.c (.sb false)) else bif !(aLength x5) then some (.c (.sb false)) else some (.c (.sb true)) := by kernel_rfl
  rw [h]
  cases aLength x0 <;> cases aLength x1 <;> cases aLength x2 <;> cases aLength x3 <;> cases aLength x4 <;> cases aLength x5 <;> rfl
def eAreLengths6 : Entry Try.prog := { f := 75, fn := shL6 fun x0 x1 x2 x3 x4 x5 => rB (aLength x0 && aLength x1 && aLength x2 && aLength x3 && aLength x4 && aLength x5), ok := okL6 (E := [eALength]) Try.func75 (by kernel_rfl) fun x0 x1 x2 x3 x4 x5 _ => eAreLengths6_run x0 x1 x2 x3 x4 x5 }
theorem long_eq (x : F32) : aLength x = aboveS x := by unfold aLength aboveS; rw [fin_eq]
theorem mass_eq (x : F32) : aMass x = leastS x := by unfold aMass leastS; rw [fin_eq]

end Go.Proofs.Ytlpahmefebgdlaa.Fx
