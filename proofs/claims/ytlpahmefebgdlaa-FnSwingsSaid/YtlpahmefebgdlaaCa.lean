/- Contracts of the functions of the program and of package math that compute with floats: numbers. No condition. -/
import Derived.Test.YtlpahmefebgdlaaEz
import Derived.Test.YtlpahmefebgdlaaProg
import Derived.KernelRfl
namespace Go.Proofs.Ytlpahmefebgdlaa.Fx
open Go Go.RowKit

theorem gives_extern {P : Program} {f : FuncId} {fn : Func} {e : Array Value → Sem Value} (hf : P.funcs[f]? = some fn) (hname : (fn.name == "runtime.NumGoroutine") = false)
    (hb : fn.body.isNone = true) (hn : Extern.findNext fn = none) (he : Extern.find fn = some e) {args : Array Value} {w : World} {R : Value → World → Prop}
    (h : ∃ v w', (e args).run P w = .ok v w' ∧ R v w') : Gives P f args w R := by
  obtain ⟨v, w', hr, hv⟩ := h
  exact .inl ⟨v, w', by rw [run_callFunc_extern hf hname hb hn he, hr]; rfl, hv⟩

theorem plainF {σ τ : List (Nat × Nat)} {F : List AV} {vs : List Value} (hp : F.all plainA = true) (h : RepF σ F vs) : RepF τ F vs := by
  induction h with
  | nil => exact .nil
  | cons h _ ih =>
    simp only [List.all_cons, Bool.and_eq_true] at hp
    exact .cons (plain_rep hp.1 h) (ih hp.2)

theorem run_plain {P : Program} {E : List (Entry P)} {fn : Func} {args : List AV} {M : List (List AC)} {r : AV} (h : run P E fn args M = some r) : plainA r = true := by
  unfold run at h
  split at h
  · cases h
  · obtain ⟨o, F', M', hK, _⟩ := (exC_sound ⟨default, []⟩ 4000).1 _ _ _ _ _ h
    have fin : (match resultA P fn F' M' with | some v => cond (plainA v) (some v) none | none => none) = some r → plainA r = true := by
      intro hK
      cases hr : resultA P fn F' M' with
      | none => simp [hr] at hK
      | some v =>
        simp only [hr] at hK
        cases hp : plainA v with
        | false => simp [hp] at hK
        | true => simp only [hp, cond_true, Option.some.injEq] at hK; subst hK; exact hp
    cases o with
    | norm => exact fin hK
    | ret => exact fin hK
    | exit id => cases hK

/-- An entry's proof, for arguments without pointers. -/
theorem gives0 {P : Program} {E : List (Entry P)} {f : FuncId} {fn : Func} (hf : P.funcs[f]? = some fn) (hn : (fn.name == "runtime.NumGoroutine") = false) {args : List AV} {r : AV} (hp : args.all plainA = true)
    (h : run P E fn args [] = some r) {σ : List (Nat × Nat)} {vs : List Value} {w : World} (ha : RepF σ args vs) : Gives P f vs.toArray w fun v w' => Rep σ r v ∧ Ext w w' := by
  have hr := run_plain h
  rcases gives_of_run hf hn h (MemOk.nil w) (plainF (τ := []) hp ha) with ⟨v, w', h1, h2, h3⟩ | ⟨h1, h2⟩
  · exact .inl ⟨v, w', h1, plain_rep hr h2, h3⟩
  · exact .inr ⟨h1, h2.mono fun e w' ⟨v, he, hv, hw⟩ => ⟨v, he, plain_rep hr hv, hw⟩⟩

/-- An entry is right. -/
def EOk (P : Program) (f : FuncId) (fn : List AV → List (List AC) → Option (Bool × AV)) : Prop :=
  ∀ args M r, fn args M = some (true, r) → ∀ σ vs w, MemOk σ M w → RepF σ args vs → Gives P f vs.toArray w fun v w' => Rep σ r v ∧ Ext w w'

-- the shapes of functions
def shD (g : F64 → Bool × AV) : List AV → List (List AC) → Option (Bool × AV)
  | [.c (.fl .f64 x0)], _ => some (g x0)
  | _, _ => none

theorem okD {P : Program} {E : List (Entry P)} {f : FuncId} {fn : Func} {g : F64 → Bool × AV} (hf : P.funcs[f]? = some fn) (hn : (fn.name == "runtime.NumGoroutine") = false)
    (h : ∀ (x0 : F64), (g x0).1 = true → run P E fn [.c (.fl .f64 x0)] [] = some (g x0).2) :
    EOk P f (shD g) := by
  intro args M r hr σ vs w _ ha
  unfold shD at hr
  split at hr
  · rename_i x0
    have hr' := Option.some.inj hr
    have h1 := h x0 (by rw [hr'])
    rw [hr'] at h1
    exact gives0 hf hn rfl h1 ha
  · cases hr

def shDD (g : F64 → F64 → Bool × AV) : List AV → List (List AC) → Option (Bool × AV)
  | [.c (.fl .f64 x0), .c (.fl .f64 x1)], _ => some (g x0 x1)
  | _, _ => none

theorem okDD {P : Program} {E : List (Entry P)} {f : FuncId} {fn : Func} {g : F64 → F64 → Bool × AV} (hf : P.funcs[f]? = some fn) (hn : (fn.name == "runtime.NumGoroutine") = false)
    (h : ∀ (x0 : F64) (x1 : F64), (g x0 x1).1 = true → run P E fn [.c (.fl .f64 x0), .c (.fl .f64 x1)] [] = some (g x0 x1).2) :
    EOk P f (shDD g) := by
  intro args M r hr σ vs w _ ha
  unfold shDD at hr
  split at hr
  · rename_i x0 x1
    have hr' := Option.some.inj hr
    have h1 := h x0 x1 (by rw [hr'])
    rw [hr'] at h1
    exact gives0 hf hn rfl h1 ha
  · cases hr

def shDDD (g : F64 → F64 → F64 → Bool × AV) : List AV → List (List AC) → Option (Bool × AV)
  | [.c (.fl .f64 x0), .c (.fl .f64 x1), .c (.fl .f64 x2)], _ => some (g x0 x1 x2)
  | _, _ => none

theorem okDDD {P : Program} {E : List (Entry P)} {f : FuncId} {fn : Func} {g : F64 → F64 → F64 → Bool × AV} (hf : P.funcs[f]? = some fn) (hn : (fn.name == "runtime.NumGoroutine") = false)
    (h : ∀ (x0 : F64) (x1 : F64) (x2 : F64), (g x0 x1 x2).1 = true → run P E fn [.c (.fl .f64 x0), .c (.fl .f64 x1), .c (.fl .f64 x2)] [] = some (g x0 x1 x2).2) :
    EOk P f (shDDD g) := by
  intro args M r hr σ vs w _ ha
  unfold shDDD at hr
  split at hr
  · rename_i x0 x1 x2
    have hr' := Option.some.inj hr
    have h1 := h x0 x1 x2 (by rw [hr'])
    rw [hr'] at h1
    exact gives0 hf hn rfl h1 ha
  · cases hr

def shS (g : F32 → Bool × AV) : List AV → List (List AC) → Option (Bool × AV)
  | [.c (.fl .f32 x0)], _ => some (g x0)
  | _, _ => none

theorem okS {P : Program} {E : List (Entry P)} {f : FuncId} {fn : Func} {g : F32 → Bool × AV} (hf : P.funcs[f]? = some fn) (hn : (fn.name == "runtime.NumGoroutine") = false)
    (h : ∀ (x0 : F32), (g x0).1 = true → run P E fn [.c (.fl .f32 x0)] [] = some (g x0).2) :
    EOk P f (shS g) := by
  intro args M r hr σ vs w _ ha
  unfold shS at hr
  split at hr
  · rename_i x0
    have hr' := Option.some.inj hr
    have h1 := h x0 (by rw [hr'])
    rw [hr'] at h1
    exact gives0 hf hn rfl h1 ha
  · cases hr

def shSS (g : F32 → F32 → Bool × AV) : List AV → List (List AC) → Option (Bool × AV)
  | [.c (.fl .f32 x0), .c (.fl .f32 x1)], _ => some (g x0 x1)
  | _, _ => none

theorem okSS {P : Program} {E : List (Entry P)} {f : FuncId} {fn : Func} {g : F32 → F32 → Bool × AV} (hf : P.funcs[f]? = some fn) (hn : (fn.name == "runtime.NumGoroutine") = false)
    (h : ∀ (x0 : F32) (x1 : F32), (g x0 x1).1 = true → run P E fn [.c (.fl .f32 x0), .c (.fl .f32 x1)] [] = some (g x0 x1).2) :
    EOk P f (shSS g) := by
  intro args M r hr σ vs w _ ha
  unfold shSS at hr
  split at hr
  · rename_i x0 x1
    have hr' := Option.some.inj hr
    have h1 := h x0 x1 (by rw [hr'])
    rw [hr'] at h1
    exact gives0 hf hn rfl h1 ha
  · cases hr

def shSSS (g : F32 → F32 → F32 → Bool × AV) : List AV → List (List AC) → Option (Bool × AV)
  | [.c (.fl .f32 x0), .c (.fl .f32 x1), .c (.fl .f32 x2)], _ => some (g x0 x1 x2)
  | _, _ => none

theorem okSSS {P : Program} {E : List (Entry P)} {f : FuncId} {fn : Func} {g : F32 → F32 → F32 → Bool × AV} (hf : P.funcs[f]? = some fn) (hn : (fn.name == "runtime.NumGoroutine") = false)
    (h : ∀ (x0 : F32) (x1 : F32) (x2 : F32), (g x0 x1 x2).1 = true → run P E fn [.c (.fl .f32 x0), .c (.fl .f32 x1), .c (.fl .f32 x2)] [] = some (g x0 x1 x2).2) :
    EOk P f (shSSS g) := by
  intro args M r hr σ vs w _ ha
  unfold shSSS at hr
  split at hr
  · rename_i x0 x1 x2
    have hr' := Option.some.inj hr
    have h1 := h x0 x1 x2 (by rw [hr'])
    rw [hr'] at h1
    exact gives0 hf hn rfl h1 ha
  · cases hr

def shSSSS (g : F32 → F32 → F32 → F32 → Bool × AV) : List AV → List (List AC) → Option (Bool × AV)
  | [.c (.fl .f32 x0), .c (.fl .f32 x1), .c (.fl .f32 x2), .c (.fl .f32 x3)], _ => some (g x0 x1 x2 x3)
  | _, _ => none

theorem okSSSS {P : Program} {E : List (Entry P)} {f : FuncId} {fn : Func} {g : F32 → F32 → F32 → F32 → Bool × AV} (hf : P.funcs[f]? = some fn) (hn : (fn.name == "runtime.NumGoroutine") = false)
    (h : ∀ (x0 : F32) (x1 : F32) (x2 : F32) (x3 : F32), (g x0 x1 x2 x3).1 = true → run P E fn [.c (.fl .f32 x0), .c (.fl .f32 x1), .c (.fl .f32 x2), .c (.fl .f32 x3)] [] = some (g x0 x1 x2 x3).2) :
    EOk P f (shSSSS g) := by
  intro args M r hr σ vs w _ ha
  unfold shSSSS at hr
  split at hr
  · rename_i x0 x1 x2 x3
    have hr' := Option.some.inj hr
    have h1 := h x0 x1 x2 x3 (by rw [hr'])
    rw [hr'] at h1
    exact gives0 hf hn rfl h1 ha
  · cases hr

def shC (g : F32 → F32 → Bool × AV) : List AV → List (List AC) → Option (Bool × AV)
  | [.c (.cx .f32 x0 x1)], _ => some (g x0 x1)
  | _, _ => none

theorem okC {P : Program} {E : List (Entry P)} {f : FuncId} {fn : Func} {g : F32 → F32 → Bool × AV} (hf : P.funcs[f]? = some fn) (hn : (fn.name == "runtime.NumGoroutine") = false)
    (h : ∀ (x0 : F32) (x1 : F32), (g x0 x1).1 = true → run P E fn [.c (.cx .f32 x0 x1)] [] = some (g x0 x1).2) :
    EOk P f (shC g) := by
  intro args M r hr σ vs w _ ha
  unfold shC at hr
  split at hr
  · rename_i x0 x1
    have hr' := Option.some.inj hr
    have h1 := h x0 x1 (by rw [hr'])
    rw [hr'] at h1
    exact gives0 hf hn rfl h1 ha
  · cases hr

def shCC (g : F32 → F32 → F32 → F32 → Bool × AV) : List AV → List (List AC) → Option (Bool × AV)
  | [.c (.cx .f32 x0 x1), .c (.cx .f32 x2 x3)], _ => some (g x0 x1 x2 x3)
  | _, _ => none

theorem okCC {P : Program} {E : List (Entry P)} {f : FuncId} {fn : Func} {g : F32 → F32 → F32 → F32 → Bool × AV} (hf : P.funcs[f]? = some fn) (hn : (fn.name == "runtime.NumGoroutine") = false)
    (h : ∀ (x0 : F32) (x1 : F32) (x2 : F32) (x3 : F32), (g x0 x1 x2 x3).1 = true → run P E fn [.c (.cx .f32 x0 x1), .c (.cx .f32 x2 x3)] [] = some (g x0 x1 x2 x3).2) :
    EOk P f (shCC g) := by
  intro args M r hr σ vs w _ ha
  unfold shCC at hr
  split at hr
  · rename_i x0 x1 x2 x3
    have hr' := Option.some.inj hr
    have h1 := h x0 x1 x2 x3 (by rw [hr'])
    rw [hr'] at h1
    exact gives0 hf hn rfl h1 ha
  · cases hr

def shCS (g : F32 → F32 → F32 → Bool × AV) : List AV → List (List AC) → Option (Bool × AV)
  | [.c (.cx .f32 x0 x1), .c (.fl .f32 x2)], _ => some (g x0 x1 x2)
  | _, _ => none

theorem okCS {P : Program} {E : List (Entry P)} {f : FuncId} {fn : Func} {g : F32 → F32 → F32 → Bool × AV} (hf : P.funcs[f]? = some fn) (hn : (fn.name == "runtime.NumGoroutine") = false)
    (h : ∀ (x0 : F32) (x1 : F32) (x2 : F32), (g x0 x1 x2).1 = true → run P E fn [.c (.cx .f32 x0 x1), .c (.fl .f32 x2)] [] = some (g x0 x1 x2).2) :
    EOk P f (shCS g) := by
  intro args M r hr σ vs w _ ha
  unfold shCS at hr
  split at hr
  · rename_i x0 x1 x2
    have hr' := Option.some.inj hr
    have h1 := h x0 x1 x2 (by rw [hr'])
    rw [hr'] at h1
    exact gives0 hf hn rfl h1 ha
  · cases hr

def shSC (g : F32 → F32 → F32 → Bool × AV) : List AV → List (List AC) → Option (Bool × AV)
  | [.c (.fl .f32 x0), .c (.cx .f32 x1 x2)], _ => some (g x0 x1 x2)
  | _, _ => none

theorem okSC {P : Program} {E : List (Entry P)} {f : FuncId} {fn : Func} {g : F32 → F32 → F32 → Bool × AV} (hf : P.funcs[f]? = some fn) (hn : (fn.name == "runtime.NumGoroutine") = false)
    (h : ∀ (x0 : F32) (x1 : F32) (x2 : F32), (g x0 x1 x2).1 = true → run P E fn [.c (.fl .f32 x0), .c (.cx .f32 x1 x2)] [] = some (g x0 x1 x2).2) :
    EOk P f (shSC g) := by
  intro args M r hr σ vs w _ ha
  unfold shSC at hr
  split at hr
  · rename_i x0 x1 x2
    have hr' := Option.some.inj hr
    have h1 := h x0 x1 x2 (by rw [hr'])
    rw [hr'] at h1
    exact gives0 hf hn rfl h1 ha
  · cases hr

def rD (x : F64) : Bool × AV := (true, .c (.fl .f64 x))
def rS (x : F32) : Bool × AV := (true, .c (.fl .f32 x))
def rC (x y : F32) : Bool × AV := (true, .c (.cx .f32 x y))
def rB (b : Bool) : Bool × AV := (true, .c (.sb b))
def rSB (x : F32) (b : Bool) : Bool × AV := (true, .tup [.fl .f32 x, .sb b])

theorem push_fl {k : FloatKind} (c : Bool) (a b : Fl k) : some (AV.c (.fl k (bif c then a else b))) = bif c then some (.c (.fl k a)) else some (.c (.fl k b)) := by cases c <;> rfl
theorem push_sb (c : Bool) (a b : Bool) : some (AV.c (.sb (bif c then a else b))) = bif c then some (.c (.sb a)) else some (.c (.sb b)) := by cases c <;> rfl
theorem push_and (a b : Bool) : some (AV.c (.sb (a && b))) = bif a then some (.c (.sb b)) else some (.c (.sb false)) := by cases a <;> rfl
theorem push_or (a b : Bool) : some (AV.c (.sb (a || b))) = bif a then some (.c (.sb true)) else some (.c (.sb b)) := by cases a <;> rfl

def c64 (n : Nat) : F64 := lit .f64 n
def c32 (n : Nat) : F32 := lit .f32 n
def lt {k : FloatKind} (x y : Fl k) : Bool := ord x y == some .lt
def le {k : FloatKind} (x y : Fl k) : Bool := ord x y == some .lt || ord x y == some .eq
def gt {k : FloatKind} (x y : Fl k) : Bool := ord x y == some .gt
def ge {k : FloatKind} (x y : Fl k) : Bool := ord x y == some .gt || ord x y == some .eq
def eq {k : FloatKind} (x y : Fl k) : Bool := ord x y == some .eq
def ne {k : FloatKind} (x y : Fl k) : Bool := ord x y != some .eq

-- package math
theorem ext_whole {name : String} {way : Ieee.Toward} {P : Program} {x : F64} {σ : List (Nat × Nat)} {v : Value} {w : World} (h : RepC σ (.fl .f64 x) v) :
    ∃ v' w', (Extern.MathFloor.toIntegral name way #[v]).run P w = .ok v' w' ∧ Rep σ (.c (.fl .f64 (whole way x))) v' ∧ Ext w w' := by
  obtain ⟨t, rfl, hw⟩ := h
  obtain ⟨s, n, hr⟩ := run_whole (P := P) name way hw (Is.mk x t) w
  exact ⟨_, _, hr, ⟨s, rfl, wd_whole _ _ _⟩, Ext.drewN _ _⟩

theorem ext_sqrt {P : Program} {x : F64} {σ : List (Nat × Nat)} {v : Value} {w : World} (h : RepC σ (.fl .f64 x) v) :
    ∃ v' w', (Extern.MathSqrt.sqrt #[v]).run P w = .ok v' w' ∧ Rep σ (.c (.fl .f64 (sqrt x))) v' ∧ Ext w w' := by
  obtain ⟨t, rfl, hw⟩ := h
  obtain ⟨s, n, hr⟩ := run_sqrt (P := P) (Is.mk x t) w
  exact ⟨_, _, hr, ⟨s, rfl, wd_sqrt _ _⟩, Ext.drewN _ _⟩

/-- A function of one number, by whatever proof. -/
theorem okD_of {P : Program} {f : FuncId} {g : F64 → F64} (h : ∀ (x : F64) (σ : List (Nat × Nat)) (v : Value) (w : World), RepC σ (.fl .f64 x) v → Gives P f #[v] w fun v w' => Rep σ (.c (.fl .f64 (g x))) v ∧ Ext w w') :
    EOk P f (shD fun x => rD (g x)) := by
  intro args M r hr σ vs w _ ha
  unfold shD at hr
  split at hr
  · cases hr
    cases ha with
    | cons h1 h2 => cases h2; exact h _ σ _ w h1
  · cases hr

def eArchTrunc : Entry Try.prog := { f := 145, fn := shD fun x => rD (whole .zero x), ok := okD_of fun _ _ _ _ h => gives_extern Try.func145 (by kernel_rfl) (by kernel_rfl) (by kernel_rfl) (e := Extern.MathFloor.toIntegral "math.archTrunc" .zero) (by kernel_rfl) (ext_whole h) }
def eArchFloor : Entry Try.prog := { f := 128, fn := shD fun x => rD (whole .down x), ok := okD_of fun _ _ _ _ h => gives_extern Try.func128 (by kernel_rfl) (by kernel_rfl) (by kernel_rfl) (e := Extern.MathFloor.toIntegral "math.archFloor" .down) (by kernel_rfl) (ext_whole h) }
def eArchSqrt : Entry Try.prog := { f := 115, fn := shD fun x => rD (sqrt x), ok := okD_of fun _ _ _ _ h => gives_extern Try.func115 (by kernel_rfl) (by kernel_rfl) (by kernel_rfl) (e := Extern.MathSqrt.sqrt) (by kernel_rfl) (ext_sqrt h) }
def eTrunc : Entry Try.prog := { f := 142, fn := shD fun x => rD (whole .zero x), ok := okD (E := [eArchTrunc]) Try.func142 (by kernel_rfl) fun x _ => by kernel_rfl }
def eFloor : Entry Try.prog := { f := 88, fn := shD fun x => rD (whole .down x), ok := okD (E := [eArchFloor]) Try.func88 (by kernel_rfl) fun x _ => by kernel_rfl }
def eSqrt : Entry Try.prog := { f := 66, fn := shD fun x => rD (sqrt x), ok := okD (E := [eArchSqrt]) Try.func66 (by kernel_rfl) fun x _ => by kernel_rfl }

/-- A word as a float. -/
def canon (n : Nat) : F64 :=
  match FloatKind.f64.decode n with
  | .nan _ _ => none
  | _ => some n

def shBits : List AV → List (List AC) → Option (Bool × AV)
  | [.c (.val (.int .u64 n))], _ => if 0 ≤ n ∧ n < 2 ^ 64 then some (true, .c (.fl .f64 (canon n.toNat))) else none
  | _, _ => none

theorem eFrombits_ok : EOk Try.prog 126 (shBits) := by
  intro args M r hr σ vs w _ ha
  unfold shBits at hr
  split at hr
  · rename_i n
    split at hr
    · rename_i hn
      cases hr
      cases ha with
      | cons h1 h2 =>
        cases h2
        have h1' : _ = Value.int .u64 n := h1
        subst h1'
        refine gives_extern Try.func126 (by kernel_rfl) (by kernel_rfl) (by kernel_rfl) (e := Extern.MathFloatBits.float64frombits) (by kernel_rfl) ⟨.float .f64 n.toNat, w, rfl, ?_, Ext.refl _⟩
        have hlt : n.toNat < 2 ^ FloatKind.f64.format.width := by
          show n.toNat < 2 ^ 64
          omega
        cases hd : FloatKind.f64.decode n.toNat with
        | nan s f =>
          obtain ⟨t, ht⟩ := nan_form (k := .f64) hd hlt
          refine ⟨t, ?_, ?_⟩
          · simp only [canon, hd]; rw [ht]; rfl
          · simp only [canon, hd]; exact wd_none _ _
        | infinity s => exact ⟨0, by simp only [canon, hd]; rfl, by simp only [canon, hd]; exact hlt⟩
        | number s m e => exact ⟨0, by simp only [canon, hd]; rfl, by simp only [canon, hd]; exact hlt⟩
    · cases hr
  · cases hr
def eFrombits : Entry Try.prog := { f := 126, fn := shBits, ok := eFrombits_ok }

def shNil (v : AV) : List AV → List (List AC) → Option (Bool × AV)
  | [], _ => some (true, v)
  | _, _ => none

theorem eNaN_ok : EOk Try.prog 121 (shNil (.c (.fl .f64 none))) := by
  intro args M r hr σ vs w _ ha
  unfold shNil at hr
  split at hr
  · cases hr
    exact gives0 (E := [eFrombits]) Try.func121 (by kernel_rfl) rfl (by kernel_rfl) ha
  · cases hr
def eNaN : Entry Try.prog := { f := 121, fn := shNil (.c (.fl .f64 none)), ok := eNaN_ok }

def shBitsV : List AV → List (List AC) → Option (Bool × AV)
  | [.c (.val (.float .f64 b))], _ => some (true, .c (.val (.int .u64 b)))
  | _, _ => none
theorem eBitsV_ok : EOk Try.prog 127 (shBitsV) := by
  intro args M r hr σ vs w _ ha
  unfold shBitsV at hr
  split at hr
  · rename_i b
    cases hr
    cases ha with
    | cons h1 h2 =>
      cases h2
      have h1' : _ = Value.float .f64 b := h1
      subst h1'
      exact gives_extern Try.func127 (by kernel_rfl) (by kernel_rfl) (by kernel_rfl) (e := Extern.MathFloatBits.float64bits) (by kernel_rfl) ⟨.int .u64 b, w, rfl, rfl, Ext.refl _⟩
  · cases hr
def eBitsV : Entry Try.prog := { f := 127, fn := shBitsV, ok := eBitsV_ok }
def shFromV : List AV → List (List AC) → Option (Bool × AV)
  | [.c (.val (.int .u64 n))], _ => some (true, .c (.val (.float .f64 n.toNat)))
  | _, _ => none
theorem eFromV_ok : EOk Try.prog 126 (shFromV) := by
  intro args M r hr σ vs w _ ha
  unfold shFromV at hr
  split at hr
  · rename_i n
    cases hr
    cases ha with
    | cons h1 h2 =>
      cases h2
      have h1' : _ = Value.int .u64 n := h1
      subst h1'
      exact gives_extern Try.func126 (by kernel_rfl) (by kernel_rfl) (by kernel_rfl) (e := Extern.MathFloatBits.float64frombits) (by kernel_rfl) ⟨.float .f64 n.toNat, w, rfl, rfl, Ext.refl _⟩
  · cases hr
def eFromV : Entry Try.prog := { f := 126, fn := shFromV, ok := eFromV_ok }

/-- The absolute value. -/
def fabs (x : F64) : F64 :=
  match x with
  | some r => some (r % 2 ^ 63)
  | none => none

theorem run_abs (b : Nat) : run Try.prog [eBitsV, eFromV] Try.f87 [.c (.val (.float .f64 b))] [] = some (.c (.val (.float .f64 (bits .andNot .u64 b 9223372036854775808).toNat))) := by kernel_rfl

theorem abs_bits {b : Nat} (hb : b < 2 ^ 64) : (bits .andNot .u64 (b : Int) 9223372036854775808).toNat = b % 2 ^ 63 := by
  have := u64_andNot_nat b 9223372036854775808 (by omega) (by omega)
  rw [show ((9223372036854775808 : Nat) : Int) = 9223372036854775808 from rfl] at this
  rw [this, Int.toNat_natCast]
  exact Nat.and_two_pow_sub_one_eq_mod b 63

theorem eAbs_ok : EOk Try.prog 87 (shD fun x => rD (fabs x)) := by
  refine okD_of fun x σ v w h => ?_
  obtain ⟨t, rfl, hw⟩ := h
  have hw' : B x t < 2 ^ 64 := hw
  have hg := gives0 (σ := σ) (w := w) (E := [eBitsV, eFromV]) Try.func87 (by kernel_rfl) rfl (run_abs (B x t)) (vs := [.float .f64 (B x t)]) (.cons rfl .nil)
  have key : ∃ s, (bits .andNot .u64 (B x t) 9223372036854775808).toNat = B (fabs x) s ∧ Wd .f64 (B (fabs x) s) := by
    rw [abs_bits hw']
    cases x with
    | some r => exact ⟨0, rfl, by show r % 2 ^ 63 < 2 ^ 64; omega⟩
    | none =>
      obtain ⟨r, hr, q, hq, ht⟩ := nanW_signed .f64 t
      have e : FloatKind.f64.format.signWeight = 2 ^ 63 := by decide
      rw [e] at hr hq
      refine ⟨2 * q, ?_, wd_none _ _⟩
      show nanW .f64 t % 2 ^ 63 = nanW .f64 (2 * q)
      have h0 := hq 0
      have h1 := hq t
      rw [← ht] at h1
      rw [h1, show nanW .f64 (2 * q) = 0 % 2 * 2 ^ 63 + r from h0]
      omega
  obtain ⟨s, hs, hs2⟩ := key
  have fin : ∀ v' w', Rep σ (.c (.val (.float .f64 (bits .andNot .u64 (B x t) 9223372036854775808).toNat))) v' ∧ Ext w w' → Rep σ (.c (.fl .f64 (fabs x))) v' ∧ Ext w w' := by
    intro v' w' ⟨h1, h2⟩
    have h1' : v' = .float .f64 (bits .andNot .u64 (B x t) 9223372036854775808).toNat := h1
    rw [hs] at h1'
    exact ⟨⟨s, h1', hs2⟩, h2⟩
  rcases hg with ⟨v', w', hr, hv⟩ | ⟨hr, hc⟩
  · exact .inl ⟨v', w', hr, fin _ _ hv⟩
  · exact .inr ⟨hr, hc.mono fun e w' ⟨v, he, hv⟩ => ⟨v, he, fin _ _ hv⟩⟩
def eAbs : Entry Try.prog := { f := 87, fn := shD fun x => rD (fabs x), ok := eAbs_ok }

end Go.Proofs.Ytlpahmefebgdlaa.Fx
