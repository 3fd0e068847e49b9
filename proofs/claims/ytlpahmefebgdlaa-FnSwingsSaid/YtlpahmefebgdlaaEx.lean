/- An executor over floats up to the bits of their not-a-numbers, and the proof that the model's runs answer as it does. No condition. -/
import Derived.Test.YtlpahmefebgdlaaFy
import Derived.Below
import Derived.Laws.Externs
import Derived.Laws.Small
import Derived.Laws.Tables
import Derived.Laws.CopyRow
import Derived.Laws.Cells
import Derived.Laws.Slices
import Derived.Great.BuildSlice
namespace Go.Proofs.Ytlpahmefebgdlaa.Fx
open Go Go.RowKit

/-- A cell's value, with floats up to their not-a-numbers. -/
inductive AC where
  | fl (k : FloatKind) (x : Fl k)
  | cx (k : FloatKind) (x y : Fl k)
  | sb (b : Bool)
  | val (v : Value)
  | ptr (id off : Nat)
  | slc (id len : Nat)
  | sub (id off len : Nat)
  | any

inductive AV where
  | c (x : AC)
  | agg (l : List AC)
  | tup (l : List AC)

def RepC (σ : List (Nat × Nat)) : AC → Value → Prop
  | .fl k x, v => ∃ t, v = .float k (B x t) ∧ Wd k (B x t)
  | .cx k x y, v => ∃ t s, v = .complex k (B x t) (B y s) ∧ Wd k (B x t) ∧ Wd k (B y s)
  | .sb b, v => v = .bool b
  | .val u, v => v = u
  | .ptr id off, v => ∃ b, σ[id]? = some b ∧ v = .pointer (some ⟨b.1, off, none⟩)
  | .slc id n, v => ∃ b, σ[id]? = some b ∧ n ≤ b.2 ∧ v = .slice (some ⟨b.1, 0, none⟩) n b.2
  | .sub id off n, v => ∃ b a c, σ[id]? = some b ∧ v = .slice a n c ∧ (0 < n → a = some ⟨b.1, off, none⟩)
  | .any, _ => True

inductive RepL (σ : List (Nat × Nat)) : List AC → List Value → Prop where
  | nil : RepL σ [] []
  | cons {a v l vs} : RepC σ a v → RepL σ l vs → RepL σ (a :: l) (v :: vs)

def Rep (σ : List (Nat × Nat)) : AV → Value → Prop
  | .c x, v => RepC σ x v
  | .agg l, v => ∃ vs : Array Value, v = .agg vs ∧ RepL σ l vs.toList
  | .tup l, v => ∃ vs : Array Value, v = .tuple vs ∧ RepL σ l vs.toList

inductive RepF (σ : List (Nat × Nat)) : List AV → List Value → Prop where
  | nil : RepF σ [] []
  | cons {a v l vs} : Rep σ a v → RepF σ l vs → RepF σ (a :: l) (v :: vs)

/-- A value as the executor sees it. -/
def toC : Value → AC
  | .float k b => if b < 2 ^ k.format.width then .fl k (lit k b) else .any
  | .complex k a b => if a < 2 ^ k.format.width ∧ b < 2 ^ k.format.width then .cx k (lit k a) (lit k b) else .any
  | .bool b => .sb b
  | v => .val v

theorem rep_toC (σ : List (Nat × Nat)) (v : Value) : RepC σ (toC v) v := by
  cases v with
  | float k b =>
    simp only [toC]
    split
    · rename_i h; exact ⟨0, rfl, h⟩
    · trivial
  | complex k a b =>
    simp only [toC]
    split
    · rename_i h; exact ⟨0, 0, rfl, h.1, h.2⟩
    · trivial
  | _ => rfl

theorem RepF.get {σ : List (Nat × Nat)} {F : List AV} {vs : List Value} (h : RepF σ F vs) (i : Nat) (u : Value) : Rep σ (F.getD i (.c .any)) (vs.getD i u) := by
  induction h generalizing i with
  | nil => trivial
  | cons h _ ih => cases i with
    | zero => exact h
    | succ i => exact ih i

theorem RepF.get? {σ : List (Nat × Nat)} {F : List AV} {vs : List Value} (h : RepF σ F vs) {i : Nat} {x : AV} (hx : F[i]? = some x) : ∃ v, vs[i]? = some v ∧ Rep σ x v := by
  induction h generalizing i with
  | nil => cases hx
  | cons h _ ih => cases i with
    | zero => cases hx; exact ⟨_, rfl, h⟩
    | succ i => exact ih hx

theorem RepF.set {σ : List (Nat × Nat)} {F : List AV} {vs : List Value} (h : RepF σ F vs) (i : Nat) {x : AV} {v : Value} (hx : Rep σ x v) : RepF σ (F.set i x) (vs.set i v) := by
  induction h generalizing i with
  | nil => exact .nil
  | cons h t ih => cases i with
    | zero => exact .cons hx t
    | succ i => exact .cons h (ih i)

theorem RepF.length {σ : List (Nat × Nat)} {F : List AV} {vs : List Value} (h : RepF σ F vs) : F.length = vs.length := by
  induction h with
  | nil => rfl
  | cons _ _ ih => simp [ih]

theorem RepL.length {σ : List (Nat × Nat)} {F : List AC} {vs : List Value} (h : RepL σ F vs) : F.length = vs.length := by
  induction h with
  | nil => rfl
  | cons _ _ ih => simp [ih]

theorem RepL.get? {σ : List (Nat × Nat)} {F : List AC} {vs : List Value} (h : RepL σ F vs) {i : Nat} {x : AC} (hx : F[i]? = some x) : ∃ v, vs[i]? = some v ∧ RepC σ x v := by
  induction h generalizing i with
  | nil => cases hx
  | cons h _ ih => cases i with
    | zero => cases hx; exact ⟨_, rfl, h⟩
    | succ i => exact ih hx

theorem RepC.mono {σ : List (Nat × Nat)} (τ : List (Nat × Nat)) {x : AC} {v : Value} (h : RepC σ x v) : RepC (σ ++ τ) x v := by
  cases x with
  | ptr id off => obtain ⟨b, hb, e⟩ := h; exact ⟨b, by rw [List.getElem?_append_left (List.getElem?_eq_some_iff.1 hb).1]; exact hb, e⟩
  | slc id off => obtain ⟨b, hb, e⟩ := h; exact ⟨b, by rw [List.getElem?_append_left (List.getElem?_eq_some_iff.1 hb).1]; exact hb, e⟩
  | sub id off n => obtain ⟨b, a, c, hb, e⟩ := h; exact ⟨b, a, c, by rw [List.getElem?_append_left (List.getElem?_eq_some_iff.1 hb).1]; exact hb, e⟩
  | _ => exact h

theorem RepL.mono {σ : List (Nat × Nat)} (τ : List (Nat × Nat)) {l : List AC} {vs : List Value} (h : RepL σ l vs) : RepL (σ ++ τ) l vs := by
  induction h with
  | nil => exact .nil
  | cons h _ ih => exact .cons (h.mono τ) ih

theorem Rep.mono {σ : List (Nat × Nat)} (τ : List (Nat × Nat)) {x : AV} {v : Value} (h : Rep σ x v) : Rep (σ ++ τ) x v := by
  cases x with
  | c x => exact RepC.mono τ h
  | agg l => obtain ⟨vs, e, hl⟩ := h; exact ⟨vs, e, hl.mono τ⟩
  | tup l => obtain ⟨vs, e, hl⟩ := h; exact ⟨vs, e, hl.mono τ⟩

theorem RepF.mono {σ : List (Nat × Nat)} (τ : List (Nat × Nat)) {l : List AV} {vs : List Value} (h : RepF σ l vs) : RepF (σ ++ τ) l vs := by
  induction h with
  | nil => exact .nil
  | cons h _ ih => exact .cons (h.mono τ) ih

/-- The world goes on: what was there is as it was. -/
def Ext (w w' : World) : Prop := Below w.heap.size w w'
theorem Ext.refl (w : World) : Ext w w := Below.refl _ _
theorem Ext.trans {a b c : World} (h : Ext a b) (k : Ext b c) : Ext a c := Below.trans h (Below.mono k h.size)
theorem Ext.drewN (w : World) (n : Nat) : Ext w (w.drewN n) := ⟨rfl, rfl, rfl, Nat.le_refl _, fun _ _ => rfl⟩

/-- A block's cells, of which the first are known. -/
def RepP (σ : List (Nat × Nat)) (cs : List AC) (vs : List Value) : Prop := ∃ k, RepL σ (cs ++ List.replicate k .any) vs

theorem RepL.some_any {σ : List (Nat × Nat)} : ∀ (vs : List Value), RepL σ (List.replicate vs.length .any) vs
  | [] => .nil
  | _ :: vs => .cons trivial (RepL.some_any vs)
theorem RepP.of {σ : List (Nat × Nat)} {cs : List AC} {vs : List Value} (h : RepL σ cs vs) : RepP σ cs vs := ⟨0, by simpa using h⟩
theorem RepP.get? {σ : List (Nat × Nat)} {cs : List AC} {vs : List Value} (h : RepP σ cs vs) {i : Nat} {x : AC} (hx : cs[i]? = some x) : ∃ v, vs[i]? = some v ∧ RepC σ x v := by
  obtain ⟨k, h⟩ := h
  exact h.get? (by rw [List.getElem?_append_left (List.getElem?_eq_some_iff.1 hx).1]; exact hx)
theorem RepP.le {σ : List (Nat × Nat)} {cs : List AC} {vs : List Value} (h : RepP σ cs vs) : cs.length ≤ vs.length := by
  obtain ⟨k, h⟩ := h
  have := h.length
  simp at this
  omega
theorem RepP.mono {σ : List (Nat × Nat)} (τ : List (Nat × Nat)) {cs : List AC} {vs : List Value} (h : RepP σ cs vs) : RepP (σ ++ τ) cs vs := by
  obtain ⟨k, h⟩ := h
  exact ⟨k, h.mono τ⟩

/-- The blocks that the executor knows: of each its place, and its slices' capacity. -/
structure MemOk (σ : List (Nat × Nat)) (M : List (List AC)) (w : World) : Prop where
  len : σ.length = M.length
  nodup : (σ.map (·.1)).Nodup
  at_ : ∀ (id : Nat) (b : Nat × Nat) (cs : List AC), σ[id]? = some b → M[id]? = some cs → ∃ (vs : Array Value) (e : TypeId), w.heap[b.1]? = some (.cells vs e (0, 0)) ∧ RepP σ cs vs.toList ∧ b.2 ≤ vs.size

theorem MemOk.lt {σ : List (Nat × Nat)} {M : List (List AC)} {w : World} (h : MemOk σ M w) {id : Nat} {b : Nat × Nat} (hb : σ[id]? = some b) : b.1 < w.heap.size := by
  have hi : id < M.length := by rw [← h.len]; exact (List.getElem?_eq_some_iff.1 hb).1
  obtain ⟨vs, e, hw, _⟩ := h.at_ id b M[id] hb (List.getElem?_eq_getElem hi)
  exact (Array.getElem?_eq_some_iff.1 hw).1

theorem MemOk.ext {σ : List (Nat × Nat)} {M : List (List AC)} {w w' : World} (h : MemOk σ M w) (he : Ext w w') : MemOk σ M w' :=
  ⟨h.len, h.nodup, fun id b cs hb hc => by
    obtain ⟨vs, e, hw, hr⟩ := h.at_ id b cs hb hc
    exact ⟨vs, e, by rw [he.block b.1 (h.lt hb)]; exact hw, hr⟩⟩

theorem MemOk.nil (w : World) : MemOk [] [] w := ⟨rfl, List.nodup_nil, fun id b cs hb _ => by cases hb⟩

/-- What a call of a function answers. -/
def Gives (P : Program) (f : FuncId) (args : Array Value) (w : World) (R : Value → World → Prop) : Prop :=
  (∃ v w', (callFunc f args).run P w = .ok (.value v) w' ∧ R v w') ∨
  ((callFunc f args).run P w = .ok (.enter f args) w ∧ Calls P f args w fun e w' => ∃ v, e = .returned v ∧ R v w')

/-- A function's answer: of arguments, and of the blocks that they lead to; under a condition. -/
structure Entry (P : Program) where
  f : FuncId
  fn : List AV → List (List AC) → Option (Bool × AV)
  ok : ∀ args M r, fn args M = some (true, r) → ∀ σ vs w, MemOk σ M w → RepF σ args vs → Gives P f vs.toArray w fun v w' => Rep σ r v ∧ Ext w w'

def find {P : Program} : List (Entry P) → FuncId → Option (Entry P)
  | [], _ => none
  | e :: l, f => if e.f == f then some e else find l f

theorem find_f {P : Program} {E : List (Entry P)} {f : FuncId} {e : Entry P} (h : find E f = some e) : e.f = f := by
  induction E with
  | nil => cases h
  | cons a l ih =>
    simp only [find] at h
    split at h
    · rename_i hf; cases h; simpa using hf
    · exact ih h

def evA (F : List AV) : Operand → AV
  | .tmp t => F.getD t (.c .any)
  | .const v => .c (toC v)
  | .func f => .c (.val (.func (.func f) #[] #[]))
  | .global _ => .c .any

def isAggV : Value → Bool
  | .agg _ | .tuple _ => true
  | _ => false

theorem rep_ev {σ : List (Nat × Nat)} {F : List AV} {a : Act} (h : RepF σ F a.tmps.toList) (x : Operand) : Rep σ (evA F x) (a.eval x) := by
  cases x with
  | tmp t => have := h.get t undef; simpa [evA, Act.eval, Array.getD_eq_getD_getElem?, List.getD_eq_getElem?_getD] using this
  | const v => exact rep_toC σ v
  | global g => trivial
  | func f => exact rfl

def flBin {k : FloatKind} (op : BinOp) (x y : Fl k) : Option AC :=
  match op with
  | .add => some (.fl k (x + y))
  | .sub => some (.fl k (x - y))
  | .mul => some (.fl k (x * y))
  | .quo => some (.fl k (x / y))
  | .eql => some (.sb (ord x y == some .eq))
  | .neq => some (.sb (ord x y != some .eq))
  | .lss => some (.sb (ord x y == some .lt))
  | .leq => some (.sb (ord x y == some .lt || ord x y == some .eq))
  | .gtr => some (.sb (ord x y == some .gt))
  | .geq => some (.sb (ord x y == some .gt || ord x y == some .eq))
  | _ => none

def cxBin {k : FloatKind} (op : BinOp) (x y u v : Fl k) : Option AC :=
  match op with
  | .add => some (.cx k (x + u) (y + v))
  | .sub => some (.cx k (x - u) (y - v))
  | .eql => some (.sb (ord x u == some .eq && ord y v == some .eq))
  | .neq => some (.sb (!(ord x u == some .eq && ord y v == some .eq)))
  | _ => none

def intBin (op : BinOp) (k : IntKind) (a b : Int) : Option AC :=
  match op with
  | .add => some (.val (.int k (k.wrap (a + b))))
  | .sub => some (.val (.int k (k.wrap (a - b))))
  | .mul => some (.val (.int k (k.wrap (a * b))))
  | .eql => some (.sb (a == b))
  | .neq => some (.sb (a != b))
  | .lss => some (.sb (decide (a < b)))
  | .leq => some (.sb (decide (a ≤ b)))
  | .gtr => some (.sb (decide (a > b)))
  | .geq => some (.sb (decide (a ≥ b)))
  | _ => none

def opBin (P : Program) (t : TypeId) (op : BinOp) : AC → AC → Option AC
  | .fl .f32 x, .fl .f32 y => flBin op x y
  | .fl .f64 x, .fl .f64 y => flBin op x y
  | .cx .f32 x y, .cx .f32 u v => cxBin op x y u v
  | .cx .f64 x y, .cx .f64 u v => cxBin op x y u v
  | .sb x, .sb y => match P.underlying t, op with
    | some .bool, .eql => some (.sb (x == y))
    | some .bool, .neq => some (.sb (x != y))
    | _, _ => none
  | .val (.int .i64 a), .val (.int .i64 b) => intBin op .i64 a b
  | .val (.int .u64 a), .val (.int .u64 b) => match op with
    | .andNot => some (.val (.int .u64 (bits .andNot .u64 a b)))
    | _ => none
  | _, _ => none

section
variable {P : Program} {w : World}

theorem run_cx {k : FloatKind} (op : BinOp) (hop : op = .add ∨ op = .sub) {a b c d : Nat} {x y u v : Fl k} (ha : Is k a x) (hb : Is k b y) (hc : Is k c u) (hd : Is k d v) (w : World) :
    ∃ t s n, (Op.complexOp op k a b c d).run P w = .ok (.complex k (B (bin op x u) t) (B (bin op y v) s)) (w.drewN n) := by
  have hop' : op = .add ∨ op = .sub ∨ op = .mul ∨ op = .quo := hop.imp_right .inl
  obtain ⟨t, n, h1⟩ := run_arith (P := P) op hop' ha hc w
  obtain ⟨s, m, h2⟩ := run_arith (P := P) op hop' hb hd (w.drewN n)
  refine ⟨t, s, n + m, ?_⟩
  have e1 : (Op.Complex.arith op k a c).run P w = .ok (B (bin op x u) t) (w.drewN n) := by simp [Op.Complex.arith, h1]
  have e2 : (Op.Complex.arith op k b d).run P (w.drewN n) = .ok (B (bin op y v) s) ((w.drewN n).drewN m) := by simp [Op.Complex.arith, h2]
  rcases hop with rfl | rfl <;> simp [Op.complexOp, e1, e2]

theorem opBin_sound {σ : List (Nat × Nat)} {op : BinOp} {t : TypeId} {x y : Operand} {a b r : AC} {u v : Value} (h : opBin P t op a b = some r) (hu : RepC σ a u) (hv : RepC σ b v) :
    ∃ z w', (do eqGuard op t x y u v; binOp op t u v).run P w = .ok z w' ∧ RepC σ r z ∧ Ext w w' := by
  have fl : ∀ {k : FloatKind} {x1 y1 : Fl k} {r : AC} {t1 t2 : Nat}, flBin op x1 y1 = some r →
      ∃ z w', (do eqGuard op t x y (.float k (B x1 t1)) (.float k (B y1 t2)); binOp op t (.float k (B x1 t1)) (.float k (B y1 t2))).run P w = .ok z w' ∧ RepC σ r z ∧ Ext w w' := by
    intro k x1 y1 r t1 t2 h
    have hord := order_B x1 y1 t1 t2
    have hg : eqGuard op t x y (.float k (B x1 t1)) (.float k (B y1 t2)) = pure () := by unfold eqGuard; cases op <;> rfl
    have ha : ∀ o, o = .add ∨ o = .sub ∨ o = .mul ∨ o = .quo → binOp o t (.float k (B x1 t1)) (.float k (B y1 t2)) = Op.floatArith o k (B x1 t1) (B y1 t2) := by
      intro o ho; rcases ho with rfl | rfl | rfl | rfl <;> cases k <;> rfl
    rw [hg]
    have arith : ∀ o, (ho : o = .add ∨ o = .sub ∨ o = .mul ∨ o = .quo) → ∃ z w', (do pure (); binOp o t (.float k (B x1 t1)) (.float k (B y1 t2))).run P w = .ok z w' ∧ RepC σ (.fl k (bin o x1 y1)) z ∧ Ext w w' := by
      intro o ho
      obtain ⟨s, n, hr⟩ := run_arith (P := P) o ho ⟨t1, rfl⟩ ⟨t2, rfl⟩ w
      exact ⟨_, _, by rw [ha o ho]; simpa using hr, ⟨s, rfl, wd_bin _ _ _ _⟩, Ext.drewN _ _⟩
    cases op <;> simp only [flBin, Option.some.injEq, reduceCtorEq] at h <;> subst h
    case add => exact arith .add (by simp)
    case sub => exact arith .sub (by simp)
    case mul => exact arith .mul (by simp)
    case quo => exact arith .quo (by simp)
    all_goals exact ⟨_, w, by simp [binOp_float_cmp_eql, binOp_float_cmp_neq, binOp_float_cmp_lss, binOp_float_cmp_leq, binOp_float_cmp_gtr, binOp_float_cmp_geq, hord], rfl, Ext.refl _⟩
  have cx : ∀ {k : FloatKind} {x1 y1 x2 y2 : Fl k} {r : AC} {t1 t2 t3 t4 : Nat}, cxBin op x1 y1 x2 y2 = some r →
      ∃ z w', (do eqGuard op t x y (.complex k (B x1 t1) (B y1 t2)) (.complex k (B x2 t3) (B y2 t4)); binOp op t (.complex k (B x1 t1) (B y1 t2)) (.complex k (B x2 t3) (B y2 t4))).run P w = .ok z w' ∧ RepC σ r z ∧ Ext w w' := by
    intro k x1 y1 x2 y2 r t1 t2 t3 t4 h
    have ho1 := order_B x1 x2 t1 t3
    have ho2 := order_B y1 y2 t2 t4
    have hg : eqGuard op t x y (.complex k (B x1 t1) (B y1 t2)) (.complex k (B x2 t3) (B y2 t4)) = pure () := by unfold eqGuard; cases op <;> rfl
    rw [hg]
    have arith : ∀ o, (ho : o = .add ∨ o = .sub) → ∃ z w', (do pure (); binOp o t (.complex k (B x1 t1) (B y1 t2)) (.complex k (B x2 t3) (B y2 t4))).run P w = .ok z w' ∧ RepC σ (.cx k (bin o x1 x2) (bin o y1 y2)) z ∧ Ext w w' := by
      intro o ho
      have hb : binOp o t (.complex k (B x1 t1) (B y1 t2)) (.complex k (B x2 t3) (B y2 t4)) = Op.complexOp o k (B x1 t1) (B y1 t2) (B x2 t3) (B y2 t4) := by
        rcases ho with rfl | rfl <;> cases k <;> rfl
      obtain ⟨s1, s2, n, hr⟩ := run_cx (P := P) o ho ⟨t1, rfl⟩ ⟨t2, rfl⟩ ⟨t3, rfl⟩ ⟨t4, rfl⟩ w
      exact ⟨_, _, by rw [hb]; simpa using hr, ⟨s1, s2, rfl, wd_bin _ _ _ _, wd_bin _ _ _ _⟩, Ext.drewN _ _⟩
    cases op <;> simp only [cxBin, Option.some.injEq, reduceCtorEq] at h <;> subst h
    case add => exact arith .add (by simp)
    case sub => exact arith .sub (by simp)
    all_goals exact ⟨_, w, by simp [run_eql_complex, run_neq_complex, ho1, ho2], rfl, Ext.refl _⟩
  unfold opBin at h
  split at h
  · obtain ⟨t1, rfl, _⟩ := hu; obtain ⟨t2, rfl, _⟩ := hv; exact fl h
  · obtain ⟨t1, rfl, _⟩ := hu; obtain ⟨t2, rfl, _⟩ := hv; exact fl h
  · obtain ⟨t1, t2, rfl, _, _⟩ := hu; obtain ⟨t3, t4, rfl, _, _⟩ := hv; exact cx h
  · obtain ⟨t1, t2, rfl, _, _⟩ := hu; obtain ⟨t3, t4, rfl, _, _⟩ := hv; exact cx h
  · cases hu; cases hv
    rename_i a b
    split at h
    · rename_i ht; cases h
      exact ⟨_, w, by simp [eqGuard, run_eql_bool w t a b ht], rfl, Ext.refl _⟩
    · rename_i ht; cases h
      exact ⟨_, w, by simp [eqGuard, run_neq_bool w t a b ht]; cases a <;> cases b <;> rfl, rfl, Ext.refl _⟩
    · cases h
  · cases hu; cases hv
    rename_i a b
    unfold intBin at h
    cases op <;> simp only [Option.some.injEq, reduceCtorEq] at h <;> subst h <;> exact ⟨_, w, rfl, rfl, Ext.refl _⟩
  · cases hu; cases hv
    split at h
    · cases h; exact ⟨_, w, rfl, rfl, Ext.refl _⟩
    · cases h
  · cases h
end

def opUn (op : UnOp) : AC → Option AC
  | .fl k x => match op with | .neg => some (.fl k (-x)) | _ => none
  | .cx k x y => match op with | .neg => some (.cx k (-x) (-y)) | _ => none
  | .sb b => match op with | .not => some (.sb (!b)) | _ => none
  | _ => none

theorem opUn_sound {P : Program} {w : World} {σ : List (Nat × Nat)} {op : UnOp} {a r : AC} {u : Value} (h : opUn op a = some r) (hu : RepC σ a u) :
    ∃ z, (Op.unary op u).run P w = .ok z w ∧ RepC σ r z := by
  cases a <;> cases op <;> simp only [opUn, Option.some.injEq, reduceCtorEq] at h <;> subst h
  · obtain ⟨t, rfl, hw⟩ := hu
    rename_i k x
    obtain ⟨s, hs⟩ := neg_B x t
    exact ⟨_, rfl, s, by rw [hs]; rfl, wd_neg (wd_all hw) s⟩
  · obtain ⟨t1, t2, rfl, hw1, hw2⟩ := hu
    rename_i k x y
    obtain ⟨s1, hs1⟩ := neg_B x t1
    obtain ⟨s2, hs2⟩ := neg_B y t2
    exact ⟨_, rfl, s1, s2, by rw [hs1, hs2]; rfl, wd_neg (wd_all hw1) s1, wd_neg (wd_all hw2) s2⟩
  · cases hu
    exact ⟨_, rfl, rfl⟩

theorem wd_int (k : FloatKind) (n : Int) : Wd k (B (lit k (floatOfInt k n)) 0) := k.format.write_lt (.number (n < 0) n.natAbs 0)

/-- A conversion; under a condition. -/
def opConv (P : Program) (src dst : TypeId) (a : AC) : Option (Bool × AC) :=
  if (P.underlying src).isSome then
    match P.underlying dst, a with
    | some (.float k), .val (.int _ n) => some (true, .fl k (lit k (floatOfInt k n)))
    | some (.float .f64), .fl .f32 x => some (true, .fl .f64 (widen x))
    | some (.float .f64), .fl .f64 x => some (true, .fl .f64 x)
    | some (.float .f32), .fl .f32 x => some (true, .fl .f32 x)
    | some (.float .f32), .fl .f64 x => some (fits x, .fl .f32 (narrow x))
    | some (.complex .f64), .cx .f32 x y => some (true, .cx .f64 (widen x) (widen y))
    | some (.complex .f32), .cx .f64 x y => some (fits x && fits y, .cx .f32 (narrow x) (narrow y))
    | some (.int .i64), .val (.int .i64 n) => some (true, .val (.int .i64 (IntKind.i64.wrap n)))
    | some (.int .i64), .fl .f64 x => some (isI x .i64, .val (.int .i64 (toI x .i64)))
    | _, _ => none
  else none

theorem opConv_sound {P : Program} {w : World} {σ : List (Nat × Nat)} {src dst : TypeId} {a r : AC} {u : Value} (h : opConv P src dst a = some (true, r)) (hu : RepC σ a u) :
    ∃ z w', (convert src dst u).run P w = .ok z w' ∧ RepC σ r z ∧ Ext w w' := by
  unfold opConv at h
  split at h
  · rename_i hs
    obtain ⟨d, hs'⟩ := Option.isSome_iff_exists.1 hs
    have conv : ∀ (s k : FloatKind) (b : Nat), P.underlying dst = some (.float k) → (convert src dst (.float s b)).run P w = (Conv.floatToFloat s b k).run P w := by
      intro s k b hd
      cases d <;> simp [convert, run_underlying hs', run_underlying hd]
    have same : ∀ (k : FloatKind) (b : Nat), P.underlying dst = some (.float k) → (convert src dst (.float k b)).run P w = .ok (.float k b) w := by
      intro k b hd
      rw [conv k k b hd]; simp [Conv.floatToFloat]
    split at h
    · rename_i hd; cases h; cases hu
      exact ⟨_, w, run_convert_int_float w src dst _ _ _ hs hd, ⟨0, rfl, wd_int _ _⟩, Ext.refl _⟩
    · rename_i x hd; cases h
      obtain ⟨t, rfl, _⟩ := hu
      obtain ⟨s, n, hr⟩ := run_widen (P := P) (Is.mk x t) w
      exact ⟨_, _, by rw [conv _ _ _ hd]; exact hr, ⟨s, rfl, wd_widen _ _⟩, Ext.drewN _ _⟩
    · rename_i hd; cases h
      obtain ⟨t, rfl, hw⟩ := hu
      exact ⟨_, w, same _ _ hd, ⟨t, rfl, hw⟩, Ext.refl _⟩
    · rename_i hd; cases h
      obtain ⟨t, rfl, hw⟩ := hu
      exact ⟨_, w, same _ _ hd, ⟨t, rfl, hw⟩, Ext.refl _⟩
    · rename_i x hd
      simp only [Option.some.injEq, Prod.mk.injEq] at h
      obtain ⟨hf, rfl⟩ := h
      obtain ⟨t, rfl, _⟩ := hu
      obtain ⟨s, n, hr⟩ := run_narrow (P := P) (Is.mk x t) hf w
      exact ⟨_, _, by rw [conv _ _ _ hd]; exact hr, ⟨s, rfl, wd_narrow _ _⟩, Ext.drewN _ _⟩
    · rename_i x y hd; cases h
      obtain ⟨t1, t2, rfl, _, _⟩ := hu
      obtain ⟨s1, n1, hr1⟩ := run_widen (P := P) (Is.mk x t1) w
      obtain ⟨s2, n2, hr2⟩ := run_widen (P := P) (Is.mk y t2) (w.drewN n1)
      have cc : (convert src dst (.complex .f32 (B x t1) (B y t2))).run P w = (Conv.complexToComplex .f32 (B x t1) (B y t2) .f64).run P w := by
        cases d <;> simp [convert, run_underlying hs', run_underlying hd]
      have cr : (Conv.complexToComplex .f32 (B x t1) (B y t2) .f64).run P w = .ok (.complex .f64 (B (widen x) s1) (B (widen y) s2)) ((w.drewN n1).drewN n2) := by
        simp [Conv.complexToComplex, hr1, hr2]
      exact ⟨_, _, cc.trans cr, ⟨s1, s2, rfl, wd_widen _ _, wd_widen _ _⟩, Ext.trans (Ext.drewN _ _) (Ext.drewN _ _)⟩
    · rename_i x y hd
      simp only [Option.some.injEq, Prod.mk.injEq, Bool.and_eq_true] at h
      obtain ⟨⟨hf1, hf2⟩, rfl⟩ := h
      obtain ⟨t1, t2, rfl, _, _⟩ := hu
      obtain ⟨s1, n1, hr1⟩ := run_narrow (P := P) (Is.mk x t1) hf1 w
      obtain ⟨s2, n2, hr2⟩ := run_narrow (P := P) (Is.mk y t2) hf2 (w.drewN n1)
      have cc : (convert src dst (.complex .f64 (B x t1) (B y t2))).run P w = (Conv.complexToComplex .f64 (B x t1) (B y t2) .f32).run P w := by
        cases d <;> simp [convert, run_underlying hs', run_underlying hd]
      have cr : (Conv.complexToComplex .f64 (B x t1) (B y t2) .f32).run P w = .ok (.complex .f32 (B (narrow x) s1) (B (narrow y) s2)) ((w.drewN n1).drewN n2) := by
        simp [Conv.complexToComplex, hr1, hr2]
      exact ⟨_, _, cc.trans cr, ⟨s1, s2, rfl, wd_narrow _ _, wd_narrow _ _⟩, Ext.trans (Ext.drewN _ _) (Ext.drewN _ _)⟩
    · rename_i n hd; cases h; cases hu
      have ci : (convert src dst (.int .i64 n)).run P w = .ok (.int .i64 (IntKind.i64.wrap n)) w := by
        cases d <;> simp [convert, run_underlying hs', run_underlying hd, Conv.intToInt]
      exact ⟨_, w, ci, rfl, Ext.refl _⟩
    · rename_i x hd
      simp only [Option.some.injEq, Prod.mk.injEq] at h
      obtain ⟨hf, rfl⟩ := h
      obtain ⟨t, rfl, _⟩ := hu
      cases x with
      | none => cases hf
      | some r' =>
        obtain ⟨n, hn⟩ := Option.isSome_iff_exists.1 (show (floatToIntVal .f64 r' .i64).isSome = true from hf)
        refine ⟨_, w, run_convert_float_int w src dst .f64 .i64 r' n hs hd hn, ?_, Ext.refl _⟩
        show Value.int .i64 n = .int .i64 ((floatToIntVal .f64 r' .i64).getD 0)
        rw [hn]; rfl
    · cases h
  · cases h

end Go.Proofs.Ytlpahmefebgdlaa.Fx
