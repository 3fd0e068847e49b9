/- Contracts: orbits; TrueTurn, two ways; its law. No condition. -/
import Derived.Test.YtlpahmefebgdlaaEp
import Derived.Test.YtlpahmefebgdlaaCg
namespace Go.Proofs.Ytlpahmefebgdlaa.Fx
open Go Go.RowKit

def shA6 (g : F32 → F32 → F32 → F32 → F32 → F32 → Bool × AV) : List AV → List (List AC) → Option (Bool × AV)
  | [.agg [.fl .f32 x0, .fl .f32 x1, .fl .f32 x2, .fl .f32 x3, .fl .f32 x4, .fl .f32 x5]], _ => some (g x0 x1 x2 x3 x4 x5)
  | _, _ => none
theorem okA6 {P : Program} {E : List (Entry P)} {f : FuncId} {fn : Func} {g : F32 → F32 → F32 → F32 → F32 → F32 → Bool × AV} (hf : P.funcs[f]? = some fn) (hn : (fn.name == "runtime.NumGoroutine") = false)
    (h : ∀ (x0 x1 x2 x3 x4 x5 : F32), (g x0 x1 x2 x3 x4 x5).1 = true → run P E fn [.agg [.fl .f32 x0, .fl .f32 x1, .fl .f32 x2, .fl .f32 x3, .fl .f32 x4, .fl .f32 x5]] [] = some (g x0 x1 x2 x3 x4 x5).2) : EOk P f (shA6 g) := by
  intro args M r hr σ vs w _ ha
  unfold shA6 at hr
  split at hr
  · rename_i x0 x1 x2 x3 x4 x5
    have hr' := Option.some.inj hr
    have h1 := h x0 x1 x2 x3 x4 x5 (by rw [hr'])
    rw [hr'] at h1
    exact gives0 hf hn rfl h1 ha
  · cases hr
def shA6D (g : F32 → F32 → F32 → F32 → F32 → F32 → F64 → Bool × AV) : List AV → List (List AC) → Option (Bool × AV)
  | [.agg [.fl .f32 x0, .fl .f32 x1, .fl .f32 x2, .fl .f32 x3, .fl .f32 x4, .fl .f32 x5], .c (.fl .f64 m)], _ => some (g x0 x1 x2 x3 x4 x5 m)
  | _, _ => none
theorem okA6D {P : Program} {E : List (Entry P)} {f : FuncId} {fn : Func} {g : F32 → F32 → F32 → F32 → F32 → F32 → F64 → Bool × AV} (hf : P.funcs[f]? = some fn) (hn : (fn.name == "runtime.NumGoroutine") = false)
    (h : ∀ (x0 x1 x2 x3 x4 x5 : F32) (m : F64), (g x0 x1 x2 x3 x4 x5 m).1 = true → runO P E fn [.agg [.fl .f32 x0, .fl .f32 x1, .fl .f32 x2, .fl .f32 x3, .fl .f32 x4, .fl .f32 x5], .c (.fl .f64 m)] [] = some (g x0 x1 x2 x3 x4 x5 m).2) : EOk P f (shA6D g) := by
  intro args M r hr σ vs w _ ha
  unfold shA6D at hr
  split at hr
  · rename_i x0 x1 x2 x3 x4 x5 m
    have hr' := Option.some.inj hr
    have h1 := h x0 x1 x2 x3 x4 x5 m (by rw [hr'])
    rw [hr'] at h1
    exact gives0O hf hn rfl h1 ha
  · cases hr
def shP6 (g : F32 → F32 → F32 → F32 → F32 → F32 → Bool × AV) : List AV → List (List AC) → Option (Bool × AV)
  | [.c (.ptr id 0)], M => match M[id]? with
    | some [.fl .f32 x0, .fl .f32 x1, .fl .f32 x2, .fl .f32 x3, .fl .f32 x4, .fl .f32 x5] => some (g x0 x1 x2 x3 x4 x5)
    | _ => none
  | _, _ => none
theorem okP6 {P : Program} {E : List (Entry P)} {f : FuncId} {fn : Func} {g : F32 → F32 → F32 → F32 → F32 → F32 → Bool × AV} (hf : P.funcs[f]? = some fn) (hn : (fn.name == "runtime.NumGoroutine") = false)
    (h : ∀ (x0 x1 x2 x3 x4 x5 : F32), (g x0 x1 x2 x3 x4 x5).1 = true → runO P E fn [.c (.ptr 0 0)] [[.fl .f32 x0, .fl .f32 x1, .fl .f32 x2, .fl .f32 x3, .fl .f32 x4, .fl .f32 x5]] = some (g x0 x1 x2 x3 x4 x5).2) : EOk P f (shP6 g) := by
  intro args M r hr σ vs w hM ha
  unfold shP6 at hr
  split at hr
  · split at hr
    · rename_i id M x0 x1 x2 x3 x4 x5 hid
      have hr' := Option.some.inj hr
      have h1 := h x0 x1 x2 x3 x4 x5 (by rw [hr'])
      rw [hr'] at h1
      exact gives_ptr hf hn h1 rfl rfl hM hid ha
    · cases hr
  · cases hr
def shP6S (g : F32 → F32 → F32 → F32 → F32 → F32 → F32 → Bool × AV) : List AV → List (List AC) → Option (Bool × AV)
  | [.c (.ptr id 0), .c (.fl .f32 m)], M => match M[id]? with
    | some [.fl .f32 x0, .fl .f32 x1, .fl .f32 x2, .fl .f32 x3, .fl .f32 x4, .fl .f32 x5] => some (g x0 x1 x2 x3 x4 x5 m)
    | _ => none
  | _, _ => none
theorem okP6S {P : Program} {E : List (Entry P)} {f : FuncId} {fn : Func} {g : F32 → F32 → F32 → F32 → F32 → F32 → F32 → Bool × AV} (hf : P.funcs[f]? = some fn) (hn : (fn.name == "runtime.NumGoroutine") = false)
    (h : ∀ (x0 x1 x2 x3 x4 x5 : F32) (m : F32), (g x0 x1 x2 x3 x4 x5 m).1 = true → runO P E fn [.c (.ptr 0 0), .c (.fl .f32 m)] [[.fl .f32 x0, .fl .f32 x1, .fl .f32 x2, .fl .f32 x3, .fl .f32 x4, .fl .f32 x5]] = some (g x0 x1 x2 x3 x4 x5 m).2) : EOk P f (shP6S g) := by
  intro args M r hr σ vs w hM ha
  unfold shP6S at hr
  split at hr
  · split at hr
    · rename_i id m M x0 x1 x2 x3 x4 x5 hid
      have hr' := Option.some.inj hr
      have h1 := h x0 x1 x2 x3 x4 x5 m (by rw [hr'])
      rw [hr'] at h1
      exact gives_ptr hf hn h1 rfl rfl hM hid ha
    · cases hr
  · cases hr

-- x0 long, x1 round, x2 tilt, x3 node, x4 peri, x5 phase
def m16' : F32 := c32 3246391296
def p16' : F32 := c32 1098907648
def half32 : F32 := c32 1056964608
def isEll (x0 x1 _x2 _x3 _x4 x5 : F32) : Bool := gt x0 (c32 0) && (ge x1 (c32 0) && (lt x1 (c32 1065353216) && isTurn x5))
def isBra (x0 x1 _x2 _x3 _x4 x5 : F32) : Bool := lt x0 (c32 0) && (gt x1 (c32 1065353216) && (ge x5 m16' && le x5 p16'))
def orbI (x0 x1 x2 x3 x4 x5 : F32) : Bool := (!decide (idx6 x0 x1 x2 x3 x4 x5 ≥ 0)) && (ge x2 (c32 0) && (le x2 half32 && (isTurn x3 && (isTurn x4 && (isEll x0 x1 x2 x3 x4 x5 || isBra x0 x1 x2 x3 x4 x5)))))
def orbS (x0 x1 x2 x3 x4 x5 : F32) : Bool := finS x0 && (finS x1 && (ge x2 (c32 0) && (le x2 half32 && (isTurn x3 && (isTurn x4 &&
  bif gt x0 (c32 0) then ge x1 (c32 0) && (lt x1 (c32 1065353216) && isTurn x5) else lt x0 (c32 0) && (gt x1 (c32 1065353216) && (ge x5 m16' && le x5 p16')))))))
def Fa : Option AV := some (.c (.sb false))
theorem orbS_run (x0 x1 x2 x3 x4 x5 : F32) : runO Try.prog [sFinite, sTurn] Try.f131 [.c (.ptr 0 0)] [[.fl .f32 x0, .fl .f32 x1, .fl .f32 x2, .fl .f32 x3, .fl .f32 x4, .fl .f32 x5]] = some (.c (.sb (orbS x0 x1 x2 x3 x4 x5))) := by
  have h : runO Try.prog [sFinite, sTurn] Try.f131 [.c (.ptr 0 0)] [[.fl .f32 x0, .fl .f32 x1, .fl .f32 x2, .fl .f32 x3, .fl .f32 x4, .fl .f32 x5]] = bif !(finS x0) then Fa else bif !(finS x1) then Fa else bif ge x2 (c32 0) then (bif !(le x2 half32) then Fa else bif !(isTurn x3) then Fa else bif !(isTurn x4) then Fa else
    bif gt x0 (c32 0) then some (.c (.sb (ge x1 (c32 0) && (lt x1 (c32 1065353216) && isTurn x5)))) else some (.c (.sb (lt x0 (c32 0) && (gt x1 (c32 1065353216) && (ge x5 m16' && le x5 p16')))))) else Fa := by
    simp only [push_and]
    kernel_rfl
  rw [h]
  unfold orbS
  cases finS x0 <;> cases finS x1 <;> cases ge x2 (c32 0) <;> cases le x2 half32 <;> cases isTurn x3 <;> cases isTurn x4 <;> cases gt x0 (c32 0) <;> rfl
theorem fin_half : finS half32 = true := by kernel_rfl
theorem fin_m16 : finS m16' = true := by kernel_rfl
theorem fin_p16 : finS p16' = true := by kernel_rfl
theorem gt_lt (x y : F32) (h : gt x y = true) : lt x y = false := by
  unfold gt at h
  unfold lt
  cases ho : ord x y with
  | none => rfl
  | some c => rw [ho] at h; cases c <;> first | rfl | cases h
theorem orb_eq (x0 x1 x2 x3 x4 x5 : F32) : orbI x0 x1 x2 x3 x4 x5 = orbS x0 x1 x2 x3 x4 x5 := by
  unfold orbI orbS isEll isBra
  rw [idx6_eq]
  cases h0 : finS x0
  · rfl
  cases h1 : finS x1
  · rfl
  cases g1 : ge x2 (c32 0)
  · simp
  cases g2 : le x2 half32
  · simp
  cases h3 : isTurn x3
  · simp
  cases h4 : isTurn x4
  · simp
  rw [between fin0 fin_half g1 g2, isTurn_fin h3, isTurn_fin h4]
  have hph : isTurn x5 = true → finS x5 = true := isTurn_fin
  have hpb : ge x5 m16' = true → le x5 p16' = true → finS x5 = true := between fin_m16 fin_p16
  have hgl := gt_lt x0 (c32 0)
  revert hph hpb hgl
  cases finS x5 <;> cases gt x0 (c32 0) <;> cases lt x0 (c32 0) <;> cases ge x1 (c32 0) <;> cases lt x1 (c32 1065353216) <;> cases isTurn x5 <;> cases gt x1 (c32 1065353216) <;> cases ge x5 m16' <;> cases le x5 p16' <;> simp
def sl03Is : Entry Try.prog := { f := 131, fn := shP6 fun x0 x1 x2 x3 x4 x5 => rB (orbS x0 x1 x2 x3 x4 x5), ok := okP6 (E := [sFinite, sTurn]) Try.func131 (by kernel_rfl) fun x0 x1 x2 x3 x4 x5 _ => orbS_run x0 x1 x2 x3 x4 x5 }
-- the plane of an orbit
def rate (a m : F64) : F64 := sqrt (m / ((a * a) * a))
def sRate : Entry Try.prog := { f := 93, fn := shP6S fun x0 x1 x2 x3 x4 x5 m => rD (rate (fabs (widen x0)) (widen m)), ok := okP6S (E := [eAbs, eSqrt]) Try.func93 (by kernel_rfl) fun x0 x1 x2 x3 x4 x5 m _ => by kernel_rfl }
def sEllipse : Entry Try.prog := { f := 91, fn := shP6 fun x0 x1 x2 x3 x4 x5 => rB (gt x0 (c32 0)), ok := okP6 (E := []) Try.func91 (by kernel_rfl) fun x0 x1 x2 x3 x4 x5 _ => by kernel_rfl }
theorem exp_sum (x : F64) : expS x + expS (-x) = exponential x + exponential (-x) := by
  rcases ne_cases x with h | h
  · rcases ne_cases (-x) with h' | h'
    · rw [expS_num x h, expS_num _ h']
    · have e1 := nan_neg h'
      have e2 : exponential (-x) = nn := exp_nan h'
      rw [e2, add_none]
      have : expS (-x) = -x := by unfold expS ne; rw [(nan_gone h' _).2.2]; rfl
      rw [this]
      rcases h' with k | ⟨r, s, f, k, k2⟩
      · rw [k, add_none]
      · rw [k]
        generalize expS x = y
        cases y with
        | none => rfl
        | some q =>
          have e : (some q : Option Nat) = bx q := rfl
          rw [e, add_some, k2]
          cases Ieee.double.read q <;> rfl
  · have : expS x = x := by unfold expS ne; rw [(nan_gone h _).2.2]; rfl
    rw [this, exp_nan h, none_add]
    rcases h with rfl | ⟨r, s, f, rfl, k2⟩
    · rfl
    · generalize expS (-(bx r)) = y
      cases y with
      | none => rfl
      | some q =>
        have e : (some q : Option Nat) = bx q := rfl
        rw [e, add_some, k2]; rfl
theorem cosh_eq (x : F64) : coshS x = halfSum x := by
  unfold coshS halfSum
  rw [half_eq, exp_sum]

def plE (e a n : F64) (s c : F64) : List AC := [.fl .f64 (a * (c - e)), .fl .f64 ((a * sqrt (one - e * e)) * s), .fl .f64 (-(((a * n) * s) / (one - e * c))), .fl .f64 ((((a * n) * sqrt (one - e * e)) * c) / (one - e * c))]
def plB (e a n : F64) (s c : F64) : List AC := [.fl .f64 (a * (e - c)), .fl .f64 ((a * sqrt (e * e - one)) * s), .fl .f64 (-(((a * n) * s) / (e * c - one))), .fl .f64 ((((a * n) * sqrt (e * e - one)) * c) / (e * c - one))]
def pl (b : Bool) (i : Nat) (e a n p : F64) : F64 :=
  match (bif b then plE e a n (sine (swing e p)) (cosine (swing e p)) else plB e a n (halfDiff (lean e p)) (halfSum (lean e p)))[i]? with
  | some (.fl .f64 z) => z
  | _ => none
theorem push_t4 (c : Bool) (a0 a1 a2 a3 b0 b1 b2 b3 : F64) : some (AV.tup [.fl .f64 (bif c then a0 else b0), .fl .f64 (bif c then a1 else b1), .fl .f64 (bif c then a2 else b2), .fl .f64 (bif c then a3 else b3)]) = bif c then some (.tup [.fl .f64 a0, .fl .f64 a1, .fl .f64 a2, .fl .f64 a3]) else some (.tup [.fl .f64 b0, .fl .f64 b1, .fl .f64 b2, .fl .f64 b3]) := by cases c <;> rfl
def plU (x0 x1 _x2 _x3 _x4 x5 : F32) (i : Nat) : F64 := pl (gt x0 (c32 0)) i (widen x1) (fabs (widen x0)) (rate (fabs (widen x0)) one) (widen x5)
def ttA (x0 x1 x2 x3 x4 x5 : F32) : F64 := angleOf (plU x0 x1 x2 x3 x4 x5 1) (plU x0 x1 x2 x3 x4 x5 0)
theorem ttA_fits (x0 x1 x2 x3 x4 x5 : F32) : fits (ttA x0 x1 x2 x3 x4 x5) = true := by
  unfold ttA
  rcases angleOf_up (plU x0 x1 x2 x3 x4 x5 1) (plU x0 x1 x2 x3 x4 x5 0) with h | h
  · rw [h]; rfl
  · exact (h.mono (by decide)).narrow.1
def ttV (x0 x1 x2 x3 x4 x5 : F32) : F32 := bif orbS x0 x1 x2 x3 x4 x5 then giveV (narrow (ttA x0 x1 x2 x3 x4 x5)) else c32 0
def ttB (x0 x1 x2 x3 x4 x5 : F32) : Bool := bif orbS x0 x1 x2 x3 x4 x5 then giveB (narrow (ttA x0 x1 x2 x3 x4 x5)) else false
theorem widen_one : widen one32 = one := by kernel_rfl
theorem okA6O {P : Program} {E : List (Entry P)} {f : FuncId} {fn : Func} {g : F32 → F32 → F32 → F32 → F32 → F32 → Bool × AV} (hf : P.funcs[f]? = some fn) (hn : (fn.name == "runtime.NumGoroutine") = false)
    (h : ∀ (x0 x1 x2 x3 x4 x5 : F32), (g x0 x1 x2 x3 x4 x5).1 = true → runO P E fn [.agg [.fl .f32 x0, .fl .f32 x1, .fl .f32 x2, .fl .f32 x3, .fl .f32 x4, .fl .f32 x5]] [] = some (g x0 x1 x2 x3 x4 x5).2) : EOk P f (shA6 g) := by
  intro args M r hr σ vs w _ ha
  unfold shA6 at hr
  split at hr
  · rename_i x0 x1 x2 x3 x4 x5
    have hr' := Option.some.inj hr
    have h1 := h x0 x1 x2 x3 x4 x5 (by rw [hr'])
    rw [hr'] at h1
    exact gives0O hf hn rfl h1 ha
  · cases hr
end Go.Proofs.Ytlpahmefebgdlaa.Fx
