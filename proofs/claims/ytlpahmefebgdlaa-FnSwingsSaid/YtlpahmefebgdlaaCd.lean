/- Contracts: the spec's sine, bisections, slices of numbers. No condition. -/
import Derived.Test.YtlpahmefebgdlaaEl
import Derived.Test.YtlpahmefebgdlaaNv
import Derived.IntWalk
namespace Go.Proofs.Ytlpahmefebgdlaa.Fx
open Go Go.RowKit

-- the sine of the specification
def zz (f g : F64) : Option AV := bif ge f half then some (.c (.fl .f64 (-(sineOut g)))) else some (.c (.fl .f64 (sineOut g)))
def sr2 (f : F64) : Option AV := bif ge f half then (bif gt (f - half) quarter then zz f (half - (f - half)) else zz f (f - half)) else (bif gt f quarter then zz f (half - f) else zz f f)
theorem sr2_eq (f : F64) : sr2 f = some (.c (.fl .f64 (sineF f))) := by
  unfold sr2 sineF zz
  cases ge f half <;> cases gt (f - half) quarter <;> cases gt f quarter <;> rfl
-- bisections
def bis (g : F64 → Bool) : Nat → F64 × F64 → F64 × F64
  | 0, s => s
  | n + 1, s => bis g n (bif g ((s.1 + s.2) / two) then (s.1, (s.1 + s.2) / two) else ((s.1 + s.2) / two, s.2))

theorem goes_weaken {P : Program} {n0 : Nat} {w0 : Base} {c : Code} {F F' : List AV} {M M' : List (List AC)} {o : Out} (m : List Bool) (h : CodeGoes P n0 w0 c (weaken m F) M o F' M') : CodeGoes P n0 w0 c F M o F' M' :=
  fun σ a w hS Q hQ => h σ a w (hS.weaken m) Q hQ

theorem goes_of_exC {P : Program} {E : List (Entry P)} {n0 : Nat} (w0 : Base) {n : Nat} {c : Code} {F F' : List AV} {M M' : List (List AC)} {o : Out} {m : List Bool}
    (h : exC P E n0 n c F M (fun o F M => some (o, weaken m F, M)) = some (o, F', M')) : CodeGoes P n0 w0 c F M o F' M' := by
  obtain ⟨o1, F1, M1, hK, hg⟩ := (exC_sound w0 n).1 c F M _ _ h
  cases hK
  exact fun σ a w hS Q hQ => hg σ a w hS Q fun σ' a' w' hs => hQ σ' a' w' (hs.weaken m)

theorem wrap_small {i : Nat} (h : i < 1000) : IntKind.i64.wrap ((i : Int) + 1) = ((i + 1 : Nat) : Int) := by
  rw [Go.IntWalk.i64_in _ (by omega)]; rfl

/-- The loop of a function. -/
def loop0 (fn : Func) : Code := (loopsOf (fn.body.getD .skip)).headD .skip

theorem bis_goes {P : Program} {E : List (Entry P)} {w0 : Base} {n : Nat} {x : Code} {m : List Bool} {Fr : Int → F64 → F64 → List AV} {test : F64 → Bool} {N : Nat} (hN : N < 1000)
    (hr : ∀ (z : Int) (lo hi : F64), exC P E 0 n x (Fr z lo hi) [] (fun o F M => some (o, weaken m F, M)) =
      bif decide (z < (N : Int)) then (bif test ((lo + hi) / two) then some (.norm, Fr (IntKind.i64.wrap (z + 1)) lo ((lo + hi) / two), []) else some (.norm, Fr (IntKind.i64.wrap (z + 1)) ((lo + hi) / two) hi, []))
        else some (.exit 0, Fr z lo hi, [])) (lo hi : F64) :
    CodeGoes P 0 w0 (.loop x) (Fr 0 lo hi) [] (.exit 0) (Fr N (bis test N (lo, hi)).1 (bis test N (lo, hi)).2) [] := by
  have h := loop_goes (P := P) (n0 := 0) (w0 := w0) (x := x) (M := []) (α := F64 × F64) (fun i s => Fr (i : Int) s.1 s.2) (fun s => (.exit 0, Fr N s.1 s.2))
    (fun s => .inr (bif test ((s.1 + s.2) / two) then (s.1, (s.1 + s.2) / two) else ((s.1 + s.2) / two, s.2))) N ?_ ?_ N 0 (lo, hi) (by omega)
  · have e : ∀ (n : Nat) (s : F64 × F64), loopRes (fun s : F64 × F64 => ((.exit 0, Fr N s.1 s.2) : Out × List AV)) (fun s => .inr (bif test ((s.1 + s.2) / two) then (s.1, (s.1 + s.2) / two) else ((s.1 + s.2) / two, s.2))) n s = (.exit 0, Fr N (bis test n s).1 (bis test n s).2) := by
      intro n
      induction n with
      | zero => intro s; rfl
      | succ n ih => intro s; simp only [loopRes, bis]; exact ih _
    rw [e] at h
    exact h
  · intro s
    refine ⟨(by intro h; cases h), goes_of_exC w0 (m := m) (n := n) (E := E) ?_⟩
    rw [hr]
    have : decide ((N : Int) < (N : Int)) = false := by simp
    rw [this]; rfl
  · intro i s hi
    have h1 := hr (i : Int) s.1 s.2
    have : decide ((i : Int) < (N : Int)) = true := by simpa using hi
    rw [this, wrap_small (by omega)] at h1
    cases ht : test ((s.1 + s.2) / two) with
    | true => rw [ht] at h1; exact goes_of_exC w0 h1
    | false => rw [ht] at h1; exact goes_of_exC w0 h1

theorem okDDL {P : Program} {E : List (Entry P)} {f : FuncId} {fn : Func} {c : Code} {lp : List AV → List (List AC) → Option (Out × List AV × List (List AC))} {g : F64 → F64 → Bool × AV} (hf : P.funcs[f]? = some fn) (hn : (fn.name == "runtime.NumGoroutine") = false) (hb : fn.body = some c)
    (hl : ∀ w0, ∀ x ∈ loopsOf c, ∀ F M o F' M', lp F M = some (o, F', M') → CodeGoes P 0 w0 (.loop x) F M o F' M')
    (h : ∀ (x0 : F64) (x1 : F64), (g x0 x1).1 = true → runL P E lp fn [.c (.fl .f64 x0), .c (.fl .f64 x1)] = some (g x0 x1).2) :
    EOk P f (shDD g) := by
  intro args M r hr σ vs w _ ha
  unfold shDD at hr
  split at hr
  · rename_i x0 x1
    have hr' := Option.some.inj hr
    have h1 := h x0 x1 (by rw [hr'])
    rw [hr'] at h1
    exact gives_of_runL hf hn hb hl rfl h1 ha
  · cases hr

def swTest (e f c : F64) : Bool := gt (swingPhase e c) f
def swing (e x : F64) : F64 := (bis (swTest e (wrap x)) 50 (zero, one)).1
def leanTest (e f c : F64) : Bool := gt (e * halfDiff c - c) f
def leanTestS (e f c : F64) : Bool := gt (leanSizeS e c) f
def lean (e x : F64) : F64 := (bis (leanTest e (full * x)) 60 (mten, ten)).1
def leanS (e x : F64) : F64 := (bis (leanTestS e (full * x)) 60 (mten, ten)).1

def eSwingFr (e f : F64) (z : Int) (lo hi : F64) : List AV := [.c (.fl .f64 e), .c .any, .c .any, .c .any, .c .any, .c (.fl .f64 f), .c (.fl .f64 lo), .c (.fl .f64 hi), .c .any, .c .any, .c .any, .c (.val (.int .i64 z)), .c .any, .c .any, .c .any, .c .any, .c .any, .c .any, .c .any, .c .any, .c .any, .c .any, .c .any, .c .any, .c .any, .c .any]
def eSwingM : List Bool := [true, false, false, false, false, true, true, true, false, false, false, true, false, false, false, false, false, false, false, false, false, false, false, false, false, false]
def eSwingLp (F : List AV) (M : List (List AC)) : Option (Out × List AV × List (List AC)) :=
  match F, M with
  | [.c (.fl .f64 e), _, _, _, _, .c (.fl .f64 f), .c (.fl .f64 lo), .c (.fl .f64 hi), _, _, _, .c (.val (.int .i64 0)), _, _, _, _, _, _, _, _, _, _, _, _, _, _], [] => some (.exit 0, eSwingFr e f 50 (bis (swTest e f) 50 (lo, hi)).1 (bis (swTest e f) 50 (lo, hi)).2, [])
  | _, _ => none
theorem eSwing_round (e f lo hi : F64) (z : Int) : exC Try.prog [eWrap, ePhaseOfSwing] 0 400 (loop0 Try.f95) (eSwingFr e f z lo hi) [] (fun o F M => some (o, weaken eSwingM F, M)) =
    bif decide (z < 50) then (bif swTest e f ((lo + hi) / two) then some (.norm, eSwingFr e f (IntKind.i64.wrap (z + 1)) lo ((lo + hi) / two), []) else some (.norm, eSwingFr e f (IntKind.i64.wrap (z + 1)) ((lo + hi) / two) hi, []))
      else some (.exit 0, eSwingFr e f z lo hi, []) := by kernel_rfl
theorem eSwing_lp (w0 : Base) : ∀ x ∈ loopsOf (Try.f95.body.getD .skip), ∀ F M o F' M', eSwingLp F M = some (o, F', M') → CodeGoes Try.prog 0 w0 (.loop x) F M o F' M' := by
  intro x hx F M o F' M' h
  have hX : loopsOf (Try.f95.body.getD .skip) = [(loop0 Try.f95)] := by kernel_rfl
  rw [hX] at hx
  obtain rfl := List.mem_singleton.1 hx
  unfold eSwingLp at h
  split at h
  · rename_i e y1 y2 y3 y4 f lo hi y8 y9 y10 y12 y13 y14 y15 y16 y17 y18 y19 y20 y21 y22 y23 y24 y25
    cases h
    refine goes_weaken eSwingM ?_
    exact bis_goes (Fr := eSwingFr e f) (test := swTest e f) (N := 50) (by decide) (fun z lo hi => eSwing_round e f lo hi z) lo hi
  · cases h
theorem eSwing_run (e x : F64) : runL Try.prog [eWrap, ePhaseOfSwing] eSwingLp Try.f95 [.c (.fl .f64 e), .c (.fl .f64 x)] = some (.c (.fl .f64 (swing e x))) := by kernel_rfl
def eSwing : Entry Try.prog := { f := 95, fn := shDD fun e x => rD (swing e x), ok := okDDL Try.func95 (by kernel_rfl) (by kernel_rfl) eSwing_lp fun e x _ => eSwing_run e x }

def sSwingFr (e f : F64) (z : Int) (lo hi : F64) : List AV := [.c (.fl .f64 e), .c .any, .c .any, .c .any, .c .any, .c (.fl .f64 f), .c (.fl .f64 lo), .c (.fl .f64 hi), .c (.val (.int .i64 z)), .c .any, .c .any, .c .any, .c .any, .c .any, .c .any, .c .any, .c .any, .c .any, .c .any, .c .any, .c .any, .c .any, .c .any, .c .any, .c .any, .c .any, .c .any, .c .any]
def sSwingM : List Bool := [true, false, false, false, false, true, true, true, true, false, false, false, false, false, false, false, false, false, false, false, false, false, false, false, false, false, false, false]
def sSwingLp (F : List AV) (M : List (List AC)) : Option (Out × List AV × List (List AC)) :=
  match F, M with
  | [.c (.fl .f64 e), _, _, _, _, .c (.fl .f64 f), .c (.fl .f64 lo), .c (.fl .f64 hi), .c (.val (.int .i64 0)), _, _, _, _, _, _, _, _, _, _, _, _, _, _, _, _, _, _, _], [] => some (.exit 0, sSwingFr e f 50 (bis (swTest e f) 50 (lo, hi)).1 (bis (swTest e f) 50 (lo, hi)).2, [])
  | _, _ => none
def eLeanFr (e f : F64) (z : Int) (lo hi : F64) : List AV := [.c (.fl .f64 e), .c .any, .c .any, .c .any, .c .any, .c (.fl .f64 f), .c (.fl .f64 lo), .c (.fl .f64 hi), .c .any, .c .any, .c .any, .c (.val (.int .i64 z)), .c .any, .c .any, .c .any, .c .any, .c .any, .c .any, .c .any, .c .any, .c .any, .c .any, .c .any, .c .any, .c .any, .c .any, .c .any, .c .any, .c .any]
def eLeanM : List Bool := [true, false, false, false, false, true, true, true, false, false, false, true, false, false, false, false, false, false, false, false, false, false, false, false, false, false, false, false, false]
def eLeanLp (F : List AV) (M : List (List AC)) : Option (Out × List AV × List (List AC)) :=
  match F, M with
  | [.c (.fl .f64 e), _, _, _, _, .c (.fl .f64 f), .c (.fl .f64 lo), .c (.fl .f64 hi), _, _, _, .c (.val (.int .i64 0)), _, _, _, _, _, _, _, _, _, _, _, _, _, _, _, _, _], [] => some (.exit 0, eLeanFr e f 60 (bis (leanTest e f) 60 (lo, hi)).1 (bis (leanTest e f) 60 (lo, hi)).2, [])
  | _, _ => none
theorem eLean_round (e f lo hi : F64) (z : Int) : exC Try.prog [eHalfDiff] 0 400 (loop0 Try.f97) (eLeanFr e f z lo hi) [] (fun o F M => some (o, weaken eLeanM F, M)) =
    bif decide (z < 60) then (bif leanTest e f ((lo + hi) / two) then some (.norm, eLeanFr e f (IntKind.i64.wrap (z + 1)) lo ((lo + hi) / two), []) else some (.norm, eLeanFr e f (IntKind.i64.wrap (z + 1)) ((lo + hi) / two) hi, []))
      else some (.exit 0, eLeanFr e f z lo hi, []) := by kernel_rfl
theorem eLean_lp (w0 : Base) : ∀ x ∈ loopsOf (Try.f97.body.getD .skip), ∀ F M o F' M', eLeanLp F M = some (o, F', M') → CodeGoes Try.prog 0 w0 (.loop x) F M o F' M' := by
  intro x hx F M o F' M' h
  have hX : loopsOf (Try.f97.body.getD .skip) = [(loop0 Try.f97)] := by kernel_rfl
  rw [hX] at hx
  obtain rfl := List.mem_singleton.1 hx
  unfold eLeanLp at h
  split at h
  · rename_i e y1 y2 y3 y4 f lo hi y8 y9 y10 y12 y13 y14 y15 y16 y17 y18 y19 y20 y21 y22 y23 y24 y25 y26 y27 y28
    cases h
    refine goes_weaken eLeanM ?_
    exact bis_goes (Fr := eLeanFr e f) (test := leanTest e f) (N := 60) (by decide) (fun z lo hi => eLean_round e f lo hi z) lo hi
  · cases h
theorem eLean_run (e x : F64) : runL Try.prog [eHalfDiff] eLeanLp Try.f97 [.c (.fl .f64 e), .c (.fl .f64 x)] = some (.c (.fl .f64 (lean e x))) := by kernel_rfl
def eLean : Entry Try.prog := { f := 97, fn := shDD fun e x => rD (lean e x), ok := okDDL Try.func97 (by kernel_rfl) (by kernel_rfl) eLean_lp fun e x _ => eLean_run e x }

def sLeanFr (e f : F64) (z : Int) (lo hi : F64) : List AV := [.c (.fl .f64 e), .c .any, .c .any, .c .any, .c .any, .c (.fl .f64 f), .c (.fl .f64 lo), .c (.fl .f64 hi), .c (.val (.int .i64 z)), .c .any, .c .any, .c .any, .c .any, .c .any, .c .any, .c .any, .c .any, .c .any, .c .any, .c .any, .c .any, .c .any, .c .any, .c .any, .c .any, .c .any, .c .any, .c .any]
def sLeanM : List Bool := [true, false, false, false, false, true, true, true, true, false, false, false, false, false, false, false, false, false, false, false, false, false, false, false, false, false, false, false]
def sLeanLp (F : List AV) (M : List (List AC)) : Option (Out × List AV × List (List AC)) :=
  match F, M with
  | [.c (.fl .f64 e), _, _, _, _, .c (.fl .f64 f), .c (.fl .f64 lo), .c (.fl .f64 hi), .c (.val (.int .i64 0)), _, _, _, _, _, _, _, _, _, _, _, _, _, _, _, _, _, _, _], [] => some (.exit 0, sLeanFr e f 60 (bis (leanTestS e f) 60 (lo, hi)).1 (bis (leanTestS e f) 60 (lo, hi)).2, [])
  | _, _ => none
end Go.Proofs.Ytlpahmefebgdlaa.Fx
