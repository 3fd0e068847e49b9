/- Texts put together: Cd, Ce, Nw, Cf, Nx, Cg, Ch, Ck. No condition. -/
import Derived.Test.YtlpahmefebgdlaaQb
import Derived.Test.YtlpahmefebgdlaaQc
import Derived.IntWalk
/- Contracts: the spec's sine, bisections, slices of numbers. No condition. -/
namespace Go.Proofs.Ytlpahmefebgdlaa.Fx
open Go Go.RowKit

-- the sine of the specification
def zz (f g : F64) : Option AV := bif ge f half then some (.c (.fl .f64 (-(sineOut g)))) else some (.c (.fl .f64 (sineOut g)))
def sr2 (f : F64) : Option AV := bif ge f half then (bif gt (f - half) quarter then zz f (half - (f - half)) else zz f (f - half)) else (bif gt f quarter then zz f (half - f) else zz f f)
theorem sr2_eq (f : F64) : sr2 f = some (.c (.fl .f64 (sineF f))) := by
  unfold sr2 sineF zz
  cases ge f half <;> cases gt (f - half) quarter <;> cases gt f quarter <;> rfl
-- bisections
def bis (g : F64 → Bool) : Nat → F64 × F64 → F64 × F64
  | 0, s => s
  | n + 1, s => bis g n (bif g ((s.1 + s.2) / two) then (s.1, (s.1 + s.2) / two) else ((s.1 + s.2) / two, s.2))

theorem goes_weaken {P : Program} {n0 : Nat} {w0 : Base} {c : Code} {F F' : List AV} {M M' : List (List AC)} {o : Out} (m : List Bool) (h : CodeGoes P n0 w0 c (weaken m F) M o F' M') : CodeGoes P n0 w0 c F M o F' M' :=
  fun σ a w hS Q hQ => h σ a w (hS.weaken m) Q hQ

theorem goes_of_exC {P : Program} {E : List (Entry P)} {n0 : Nat} (w0 : Base) {n : Nat} {c : Code} {F F' : List AV} {M M' : List (List AC)} {o : Out} {m : List Bool}
    (h : exC P E n0 n c F M (fun o F M => some (o, weaken m F, M)) = some (o, F', M')) : CodeGoes P n0 w0 c F M o F' M' := by
  obtain ⟨o1, F1, M1, hK, hg⟩ := (exC_sound w0 n).1 c F M _ _ h
  cases hK
  exact fun σ a w hS Q hQ => hg σ a w hS Q fun σ' a' w' hs => hQ σ' a' w' (hs.weaken m)

theorem wrap_small {i : Nat} (h : i < 1000) : IntKind.i64.wrap ((i : Int) + 1) = ((i + 1 : Nat) : Int) := by
  rw [Go.IntWalk.i64_in _ (by omega)]; rfl

/-- The loop of a function. -/
def loop0 (fn : Func) : Code := (loopsOf (fn.body.getD .skip)).headD .skip

theorem bis_goes {P : Program} {E : List (Entry P)} {w0 : Base} {n : Nat} {x : Code} {m : List Bool} {Fr : Int → F64 → F64 → List AV} {test : F64 → Bool} {N : Nat} (hN : N < 1000)
    (hr : ∀ (z : Int) (lo hi : F64), exC P E 0 n x (Fr z lo hi) [] (fun o F M => some (o, weaken m F, M)) =
      bif decide (z < (N : Int)) then (bif test ((lo + hi) / two) then some (.norm, Fr (IntKind.i64.wrap (z + 1)) lo ((lo + hi) / two), []) else some (.norm, Fr (IntKind.i64.wrap (z + 1)) ((lo + hi) / two) hi, []))
        else some (.exit 0, Fr z lo hi, [])) (lo hi : F64) :
    CodeGoes P 0 w0 (.loop x) (Fr 0 lo hi) [] (.exit 0) (Fr N (bis test N (lo, hi)).1 (bis test N (lo, hi)).2) [] := by
  have h := loop_goes (P := P) (n0 := 0) (w0 := w0) (x := x) (M := []) (α := F64 × F64) (fun i s => Fr (i : Int) s.1 s.2) (fun s => (.exit 0, Fr N s.1 s.2))
    (fun s => .inr (bif test ((s.1 + s.2) / two) then (s.1, (s.1 + s.2) / two) else ((s.1 + s.2) / two, s.2))) N ?_ ?_ N 0 (lo, hi) (by omega)
  · have e : ∀ (n : Nat) (s : F64 × F64), loopRes (fun s : F64 × F64 => ((.exit 0, Fr N s.1 s.2) : Out × List AV)) (fun s => .inr (bif test ((s.1 + s.2) / two) then (s.1, (s.1 + s.2) / two) else ((s.1 + s.2) / two, s.2))) n s = (.exit 0, Fr N (bis test n s).1 (bis test n s).2) := by
      intro n
      induction n with
      | zero => intro s; rfl
      | succ n ih => intro s; simp only [loopRes, bis]; exact ih _
    rw [e] at h
    exact h
  · intro s
    refine ⟨(by intro h; cases h), goes_of_exC w0 (m := m) (n := n) (E := E) ?_⟩
    rw [hr]
    have : decide ((N : Int) < (N : Int)) = false := by simp
    rw [this]; rfl
  · intro i s hi
    have h1 := hr (i : Int) s.1 s.2
    have : decide ((i : Int) < (N : Int)) = true := by simpa using hi
    rw [this, wrap_small (by omega)] at h1
    cases ht : test ((s.1 + s.2) / two) with
    | true => rw [ht] at h1; exact goes_of_exC w0 h1
    | false => rw [ht] at h1; exact goes_of_exC w0 h1

theorem okDDL {P : Program} {E : List (Entry P)} {f : FuncId} {fn : Func} {c : Code} {lp : List AV → List (List AC) → Option (Out × List AV × List (List AC))} {g : F64 → F64 → Bool × AV} (hf : P.funcs[f]? = some fn) (hn : (fn.name == "runtime.NumGoroutine") = false) (hb : fn.body = some c)
    (hl : ∀ w0, ∀ x ∈ loopsOf c, ∀ F M o F' M', lp F M = some (o, F', M') → CodeGoes P 0 w0 (.loop x) F M o F' M')
    (h : ∀ (x0 : F64) (x1 : F64), (g x0 x1).1 = true → runL P E lp fn [.c (.fl .f64 x0), .c (.fl .f64 x1)] = some (g x0 x1).2) :
    EOk P f (shDD g) := by
  intro args M r hr σ vs w _ ha
  unfold shDD at hr
  split at hr
  · rename_i x0 x1
    have hr' := Option.some.inj hr
    have h1 := h x0 x1 (by rw [hr'])
    rw [hr'] at h1
    exact gives_of_runL hf hn hb hl rfl h1 ha
  · cases hr

def swTest (e f c : F64) : Bool := gt (swingPhase e c) f
def swing (e x : F64) : F64 := (bis (swTest e (wrap x)) 50 (zero, one)).1
def leanTest (e f c : F64) : Bool := gt (e * halfDiff c - c) f
def leanTestS (e f c : F64) : Bool := gt (leanSizeS e c) f
def lean (e x : F64) : F64 := (bis (leanTest e (full * x)) 60 (mten, ten)).1
def leanS (e x : F64) : F64 := (bis (leanTestS e (full * x)) 60 (mten, ten)).1

def eSwingFr (e f : F64) (z : Int) (lo hi : F64) : List AV := [.c (.fl .f64 e), .c .any, .c .any, .c .any, .c .any, .c (.fl .f64 f), .c (.fl .f64 lo), .c (.fl .f64 hi), .c .any, .c .any, .c .any, .c (.val (.int .i64 z)), .c .any, .c .any, .c .any, .c .any, .c .any, .c .any, .c .any, .c .any, .c .any, .c .any, .c .any, .c .any, .c .any, .c .any]
def eSwingM : List Bool := [true, false, false, false, false, true, true, true, false, false, false, true, false, false, false, false, false, false, false, false, false, false, false, false, false, false]
def eSwingLp (F : List AV) (M : List (List AC)) : Option (Out × List AV × List (List AC)) :=
  match F, M with
  | [.c (.fl .f64 e), _, _, _, _, .c (.fl .f64 f), .c (.fl .f64 lo), .c (.fl .f64 hi), _, _, _, .c (.val (.int .i64 0)), _, _, _, _, _, _, _, _, _, _, _, _, _, _], [] => some (.exit 0, eSwingFr e f 50 (bis (swTest e f) 50 (lo, hi)).1 (bis (swTest e f) 50 (lo, hi)).2, [])
  | _, _ => none
theorem eSwing_round (e f lo hi : F64) (z : Int) : exC Try.prog [eWrap, ePhaseOfSwing] 0 400 (loop0 Try.f95) (eSwingFr e f z lo hi) [] (fun o F M => some (o, weaken eSwingM F, M)) =
    bif decide (z < 50) then (bif swTest e f ((lo + hi) / two) then some (.norm, eSwingFr e f (IntKind.i64.wrap (z + 1)) lo ((lo + hi) / two), []) else some (.norm, eSwingFr e f (IntKind.i64.wrap (z + 1)) ((lo + hi) / two) hi, []))
      else some (.exit 0, eSwingFr e f z lo hi, []) := by kernel_rfl
theorem eSwing_lp (w0 : Base) : ∀ x ∈ loopsOf (Try.f95.body.getD .skip), ∀ F M o F' M', eSwingLp F M = some (o, F', M') → CodeGoes Try.prog 0 w0 (.loop x) F M o F' M' := by
  intro x hx F M o F' M' h
  have hX : loopsOf (Try.f95.body.getD .skip) = [(loop0 Try.f95)] := by kernel_rfl
  rw [hX] at hx
  obtain rfl := List.mem_singleton.1 hx
  unfold eSwingLp at h
  split at h
  · rename_i e y1 y2 y3 y4 f lo hi y8 y9 y10 y12 y13 y14 y15 y16 y17 y18 y19 y20 y21 y22 y23 y24 y25
    cases h
    refine goes_weaken eSwingM ?_
    exact bis_goes (Fr := eSwingFr e f) (test := swTest e f) (N := 50) (by decide) (fun z lo hi => eSwing_round e f lo hi z) lo hi
  · cases h
theorem eSwing_run (e x : F64) : runL Try.prog [eWrap, ePhaseOfSwing] eSwingLp Try.f95 [.c (.fl .f64 e), .c (.fl .f64 x)] = some (.c (.fl .f64 (swing e x))) := by kernel_rfl
def eSwing : Entry Try.prog := { f := 95, fn := shDD fun e x => rD (swing e x), ok := okDDL Try.func95 (by kernel_rfl) (by kernel_rfl) eSwing_lp fun e x _ => eSwing_run e x }

def sSwingFr (e f : F64) (z : Int) (lo hi : F64) : List AV := [.c (.fl .f64 e), .c .any, .c .any, .c .any, .c .any, .c (.fl .f64 f), .c (.fl .f64 lo), .c (.fl .f64 hi), .c (.val (.int .i64 z)), .c .any, .c .any, .c .any, .c .any, .c .any, .c .any, .c .any, .c .any, .c .any, .c .any, .c .any, .c .any, .c .any, .c .any, .c .any, .c .any, .c .any, .c .any, .c .any]
def sSwingM : List Bool := [true, false, false, false, false, true, true, true, true, false, false, false, false, false, false, false, false, false, false, false, false, false, false, false, false, false, false, false]
def sSwingLp (F : List AV) (M : List (List AC)) : Option (Out × List AV × List (List AC)) :=
  match F, M with
  | [.c (.fl .f64 e), _, _, _, _, .c (.fl .f64 f), .c (.fl .f64 lo), .c (.fl .f64 hi), .c (.val (.int .i64 0)), _, _, _, _, _, _, _, _, _, _, _, _, _, _, _, _, _, _, _], [] => some (.exit 0, sSwingFr e f 50 (bis (swTest e f) 50 (lo, hi)).1 (bis (swTest e f) 50 (lo, hi)).2, [])
  | _, _ => none
def eLeanFr (e f : F64) (z : Int) (lo hi : F64) : List AV := [.c (.fl .f64 e), .c .any, .c .any, .c .any, .c .any, .c (.fl .f64 f), .c (.fl .f64 lo), .c (.fl .f64 hi), .c .any, .c .any, .c .any, .c (.val (.int .i64 z)), .c .any, .c .any, .c .any, .c .any, .c .any, .c .any, .c .any, .c .any, .c .any, .c .any, .c .any, .c .any, .c .any, .c .any, .c .any, .c .any, .c .any]
def eLeanM : List Bool := [true, false, false, false, false, true, true, true, false, false, false, true, false, false, false, false, false, false, false, false, false, false, false, false, false, false, false, false, false]
def eLeanLp (F : List AV) (M : List (List AC)) : Option (Out × List AV × List (List AC)) :=
  match F, M with
  | [.c (.fl .f64 e), _, _, _, _, .c (.fl .f64 f), .c (.fl .f64 lo), .c (.fl .f64 hi), _, _, _, .c (.val (.int .i64 0)), _, _, _, _, _, _, _, _, _, _, _, _, _, _, _, _, _], [] => some (.exit 0, eLeanFr e f 60 (bis (leanTest e f) 60 (lo, hi)).1 (bis (leanTest e f) 60 (lo, hi)).2, [])
  | _, _ => none
theorem eLean_round (e f lo hi : F64) (z : Int) : exC Try.prog [eHalfDiff] 0 400 (loop0 Try.f97) (eLeanFr e f z lo hi) [] (fun o F M => some (o, weaken eLeanM F, M)) =
    bif decide (z < 60) then (bif leanTest e f ((lo + hi) / two) then some (.norm, eLeanFr e f (IntKind.i64.wrap (z + 1)) lo ((lo + hi) / two), []) else some (.norm, eLeanFr e f (IntKind.i64.wrap (z + 1)) ((lo + hi) / two) hi, []))
      else some (.exit 0, eLeanFr e f z lo hi, []) := by kernel_rfl
theorem eLean_lp (w0 : Base) : ∀ x ∈ loopsOf (Try.f97.body.getD .skip), ∀ F M o F' M', eLeanLp F M = some (o, F', M') → CodeGoes Try.prog 0 w0 (.loop x) F M o F' M' := by
  intro x hx F M o F' M' h
  have hX : loopsOf (Try.f97.body.getD .skip) = [(loop0 Try.f97)] := by kernel_rfl
  rw [hX] at hx
  obtain rfl := List.mem_singleton.1 hx
  unfold eLeanLp at h
  split at h
  · rename_i e y1 y2 y3 y4 f lo hi y8 y9 y10 y12 y13 y14 y15 y16 y17 y18 y19 y20 y21 y22 y23 y24 y25 y26 y27 y28
    cases h
    refine goes_weaken eLeanM ?_
    exact bis_goes (Fr := eLeanFr e f) (test := leanTest e f) (N := 60) (by decide) (fun z lo hi => eLean_round e f lo hi z) lo hi
  · cases h
theorem eLean_run (e x : F64) : runL Try.prog [eHalfDiff] eLeanLp Try.f97 [.c (.fl .f64 e), .c (.fl .f64 x)] = some (.c (.fl .f64 (lean e x))) := by kernel_rfl
def eLean : Entry Try.prog := { f := 97, fn := shDD fun e x => rD (lean e x), ok := okDDL Try.func97 (by kernel_rfl) (by kernel_rfl) eLean_lp fun e x _ => eLean_run e x }

def sLeanFr (e f : F64) (z : Int) (lo hi : F64) : List AV := [.c (.fl .f64 e), .c .any, .c .any, .c .any, .c .any, .c (.fl .f64 f), .c (.fl .f64 lo), .c (.fl .f64 hi), .c (.val (.int .i64 z)), .c .any, .c .any, .c .any, .c .any, .c .any, .c .any, .c .any, .c .any, .c .any, .c .any, .c .any, .c .any, .c .any, .c .any, .c .any, .c .any, .c .any, .c .any, .c .any]
def sLeanM : List Bool := [true, false, false, false, false, true, true, true, true, false, false, false, false, false, false, false, false, false, false, false, false, false, false, false, false, false, false, false]
def sLeanLp (F : List AV) (M : List (List AC)) : Option (Out × List AV × List (List AC)) :=
  match F, M with
  | [.c (.fl .f64 e), _, _, _, _, .c (.fl .f64 f), .c (.fl .f64 lo), .c (.fl .f64 hi), .c (.val (.int .i64 0)), _, _, _, _, _, _, _, _, _, _, _, _, _, _, _, _, _, _, _], [] => some (.exit 0, sLeanFr e f 60 (bis (leanTestS e f) 60 (lo, hi)).1 (bis (leanTestS e f) 60 (lo, hi)).2, [])
  | _, _ => none
end Go.Proofs.Ytlpahmefebgdlaa.Fx
/- Contracts: functions over slices of a few numbers. No condition. -/
namespace Go.Proofs.Ytlpahmefebgdlaa.Fx
open Go Go.RowKit

/-- An entry's proof, for one slice and arguments without pointers. -/
theorem gives_slc {P : Program} {E : List (Entry P)} {f : FuncId} {fn : Func} (hf : P.funcs[f]? = some fn) (hn : (fn.name == "runtime.NumGoroutine") = false) {cs : List AC} {n : Nat} {rest : List AV} {r : AV}
    (h : run P E fn (.c (.slc 0 n) :: rest) [cs] = some r) (hp : rest.all plainA = true) (hc : cs.all plainC = true) {σ : List (Nat × Nat)} {M : List (List AC)} {id : Nat} {vs : List Value} {w : World}
    (hM : MemOk σ M w) (hid : M[id]? = some cs) (ha : RepF σ (.c (.slc id n) :: rest) vs) : Gives P f vs.toArray w fun v w' => Rep σ r v ∧ Ext w w' := by
  have hr := run_plain h
  cases ha with
  | cons h1 h2 =>
    obtain ⟨b, hb, hle, hv⟩ := h1
    have hM' : MemOk [b] [cs] w := ⟨rfl, by simp, fun i b' cs' hb' hc' => by
      cases i with
      | zero =>
        cases hb'; cases hc'
        obtain ⟨vs, e, hw, ⟨k, hl⟩, hs⟩ := hM.at_ id b cs hb hid
        exact ⟨vs, e, hw, ⟨k, plainL_rep (by simp [hc]; right; rfl) hl⟩, hs⟩
      | succ i => cases hb'⟩
    have ha' : RepF [b] (.c (.slc 0 n) :: rest) _ := .cons ⟨b, rfl, hle, hv⟩ (plainF hp h2)
    rcases gives_of_run hf hn h hM' ha' with ⟨v, w', h3, h4, h5⟩ | ⟨h3, h4⟩
    · exact .inl ⟨v, w', h3, plain_rep hr h4, h5⟩
    · exact .inr ⟨h3, h4.mono fun e w' ⟨v, he, hv, hw⟩ => ⟨v, he, plain_rep hr hv, hw⟩⟩

theorem push_int (c : Bool) (a b : Int) : some (AV.c (.val (.int .i64 (bif c then a else b)))) = bif c then some (.c (.val (.int .i64 a))) else some (.c (.val (.int .i64 b))) := by cases c <;> rfl
def eShut : Entry Try.prog := { f := 118, fn := shS fun x => rB (!(isFinite x)), ok := okS (E := [eIsFinite]) Try.func118 (by kernel_rfl) fun x _ => by kernel_rfl }
def theShut : AV := .c (.val (.func (.func 118) #[] #[]))

-- 2 numbers
def shL2 (g : F32 → F32 → Bool × AV) : List AV → List (List AC) → Option (Bool × AV)
  | [.c (.slc id 2)], M => match M[id]? with
    | some [.fl .f32 x0, .fl .f32 x1] => some (g x0 x1)
    | _ => none
  | _, _ => none
theorem okL2 {P : Program} {E : List (Entry P)} {f : FuncId} {fn : Func} {g : F32 → F32 → Bool × AV} (hf : P.funcs[f]? = some fn) (hn : (fn.name == "runtime.NumGoroutine") = false)
    (h : ∀ (x0 x1 : F32), (g x0 x1).1 = true → run P E fn [.c (.slc 0 2)] [[.fl .f32 x0, .fl .f32 x1]] = some (g x0 x1).2) : EOk P f (shL2 g) := by
  intro args M r hr σ vs w hM ha
  unfold shL2 at hr
  split at hr
  · split at hr
    · rename_i id M x0 x1 hid
      have hr' := Option.some.inj hr
      have h1 := h x0 x1 (by rw [hr'])
      rw [hr'] at h1
      exact gives_slc hf hn h1 rfl rfl hM hid ha
    · cases hr
  · cases hr
def shLF2 (g : F32 → F32 → Bool × AV) : List AV → List (List AC) → Option (Bool × AV)
  | [.c (.slc id 2), .c (.val (.func (.func 118) ⟨[]⟩ ⟨[]⟩))], M => match M[id]? with
    | some [.fl .f32 x0, .fl .f32 x1] => some (g x0 x1)
    | _ => none
  | _, _ => none
theorem okLF2 {P : Program} {E : List (Entry P)} {f : FuncId} {fn : Func} {g : F32 → F32 → Bool × AV} (hf : P.funcs[f]? = some fn) (hn : (fn.name == "runtime.NumGoroutine") = false)
    (h : ∀ (x0 x1 : F32), (g x0 x1).1 = true → run P E fn [.c (.slc 0 2), theShut] [[.fl .f32 x0, .fl .f32 x1]] = some (g x0 x1).2) : EOk P f (shLF2 g) := by
  intro args M r hr σ vs w hM ha
  unfold shLF2 at hr
  split at hr
  · split at hr
    · rename_i id M x0 x1 hid
      have hr' := Option.some.inj hr
      have h1 := h x0 x1 (by rw [hr'])
      rw [hr'] at h1
      exact gives_slc hf hn h1 rfl rfl hM hid ha
    · cases hr
  · cases hr
def idx2 (x0 x1 : F32) : Int := (bif !(isFinite x0) then 0 else bif !(isFinite x1) then 1 else -1)
def eIndex2 : Entry Try.prog := { f := 139, fn := shLF2 fun x0 x1 => (true, .c (.val (.int .i64 (idx2 x0 x1)))), ok := okLF2 (E := [eShut]) Try.func139 (by kernel_rfl) fun x0 x1 _ => by show _ = some (AV.c (.val (.int .i64 (idx2 x0 x1)))); unfold idx2; simp only [push_int]; kernel_rfl }
def eContains2 : Entry Try.prog := { f := 117, fn := shLF2 fun x0 x1 => rB (decide (idx2 x0 x1 ≥ 0)), ok := okLF2 (E := [eIndex2]) Try.func117 (by kernel_rfl) fun x0 x1 _ => by kernel_rfl }
def eAreFinite2 : Entry Try.prog := { f := 73, fn := shL2 fun x0 x1 => rB (!decide (idx2 x0 x1 ≥ 0)), ok := okL2 (E := [eContains2]) Try.func73 (by kernel_rfl) fun x0 x1 _ => by kernel_rfl }
theorem idx2_eq (x0 x1 : F32) : (!decide (idx2 x0 x1 ≥ 0)) = (finS x0 && finS x1) := by
  unfold idx2
  simp only [fin_eq]
  cases finS x0 <;> cases finS x1 <;> rfl
theorem eAreLengths2_run (x0 x1 : F32) : run Try.prog [eALength] Try.f75 [.c (.slc 0 2)] [[.fl .f32 x0, .fl .f32 x1]] = some (.c (.sb (aLength x0 && aLength x1))) := by
  have h : run Try.prog [eALength] Try.f75 [.c (.slc 0 2)] [[.fl .f32 x0, .fl .f32 x1]] = bif !(aLength x0) then some (.c (.sb false)) else bif !(aLength x1) then some (.c (.sb false)) else some (.c (.sb true)) := by kernel_rfl
  rw [h]
  cases aLength x0 <;> cases aLength x1 <;> rfl
def eAreLengths2 : Entry Try.prog := { f := 75, fn := shL2 fun x0 x1 => rB (aLength x0 && aLength x1), ok := okL2 (E := [eALength]) Try.func75 (by kernel_rfl) fun x0 x1 _ => eAreLengths2_run x0 x1 }
-- 3 numbers
def shL3 (g : F32 → F32 → F32 → Bool × AV) : List AV → List (List AC) → Option (Bool × AV)
  | [.c (.slc id 3)], M => match M[id]? with
    | some [.fl .f32 x0, .fl .f32 x1, .fl .f32 x2] => some (g x0 x1 x2)
    | _ => none
  | _, _ => none
theorem okL3 {P : Program} {E : List (Entry P)} {f : FuncId} {fn : Func} {g : F32 → F32 → F32 → Bool × AV} (hf : P.funcs[f]? = some fn) (hn : (fn.name == "runtime.NumGoroutine") = false)
    (h : ∀ (x0 x1 x2 : F32), (g x0 x1 x2).1 = true → run P E fn [.c (.slc 0 3)] [[.fl .f32 x0, .fl .f32 x1, .fl .f32 x2]] = some (g x0 x1 x2).2) : EOk P f (shL3 g) := by
  intro args M r hr σ vs w hM ha
  unfold shL3 at hr
  split at hr
  · split at hr
    · rename_i id M x0 x1 x2 hid
      have hr' := Option.some.inj hr
      have h1 := h x0 x1 x2 (by rw [hr'])
      rw [hr'] at h1
      exact gives_slc hf hn h1 rfl rfl hM hid ha
    · cases hr
  · cases hr
def shLF3 (g : F32 → F32 → F32 → Bool × AV) : List AV → List (List AC) → Option (Bool × AV)
  | [.c (.slc id 3), .c (.val (.func (.func 118) ⟨[]⟩ ⟨[]⟩))], M => match M[id]? with
    | some [.fl .f32 x0, .fl .f32 x1, .fl .f32 x2] => some (g x0 x1 x2)
    | _ => none
  | _, _ => none
theorem okLF3 {P : Program} {E : List (Entry P)} {f : FuncId} {fn : Func} {g : F32 → F32 → F32 → Bool × AV} (hf : P.funcs[f]? = some fn) (hn : (fn.name == "runtime.NumGoroutine") = false)
    (h : ∀ (x0 x1 x2 : F32), (g x0 x1 x2).1 = true → run P E fn [.c (.slc 0 3), theShut] [[.fl .f32 x0, .fl .f32 x1, .fl .f32 x2]] = some (g x0 x1 x2).2) : EOk P f (shLF3 g) := by
  intro args M r hr σ vs w hM ha
  unfold shLF3 at hr
  split at hr
  · split at hr
    · rename_i id M x0 x1 x2 hid
      have hr' := Option.some.inj hr
      have h1 := h x0 x1 x2 (by rw [hr'])
      rw [hr'] at h1
      exact gives_slc hf hn h1 rfl rfl hM hid ha
    · cases hr
  · cases hr
def idx3 (x0 x1 x2 : F32) : Int := (bif !(isFinite x0) then 0 else bif !(isFinite x1) then 1 else bif !(isFinite x2) then 2 else -1)
def eIndex3 : Entry Try.prog := { f := 139, fn := shLF3 fun x0 x1 x2 => (true, .c (.val (.int .i64 (idx3 x0 x1 x2)))), ok := okLF3 (E := [eShut]) Try.func139 (by kernel_rfl) fun x0 x1 x2 _ => by show _ = some (AV.c (.val (.int .i64 (idx3 x0 x1 x2)))); unfold idx3; simp only [push_int]; kernel_rfl }
def eContains3 : Entry Try.prog := { f := 117, fn := shLF3 fun x0 x1 x2 => rB (decide (idx3 x0 x1 x2 ≥ 0)), ok := okLF3 (E := [eIndex3]) Try.func117 (by kernel_rfl) fun x0 x1 x2 _ => by kernel_rfl }
def eAreFinite3 : Entry Try.prog := { f := 73, fn := shL3 fun x0 x1 x2 => rB (!decide (idx3 x0 x1 x2 ≥ 0)), ok := okL3 (E := [eContains3]) Try.func73 (by kernel_rfl) fun x0 x1 x2 _ => by kernel_rfl }
theorem idx3_eq (x0 x1 x2 : F32) : (!decide (idx3 x0 x1 x2 ≥ 0)) = (finS x0 && finS x1 && finS x2) := by
  unfold idx3
  simp only [fin_eq]
  cases finS x0 <;> cases finS x1 <;> cases finS x2 <;> rfl
theorem eAreLengths3_run (x0 x1 x2 : F32) : run Try.prog [eALength] Try.f75 [.c (.slc 0 3)] [[.fl .f32 x0, .fl .f32 x1, .fl .f32 x2]] = some (.c (.sb (aLength x0 && aLength x1 && aLength x2))) := by
  have h : run Try.prog [eALength] Try.f75 [.c (.slc 0 3)] [[.fl .f32 x0, .fl .f32 x1, .fl .f32 x2]] = bif !(aLength x0) then some (.c (.sb false)) else bif !(aLength x1) then some (.c (.sb false)) else bif !(aLength x2) then some (.c (.sb false)) else some (.c (.sb true)) := by kernel_rfl
  rw [h]
  cases aLength x0 <;> cases aLength x1 <;> cases aLength x2 <;> rfl
def eAreLengths3 : Entry Try.prog := { f := 75, fn := shL3 fun x0 x1 x2 => rB (aLength x0 && aLength x1 && aLength x2), ok := okL3 (E := [eALength]) Try.func75 (by kernel_rfl) fun x0 x1 x2 _ => eAreLengths3_run x0 x1 x2 }
-- 4 numbers
def shL4 (g : F32 → F32 → F32 → F32 → Bool × AV) : List AV → List (List AC) → Option (Bool × AV)
  | [.c (.slc id 4)], M => match M[id]? with
    | some [.fl .f32 x0, .fl .f32 x1, .fl .f32 x2, .fl .f32 x3] => some (g x0 x1 x2 x3)
    | _ => none
  | _, _ => none
theorem okL4 {P : Program} {E : List (Entry P)} {f : FuncId} {fn : Func} {g : F32 → F32 → F32 → F32 → Bool × AV} (hf : P.funcs[f]? = some fn) (hn : (fn.name == "runtime.NumGoroutine") = false)
    (h : ∀ (x0 x1 x2 x3 : F32), (g x0 x1 x2 x3).1 = true → run P E fn [.c (.slc 0 4)] [[.fl .f32 x0, .fl .f32 x1, .fl .f32 x2, .fl .f32 x3]] = some (g x0 x1 x2 x3).2) : EOk P f (shL4 g) := by
  intro args M r hr σ vs w hM ha
  unfold shL4 at hr
  split at hr
  · split at hr
    · rename_i id M x0 x1 x2 x3 hid
      have hr' := Option.some.inj hr
      have h1 := h x0 x1 x2 x3 (by rw [hr'])
      rw [hr'] at h1
      exact gives_slc hf hn h1 rfl rfl hM hid ha
    · cases hr
  · cases hr
def shLF4 (g : F32 → F32 → F32 → F32 → Bool × AV) : List AV → List (List AC) → Option (Bool × AV)
  | [.c (.slc id 4), .c (.val (.func (.func 118) ⟨[]⟩ ⟨[]⟩))], M => match M[id]? with
    | some [.fl .f32 x0, .fl .f32 x1, .fl .f32 x2, .fl .f32 x3] => some (g x0 x1 x2 x3)
    | _ => none
  | _, _ => none
theorem okLF4 {P : Program} {E : List (Entry P)} {f : FuncId} {fn : Func} {g : F32 → F32 → F32 → F32 → Bool × AV} (hf : P.funcs[f]? = some fn) (hn : (fn.name == "runtime.NumGoroutine") = false)
    (h : ∀ (x0 x1 x2 x3 : F32), (g x0 x1 x2 x3).1 = true → run P E fn [.c (.slc 0 4), theShut] [[.fl .f32 x0, .fl .f32 x1, .fl .f32 x2, .fl .f32 x3]] = some (g x0 x1 x2 x3).2) : EOk P f (shLF4 g) := by
  intro args M r hr σ vs w hM ha
  unfold shLF4 at hr
  split at hr
  · split at hr
    · rename_i id M x0 x1 x2 x3 hid
      have hr' := Option.some.inj hr
      have h1 := h x0 x1 x2 x3 (by rw [hr'])
      rw [hr'] at h1
      exact gives_slc hf hn h1 rfl rfl hM hid ha
    · cases hr
  · cases hr
def idx4 (x0 x1 x2 x3 : F32) : Int := (bif !(isFinite x0) then 0 else bif !(isFinite x1) then 1 else bif !(isFinite x2) then 2 else bif !(isFinite x3) then 3 else -1)
def eIndex4 : Entry Try.prog := { f := 139, fn := shLF4 fun x0 x1 x2 x3 => (true, .c (.val (.int .i64 (idx4 x0 x1 x2 x3)))), ok := okLF4 (E := [eShut]) Try.func139 (by kernel_rfl) fun x0 x1 x2 x3 _ => by show _ = some (AV.c (.val (.int .i64 (idx4 x0 x1 x2 x3)))); unfold idx4; simp only [push_int]; kernel_rfl }
def eContains4 : Entry Try.prog := { f := 117, fn := shLF4 fun x0 x1 x2 x3 => rB (decide (idx4 x0 x1 x2 x3 ≥ 0)), ok := okLF4 (E := [eIndex4]) Try.func117 (by kernel_rfl) fun x0 x1 x2 x3 _ => by kernel_rfl }
def eAreFinite4 : Entry Try.prog := { f := 73, fn := shL4 fun x0 x1 x2 x3 => rB (!decide (idx4 x0 x1 x2 x3 ≥ 0)), ok := okL4 (E := [eContains4]) Try.func73 (by kernel_rfl) fun x0 x1 x2 x3 _ => by kernel_rfl }
theorem idx4_eq (x0 x1 x2 x3 : F32) : (!decide (idx4 x0 x1 x2 x3 ≥ 0)) = (finS x0 && finS x1 && finS x2 && finS x3) := by
  unfold idx4
  simp only [fin_eq]
  cases finS x0 <;> cases finS x1 <;> cases finS x2 <;> cases finS x3 <;> rfl
theorem eAreLengths4_run (x0 x1 x2 x3 : F32) : run Try.prog [eALength] Try.f75 [.c (.slc 0 4)] [[.fl .f32 x0, .fl .f32 x1, .fl .f32 x2, .fl .f32 x3]] = some (.c (.sb (aLength x0 && aLength x1 && aLength x2 && aLength x3))) := by
  have h : run Try.prog [eALength] Try.f75 [.c (.slc 0 4)] [[.fl .f32 x0, .fl .f32 x1, .fl .f32 x2, .fl .f32 x3]] = bif !(aLength x0) then some (.c (.sb false)) else bif !(aLength x1) then some (.c (.sb false)) else bif !(aLength x2) then some (.c (.sb false)) else bif !(aLength x3) then some (.c (.sb false)) else some (.c (.sb true)) := by kernel_rfl
  rw [h]
  cases aLength x0 <;> cases aLength x1 <;> cases aLength x2 <;> cases aLength x3 <;> rfl
def eAreLengths4 : Entry Try.prog := { f := 75, fn := shL4 fun x0 x1 x2 x3 => rB (aLength x0 && aLength x1 && aLength x2 && aLength x3), ok := okL4 (E := [eALength]) Try.func75 (by kernel_rfl) fun x0 x1 x2 x3 _ => eAreLengths4_run x0 x1 x2 x3 }
-- 6 numbers
def shL6 (g : F32 → F32 → F32 → F32 → F32 → F32 → Bool × AV) : List AV → List (List AC) → Option (Bool × AV)
  | [.c (.slc id 6)], M => match M[id]? with
    | some [.fl .f32 x0, .fl .f32 x1, .fl .f32 x2, .fl .f32 x3, .fl .f32 x4, .fl .f32 x5] => some (g x0 x1 x2 x3 x4 x5)
    | _ => none
  | _, _ => none
theorem okL6 {P : Program} {E : List (Entry P)} {f : FuncId} {fn : Func} {g : F32 → F32 → F32 → F32 → F32 → F32 → Bool × AV} (hf : P.funcs[f]? = some fn) (hn : (fn.name == "runtime.NumGoroutine") = false)
    (h : ∀ (x0 x1 x2 x3 x4 x5 : F32), (g x0 x1 x2 x3 x4 x5).1 = true → run P E fn [.c (.slc 0 6)] [[.fl .f32 x0, .fl .f32 x1, .fl .f32 x2, .fl .f32 x3, .fl .f32 x4, .fl .f32 x5]] = some (g x0 x1 x2 x3 x4 x5).2) : EOk P f (shL6 g) := by
  intro args M r hr σ vs w hM ha
  unfold shL6 at hr
  split at hr
  · split at hr
    · rename_i id M x0 x1 x2 x3 x4 x5 hid
      have hr' := Option.some.inj hr
      have h1 := h x0 x1 x2 x3 x4 x5 (by rw [hr'])
      rw [hr'] at h1
      exact gives_slc hf hn h1 rfl rfl hM hid ha
    · cases hr
  · cases hr
def shLF6 (g : F32 → F32 → F32 → F32 → F32 → F32 → Bool × AV) : List AV → List (List AC) → Option (Bool × AV)
  | [.c (.slc id 6), .c (.val (.func (.func 118) ⟨[]⟩ ⟨[]⟩))], M => match M[id]? with
    | some [.fl .f32 x0, .fl .f32 x1, .fl .f32 x2, .fl .f32 x3, .fl .f32 x4, .fl .f32 x5] => some (g x0 x1 x2 x3 x4 x5)
    | _ => none
  | _, _ => none
theorem okLF6 {P : Program} {E : List (Entry P)} {f : FuncId} {fn : Func} {g : F32 → F32 → F32 → F32 → F32 → F32 → Bool × AV} (hf : P.funcs[f]? = some fn) (hn : (fn.name == "runtime.NumGoroutine") = false)
    (h : ∀ (x0 x1 x2 x3 x4 x5 : F32), (g x0 x1 x2 x3 x4 x5).1 = true → run P E fn [.c (.slc 0 6), theShut] [[.fl .f32 x0, .fl .f32 x1, .fl .f32 x2, .fl .f32 x3, .fl .f32 x4, .fl .f32 x5]] = some (g x0 x1 x2 x3 x4 x5).2) : EOk P f (shLF6 g) := by
  intro args M r hr σ vs w hM ha
  unfold shLF6 at hr
  split at hr
  · split at hr
    · rename_i id M x0 x1 x2 x3 x4 x5 hid
      have hr' := Option.some.inj hr
      have h1 := h x0 x1 x2 x3 x4 x5 (by rw [hr'])
      rw [hr'] at h1
      exact gives_slc hf hn h1 rfl rfl hM hid ha
    · cases hr
  · cases hr
def idx6 (x0 x1 x2 x3 x4 x5 : F32) : Int := (bif !(isFinite x0) then 0 else bif !(isFinite x1) then 1 else bif !(isFinite x2) then 2 else bif !(isFinite x3) then 3 else bif !(isFinite x4) then 4 else bif !(isFinite x5) then 5 else -1)
def eIndex6 : Entry Try.prog := { f := 139, fn := shLF6 fun x0 x1 x2 x3 x4 x5 => (true, .c (.val (.int .i64 (idx6 x0 x1 x2 x3 x4 x5)))), ok := okLF6 (E := [eShut]) Try.func139 (by kernel_rfl) fun x0 x1 x2 x3 x4 x5 _ => by show _ = some (AV.c (.val (.int .i64 (idx6 x0 x1 x2 x3 x4 x5)))); unfold idx6; simp only [push_int]; kernel_rfl }
def eContains6 : Entry Try.prog := { f := 117, fn := shLF6 fun x0 x1 x2 x3 x4 x5 => rB (decide (idx6 x0 x1 x2 x3 x4 x5 ≥ 0)), ok := okLF6 (E := [eIndex6]) Try.func117 (by kernel_rfl) fun x0 x1 x2 x3 x4 x5 _ => by kernel_rfl }
def eAreFinite6 : Entry Try.prog := { f := 73, fn := shL6 fun x0 x1 x2 x3 x4 x5 => rB (!decide (idx6 x0 x1 x2 x3 x4 x5 ≥ 0)), ok := okL6 (E := [eContains6]) Try.func73 (by kernel_rfl) fun x0 x1 x2 x3 x4 x5 _ => by kernel_rfl }
theorem idx6_eq (x0 x1 x2 x3 x4 x5 : F32) : (!decide (idx6 x0 x1 x2 x3 x4 x5 ≥ 0)) = (finS x0 && finS x1 && finS x2 && finS x3 && finS x4 && finS x5) := by
  unfold idx6
  simp only [fin_eq]
  cases finS x0 <;> cases finS x1 <;> cases finS x2 <;> cases finS x3 <;> cases finS x4 <;> cases finS x5 <;> rfl
theorem eAreLengths6_run (x0 x1 x2 x3 x4 x5 : F32) : run Try.prog [eALength] Try.f75 [.c (.slc 0 6)] [[.fl .f32 x0, .fl .f32 x1, .fl .f32 x2, .fl .f32 x3, .fl .f32 x4, .fl .f32 x5]] = some (.c (.sb (aLength x0 && aLength x1 && aLength x2 && aLength x3 && aLength x4 && aLength x5))) := by
  have h : run Try.prog [eALength] Try.f75 [.c (.slc 0 6)] [[.fl .f32 x0, .fl .f32 x1, .fl .f32 x2, .fl .f32 x3, .fl .f32 x4, .fl .f32 x5]] = bif !(aLength x0) then some (.c (.sb false)) else bif !(aLength x1) then some (.c (.sb false)) else bif !(aLength x2) then some (.c (.sb false)) else bif !(aLength x3) then some (.c (.sb false)) else bif !(aLength x4) then some (.c (.sb false)) else bif !(aLength x5) then some (.c (.sb false)) else some (.c (.sb true)) := by kernel_rfl
  rw [h]
  cases aLength x0 <;> cases aLength x1 <;> cases aLength x2 <;> cases aLength x3 <;> cases aLength x4 <;> cases aLength x5 <;> rfl
def eAreLengths6 : Entry Try.prog := { f := 75, fn := shL6 fun x0 x1 x2 x3 x4 x5 => rB (aLength x0 && aLength x1 && aLength x2 && aLength x3 && aLength x4 && aLength x5), ok := okL6 (E := [eALength]) Try.func75 (by kernel_rfl) fun x0 x1 x2 x3 x4 x5 _ => eAreLengths6_run x0 x1 x2 x3 x4 x5 }
theorem long_eq (x : F32) : aLength x = aboveS x := by unfold aLength aboveS; rw [fin_eq]
theorem mass_eq (x : F32) : aMass x = leastS x := by unfold aMass leastS; rw [fin_eq]

end Go.Proofs.Ytlpahmefebgdlaa.Fx
/- Bounds of sines and of bisections. No condition. -/
namespace Go.Proofs.Ytlpahmefebgdlaa.Fx
open Go Nr Ieee

theorem up_of {E : Int} {x : F64} (r : Nat) (s : Bool) (m : Nat) (e : Int) (h1 : x = bx r) (h2 : double.read r = .number s m e) (h3 : e ≤ E) (h4 : m ≤ 2 ^ (E - e).toNat) : Up E x := ⟨s, m, e, ⟨r, h1, h2⟩, .inr ⟨h3, h4⟩⟩
theorem lo_of {L : Int} {x : F64} (r : Nat) (s : Bool) (m : Nat) (e : Int) (h1 : x = bx r) (h2 : double.read r = .number s m e) (h3 : L = e + 52) (h4 : 2 ^ 52 ≤ m) : Lo L x := ⟨s, m, e, ⟨r, h1, h2⟩, h4, h3⟩
theorem up_zero (E : Int) : Up E zero := ⟨false, 0, -1074, num_zero, .inl rfl⟩
theorem up_one : Up 0 one := up_of _ false (2 ^ 52) (-52) rfl (by decide) (by decide) (by decide)
theorem up_half : Up (-1) half := up_of _ false (2 ^ 52) (-53) rfl (by decide) (by decide) (by decide)
theorem up_ten : Up 4 ten := up_of _ false (10 * 2 ^ 49) (-49) rfl (by decide) (by decide) (by decide)
theorem up_mten : Up 4 mten := up_of _ true (10 * 2 ^ 49) (-49) rfl (by decide) (by decide) (by decide)
theorem up_full : Up 3 full := up_of (x := full) 4618760256179416344 false 7074237752028440 (-50) rfl (by decide) (by decide) (by decide)
theorem lo_full : Lo 2 full := lo_of (x := full) 4618760256179416344 false 7074237752028440 (-50) rfl (by decide) (by decide) (by decide)

theorem bis_up {g : F64 → Bool} {E : Int} (h1 : -1020 ≤ E) (h2 : E ≤ 1020) : ∀ (n : Nat) (s : F64 × F64), Up E s.1 → Up E s.2 → Up E (bis g n s).1 ∧ Up E (bis g n s).2
  | 0, s, ha, hb => ⟨ha, hb⟩
  | n + 1, s, ha, hb => by
    have hc : Up E ((s.1 + s.2) / two) := by
      have := (ha.add hb (by omega) (by omega)).half (by omega) (by omega)
      rwa [Int.add_sub_cancel] at this
    simp only [bis]
    cases g ((s.1 + s.2) / two) with
    | true => exact bis_up h1 h2 n _ ha hc
    | false => exact bis_up h1 h2 n _ hc hb

theorem bis_eq {g h : F64 → Bool} (e : ∀ x, g x = h x) : ∀ (n : Nat) (s : F64 × F64), bis g n s = bis h n s
  | 0, _ => rfl
  | n + 1, s => by simp only [bis, e]; exact bis_eq e n _

theorem swing_up (e x : F64) : Up 0 (swing e x) := (bis_up (by decide) (by decide) 50 (zero, one) (up_zero 0) up_one).1
theorem lean_up (e x : F64) : Up 4 (lean e x) := (bis_up (by decide) (by decide) 60 (mten, ten) up_mten up_ten).1

-- exponentials, two ways
theorem expS_num (x : F64) (h : ne x x = false) : expS x = exponential x := by
  unfold expS exponential; rw [h]; rfl

theorem ne_cases (x : F64) : ne x x = false ∨ (x = nn ∨ ∃ r s f, x = bx r ∧ double.read r = .nan s f) := by
  rcases num_cases x with ⟨s, m, e, h⟩ | ⟨r, s, rfl, h⟩ | h
  · exact .inl (ne_self h)
  · left
    unfold ne
    rw [ord_some, h]; cases s <;> rfl
  · exact .inr h

theorem nan_gone {x : F64} (h : x = nn ∨ ∃ r s f, x = bx r ∧ double.read r = .nan s f) (y : F64) : x - y = nn ∧ x / y = nn ∧ ord x y = none := by
  rcases h with rfl | ⟨r, s, f, rfl, h⟩
  · exact ⟨rfl, rfl, rfl⟩
  · cases y with
    | none => exact ⟨rfl, rfl, rfl⟩
    | some q =>
      have e : (some q : Option Nat) = bx q := rfl
      rw [e, sub_some, div_some, ord_some, h]
      exact ⟨rfl, rfl, rfl⟩

theorem exp_none : exponential nn = nn := by kernel_rfl
theorem exp_nan {x : F64} (h : x = nn ∨ ∃ r s f, x = bx r ∧ double.read r = .nan s f) : exponential x = nn := by
  unfold exponential gt lt
  rw [(nan_gone h _).2.2, (nan_gone h _).2.2, (nan_gone h _).2.1]
  kernel_rfl

theorem read_neg (r : Nat) : double.read (r ^^^ 2 ^ 63) = match double.read r with
    | .number s m e => .number (!s) m e
    | .infinity s => .infinity (!s)
    | .nan s f => .nan (!s) f := by
  have es : double.signWeight = 2 ^ 63 := by decide
  have h1 : (r ^^^ 2 ^ 63) % 2 ^ 63 = r % 2 ^ 63 := by rw [Nat.xor_mod_two_pow, Nat.mod_self, Nat.xor_zero]
  have h2 : ((r ^^^ 2 ^ 63) / 2 ^ 63 % 2 == 1) = !(r / 2 ^ 63 % 2 == 1) := by
    have : (r ^^^ 2 ^ 63) / 2 ^ 63 = (r / 2 ^ 63) ^^^ 1 := by
      rw [← Nat.shiftRight_eq_div_pow, ← Nat.shiftRight_eq_div_pow, Nat.shiftRight_xor_distrib]; rfl
    rw [this]
    have h3 : (r / 2 ^ 63 ^^^ 1) % 2 = (r / 2 ^ 63 % 2) ^^^ 1 := by
      have := Nat.xor_mod_two_pow (a := r / 2 ^ 63) (b := 1) (n := 1)
      simpa using this
    rw [h3]
    rcases Nat.mod_two_eq_zero_or_one (r / 2 ^ 63) with h | h <;> rw [h] <;> rfl
  unfold Format.read
  rw [es]
  dsimp only
  rw [h1, h2]
  split
  · rfl
  · split
    · rfl
    · split <;> rfl

theorem neg_bx (r : Nat) : -(bx r) = bx (r ^^^ 2 ^ 63) := rfl
theorem Num.neg {x : F64} {s : Bool} {m : Nat} {e : Int} (h : Num x s m e) : Num (-x) (!s) m e := by
  obtain ⟨r, rfl, hr⟩ := h
  exact ⟨_, neg_bx r, by rw [read_neg, hr]⟩
theorem Up.neg {E : Int} {x : F64} (h : Up E x) : Up E (-x) := by
  obtain ⟨s, m, e, h1, h2⟩ := h
  exact ⟨_, m, e, h1.neg, h2⟩

theorem nan_neg {x : F64} (h : x = nn ∨ ∃ r s f, x = bx r ∧ double.read r = .nan s f) : (-x = nn ∨ ∃ r s f, -x = bx r ∧ double.read r = .nan s f) := by
  rcases h with rfl | ⟨r, s, f, rfl, h⟩
  · exact .inl rfl
  · exact .inr ⟨_, !s, f, neg_bx r, by rw [read_neg, h]⟩

theorem exp_diff (x : F64) : expS x - expS (-x) = exponential x - exponential (-x) := by
  rcases ne_cases x with h | h
  · rcases ne_cases (-x) with h' | h'
    · rw [expS_num x h, expS_num _ h']
    · rw [exp_nan h', sub_none]
      have : expS (-x) = -x ∨ expS (-x) = nn := by
        rcases ne_cases (-x) with k | k
        · right; rw [expS_num _ k, exp_nan h']
        · left; unfold expS ne; rw [(nan_gone k _).2.2]; rfl
      rcases this with k | k
      · rw [k]
        rcases h' with k' | ⟨r, s, f, k', k2⟩
        · rw [k', sub_none]
        · rw [k']
          generalize expS x = y
          cases y with
          | none => rfl
          | some q =>
            have e : (some q : Option Nat) = bx q := rfl
            rw [e, sub_some, k2]
            cases double.read q <;> rfl
      · rw [k, sub_none]
  · have : expS x = x := by unfold expS ne; rw [(nan_gone h _).2.2]; rfl
    rw [this, exp_nan h, (nan_gone h _).1, none_sub]

theorem sinh_eq (x : F64) : sinhS x = halfDiff x := by
  unfold sinhS halfDiff
  rw [half_eq, exp_diff]

theorem lean_eq (e x : F64) : leanS e x = lean e x := by
  unfold leanS lean
  rw [bis_eq (g := leanTestS e (full * x)) (h := leanTest e (full * x)) (fun c => by unfold leanTestS leanTest leanSizeS; rw [sinh_eq])]

-- the sine's bound
theorem behind_up {y : F64} {s : Bool} {m : Nat} {e : Int} (h : Num y s m e) : Up 1 (behind y) := by
  obtain ⟨h1, h2, h3⟩ := h.bound
  by_cases he : 0 ≤ e
  · unfold behind
    rw [trunc_big h he]
    have : lt zero zero = false := by kernel_rfl
    rw [this]; exact up_zero 1
  · obtain ⟨_, _, hq⟩ := toI_num h (by omega)
    have hw := whole_num h
    have e1 : e.toNat = 0 := by omega
    rw [e1, Nat.shiftLeft_zero, cut_down] at hw
    obtain ⟨q, hqd⟩ : ∃ q, q = m / 2 ^ (-e).toNat := ⟨_, rfl⟩
    obtain ⟨r, hrd⟩ : ∃ r, r = m % 2 ^ (-e).toNat := ⟨_, rfl⟩
    have hdm : 2 ^ (-e).toNat * q + r = m := by rw [hqd, hrd]; exact Nat.div_add_mod _ _
    have hr : r < 2 ^ (-e).toNat := by rw [hrd]; exact Nat.mod_lt _ (Nat.two_pow_pos _)
    rw [← hqd] at hw hq
    have hz : ∃ (s' : Bool) (j : Nat), Num (whole .zero y + zero) s' (q * 2 ^ j) (0 - j) ∧ (q ≠ 0 → s' = s) ∧ (q = 0 → whole .zero y + zero = zero) := by
      obtain ⟨j, hj⟩ := num_near s (m := q) (e := 0) (by omega) (by omega) (by omega)
      rw [hw]
      by_cases h0 : q = 0
      · subst h0
        rw [Nat.zero_mul] at hj
        rw [hj.add_zero0]
        obtain ⟨j, hj⟩ : ∃ j : Nat, j = 1074 := ⟨_, rfl⟩
        exact ⟨false, j, by rw [Nat.zero_mul, hj]; exact num_zero, fun h => (h rfl).elim, fun _ => rfl⟩
      · rw [hj.add_zero (Nat.mul_ne_zero h0 (by have := Nat.two_pow_pos j; omega)), near_scale]
        exact ⟨s, j, hj, fun _ => rfl, fun h => (h0 h).elim⟩
    obtain ⟨s', j, hN, hs', _⟩ := hz
    have hf : Up 0 (y - (whole .zero y + zero)) := by
      rw [h.sub hN]
      unfold addW
      obtain ⟨b, hb⟩ : ∃ b, b = min e (0 - (j : Int)) := ⟨_, rfl⟩
      rw [← hb]
      have hT : (signed s m (e - b).toNat + signed (!s') (q * 2 ^ j) (0 - (j : Int) - b).toNat).natAbs = r * 2 ^ (e - b).toNat := by
        have a1 : q * 2 ^ j * 2 ^ (0 - (j : Int) - b).toNat = q * 2 ^ (-e).toNat * 2 ^ (e - b).toNat := by
          rw [Nat.mul_assoc, Nat.mul_assoc, ← Nat.pow_add, ← Nat.pow_add]; congr 2; omega
        have a2 : m * 2 ^ (e - b).toNat = q * 2 ^ (-e).toNat * 2 ^ (e - b).toNat + r * 2 ^ (e - b).toNat := by
          rw [← Nat.add_mul, ← hdm, Nat.mul_comm (2 ^ (-e).toNat)]
        rw [signed_eq, signed_eq, a1, a2]
        by_cases h0 : q = 0
        · subst h0
          simp only [Nat.zero_mul, Nat.zero_add]
          generalize r * 2 ^ (e - b).toNat = z
          cases s <;> cases s' <;> simp
        · rw [hs' h0]
          generalize q * 2 ^ (-e).toNat * 2 ^ (e - b).toNat = z1
          generalize r * 2 ^ (e - b).toNat = z
          cases s <;> simp <;> omega
      have hle : Le2 (signed s m (e - b).toNat + signed (!s') (q * 2 ^ j) (0 - (j : Int) - b).toNat).natAbs b 0 := by
        right
        refine ⟨by omega, ?_⟩
        rw [hT]
        refine Nat.le_trans (Nat.mul_le_mul_right _ (Nat.le_of_lt hr)) ?_
        rw [← Nat.pow_add]
        exact Nat.pow_le_pow_right (by decide) (by omega)
      obtain ⟨m', e', h3, h4⟩ := num_word (if signed s m (e - b).toNat + signed (!s') (q * 2 ^ j) (0 - (j : Int) - b).toNat = 0 then s && !s' else signed s m (e - b).toNat + signed (!s') (q * 2 ^ j) (0 - (j : Int) - b).toNat < 0) hle (by omega) (by omega)
      exact ⟨_, _, _, h3, h4⟩
    unfold behind
    cases lt (y - (whole .zero y + zero)) zero with
    | true => exact hf.add up_one (by omega) (by omega)
    | false => exact hf.mono (by omega)

theorem sineStep_up {u p : F64} {k : Int} {E L F : Int} (hu : Up 12 u) (hp : Up E p) (hk : Lo L (ki (2 * k * (2 * k + 1)))) (h0 : 0 ≤ E) (hL : 0 ≤ L) (hE : E ≤ 900) (hL2 : L ≤ 12 + E) (hF : F = 12 + E - L + 1 + 1) : Up F (sineStep u p k) := by
  subst hF
  have h1 := hu.mul hp (by omega) (by omega)
  have h2 := h1.div hk (by omega) (by omega)
  exact (up_one.mono (by omega)).sub h2 (by omega) (by omega)

theorem sineOut_up {g : F64} (h : Up 3 g) : Up 73 (sineOut g) := by
  have hz := h.mul up_full (by decide) (by decide)
  have hu := hz.mul hz (by decide) (by decide)
  have p8 := sineStep_up (k := 8) (L := 8) hu up_one (lo_of _ false (272 * 2 ^ 44) (-44) rfl (by kernel_rfl) (by decide) (by decide)) (by decide) (by decide) (by decide) (by decide) rfl
  have p7 := sineStep_up (k := 7) (L := 7) hu p8 (lo_of _ false (210 * 2 ^ 45) (-45) rfl (by kernel_rfl) (by decide) (by decide)) (by decide) (by decide) (by decide) (by decide) rfl
  have p6 := sineStep_up (k := 6) (L := 7) hu p7 (lo_of _ false (156 * 2 ^ 45) (-45) rfl (by kernel_rfl) (by decide) (by decide)) (by decide) (by decide) (by decide) (by decide) rfl
  have p5 := sineStep_up (k := 5) (L := 6) hu p6 (lo_of _ false (110 * 2 ^ 46) (-46) rfl (by kernel_rfl) (by decide) (by decide)) (by decide) (by decide) (by decide) (by decide) rfl
  have p4 := sineStep_up (k := 4) (L := 6) hu p5 (lo_of _ false (72 * 2 ^ 46) (-46) rfl (by kernel_rfl) (by decide) (by decide)) (by decide) (by decide) (by decide) (by decide) rfl
  have p3 := sineStep_up (k := 3) (L := 5) hu p4 (lo_of _ false (42 * 2 ^ 47) (-47) rfl (by kernel_rfl) (by decide) (by decide)) (by decide) (by decide) (by decide) (by decide) rfl
  have p2 := sineStep_up (k := 2) (L := 4) hu p3 (lo_of _ false (20 * 2 ^ 48) (-48) rfl (by kernel_rfl) (by decide) (by decide)) (by decide) (by decide) (by decide) (by decide) rfl
  have p1 := sineStep_up (k := 1) (L := 2) hu p2 (lo_of _ false (6 * 2 ^ 50) (-50) rfl (by kernel_rfl) (by decide) (by decide)) (by decide) (by decide) (by decide) (by decide) rfl
  exact (hz.mul p1 (by decide) (by decide)).mono (by decide)

theorem sine_up {y : F64} {s : Bool} {m : Nat} {e : Int} (h : Num y s m e) : Up 73 (sine y) := by
  have hb := behind_up h
  have hh : Up 1 half := up_half.mono (by decide)
  have h1 : Up 2 (behind y - half) := hb.sub hh (by decide) (by decide)
  have h2 : Up 3 (half - (behind y - half)) := (hh.mono (by decide)).sub h1 (by decide) (by decide)
  have h3 : Up 2 (half - behind y) := hh.sub hb (by decide) (by decide)
  unfold sine sineF
  cases ge (behind y) half with
  | true => cases gt (behind y - half) quarter with
    | true => exact (sineOut_up h2).neg
    | false => exact (sineOut_up (h1.mono (by decide))).neg
  | false => cases gt (behind y) quarter with
    | true => exact sineOut_up (h3.mono (by decide))
    | false => exact sineOut_up (hb.mono (by decide))

end Go.Proofs.Ytlpahmefebgdlaa.Fx
/- Contracts: SwingOf, PhaseOfSwing, LeanOf, two ways each; their laws. No condition. -/
namespace Go.Proofs.Ytlpahmefebgdlaa.Fx
open Go Go.RowKit Nr Ieee

def Zr : Option AV := some (.tup [.fl .f32 (c32 0), .sb false])

-- comparisons of 32-bit numbers
theorem ord_sx (a b : Nat) : ord (sx a) (sx b) = (single.read a).order (single.read b) := rfl
theorem total {x y : F32} (hx : finS x = true) (hy : finS y = true) : ∃ c, ord x y = some c := by
  obtain ⟨s, m, e, r, rfl, hr⟩ := fin_num hx
  obtain ⟨t, n, j, q, rfl, hq⟩ := fin_num hy
  rw [ord_sx, hr, hq]; exact ⟨_, rfl⟩
theorem lt_ge {x y : F32} (hx : finS x = true) (hy : finS y = true) : lt x y = !(ge x y) := by
  obtain ⟨c, h⟩ := total hx hy
  unfold lt ge; rw [h]; cases c <;> rfl
theorem gt_le {x y : F32} (hx : finS x = true) (hy : finS y = true) : gt x y = !(le x y) := by
  obtain ⟨c, h⟩ := total hx hy
  unfold gt le; rw [h]; cases c <;> rfl
/-- What lies between two numbers is a number. -/
theorem between {x a b : F32} (ha : finS a = true) (hb : finS b = true) (h1 : ge x a = true) (h2 : le x b = true) : finS x = true := by
  obtain ⟨s, m, e, r, rfl, hr⟩ := fin_num ha
  obtain ⟨t, n, j, q, rfl, hq⟩ := fin_num hb
  rcases numS_cases x with ⟨s, m, e, h⟩ | ⟨p, s, rfl, h⟩ | rfl | ⟨p, s, f, rfl, h⟩
  · exact h.fin
  · unfold ge at h1
    unfold le at h2
    rw [ord_sx, h, hr] at h1
    rw [ord_sx, h, hq] at h2
    cases s
    · cases h2
    · cases h1
  · cases h1
  · unfold ge at h1
    rw [ord_sx, h, hr] at h1
    cases h1

theorem fin0 : finS (c32 0) = true := by kernel_rfl
theorem fin1 : finS one32 = true := by kernel_rfl
theorem num_one32 : NumS one32 false (2 ^ 23) (-23) := ⟨_, rfl, by decide⟩
theorem num_zero32 : NumS (c32 0) false 0 (-149) := ⟨_, rfl, by decide⟩
theorem isTurn_fin {x : F32} (h : isTurn x = true) : finS x = true := by
  unfold isTurn at h
  rw [Bool.and_eq_true] at h
  refine between fin0 fin1 h.1 ?_
  have := h.2
  unfold lt at this
  unfold le
  show (ord x one32 == _ || _) = true
  rw [show ord x one32 = ord x (c32 1065353216) from rfl, this]; rfl

theorem le2_widen {m j : Nat} {e E : Int} (h : Le2 m e E) : Le2 (m * 2 ^ j) (e - j) E := by
  rcases h with h | ⟨h1, h2⟩
  · exact .inl (by rw [h, Nat.zero_mul])
  · refine .inr ⟨by omega, ?_⟩
    have : (E - (e - (j : Int))).toNat = (E - e).toNat + j := by omega
    rw [this, Nat.pow_add]
    exact Nat.mul_le_mul_right _ h2

theorem isTurn_up {x : F32} (h : isTurn x = true) : Up 0 (widen x) := by
  obtain ⟨s, m, e, hx⟩ := fin_num (isTurn_fin h)
  obtain ⟨b1, b2, b3⟩ := hx.bound
  obtain ⟨j, hj⟩ := widen_numS hx
  refine ⟨s, _, _, hj, le2_widen ?_⟩
  unfold isTurn at h
  rw [Bool.and_eq_true] at h
  obtain ⟨h1, h2⟩ := h
  obtain ⟨r, rfl, hr⟩ := hx
  obtain ⟨q, hq, hq2⟩ := num_one32
  obtain ⟨z, hz, hz2⟩ := num_zero32
  have h2' : lt (sx r) one32 = true := h2
  unfold lt at h2'
  unfold ge at h1
  rw [hq, ord_sx, hr, hq2] at h2'
  rw [hz, ord_sx, hr, hz2] at h1
  have e1 : (some (compare (signed s m (e - min e (-23)).toNat) (signed false (2 ^ 23) ((-23 : Int) - min e (-23)).toNat)) == some Ordering.lt) = true := h2'
  have e2 : (some (compare (signed s m (e - min e (-149)).toNat) (signed false 0 ((-149 : Int) - min e (-149)).toNat)) == some Ordering.gt || some (compare (signed s m (e - min e (-149)).toNat) (signed false 0 ((-149 : Int) - min e (-149)).toNat)) == some Ordering.eq) = true := h1
  rw [cmp_lt] at e1
  rw [cmp_gt, cmp_eq] at e2
  simp only [signed_eq, Nat.zero_mul] at e1 e2
  by_cases hm : m = 0
  · exact .inl hm
  · right
    have hp : 0 < m * 2 ^ (e - min e (-149)).toNat := Nat.mul_pos (Nat.pos_of_ne_zero hm) (Nat.two_pow_pos _)
    have hs : s = false := by
      cases s with
      | false => rfl
      | true =>
        exfalso
        generalize m * 2 ^ (e - min e (-149)).toNat = z at hp e2
        simp at e2
        omega
    subst hs
    have e3 : m * 2 ^ (e - min e (-23)).toNat < 2 ^ 23 * 2 ^ ((-23 : Int) - min e (-23)).toNat := by
      generalize m * 2 ^ (e - min e (-23)).toNat = z1 at e1 ⊢
      generalize 2 ^ 23 * 2 ^ ((-23 : Int) - min e (-23)).toNat = z2 at e1 ⊢
      simpa using e1
    rw [← Nat.pow_add] at e3
    have hle : 2 ^ (e - min e (-23)).toNat ≤ m * 2 ^ (e - min e (-23)).toNat := Nat.le_mul_of_pos_left _ (Nat.pos_of_ne_zero hm)
    have h5 := (Nat.pow_lt_pow_iff_right (by decide)).1 (Nat.lt_of_le_of_lt hle e3)
    refine ⟨by omega, ?_⟩
    refine Nat.le_of_mul_le_mul_right (c := 2 ^ (e - min e (-23)).toNat) ?_ (Nat.two_pow_pos _)
    rw [← Nat.pow_add]
    refine Nat.le_trans (Nat.le_of_lt e3) (Nat.pow_le_pow_right (by decide) (by omega))

theorem told_fin {x : F32} (h : finS x = true) : toldV x = x ∧ toldB x = true := by
  unfold toldV toldB; rw [fin_eq, h]; exact ⟨rfl, rfl⟩
theorem give_fin {x : F32} (h : finS x = true) : giveV x = x ∧ giveB x = true := by
  unfold giveV giveB; rw [h]; exact ⟨rfl, rfl⟩

-- SwingOf
def swOk (r p : F32) : Bool := isTurn r && finS p
def swV (r p : F32) : F32 := bif swOk r p then narrow (swing (widen r) (widen p)) else c32 0
theorem eSwingOf_run (r p : F32) : run Try.prog [eAreFinite2, eIsTurn, eSwing, eNarrowed] Try.f39 [.c (.fl .f32 r), .c (.fl .f32 p)] [] = some (.tup [.fl .f32 (swV r p), .sb (swOk r p)]) := by
  have h : run Try.prog [eAreFinite2, eIsTurn, eSwing, eNarrowed] Try.f39 [.c (.fl .f32 r), .c (.fl .f32 p)] [] = bif !(!decide (idx2 r p ≥ 0)) then Zr else bif !(isTurn r) then Zr else
    bif fits (swing (widen r) (widen p)) then some (.tup [.fl .f32 (toldV (narrow (swing (widen r) (widen p)))), .sb (toldB (narrow (swing (widen r) (widen p))))]) else none := by kernel_rfl
  have hn := ((swing_up (widen r) (widen p)).mono (by decide : (0 : Int) ≤ 127)).narrow
  rw [h, idx2_eq, hn.1, (told_fin hn.2).1, (told_fin hn.2).2]
  unfold swV swOk
  cases h1 : isTurn r
  · cases finS r <;> cases finS p <;> simp only [Bool.not_true, Bool.not_false, Bool.and_true, Bool.and_false, cond_true, cond_false, Zr]
  · rw [isTurn_fin h1]; cases finS p <;> simp only [Bool.not_true, Bool.not_false, Bool.and_true, Bool.and_false, cond_true, cond_false, Zr]
def eSwingOf : Entry Try.prog := { f := 39, fn := shSS fun r p => rSB (swV r p) (swOk r p), ok := okSS (E := [eAreFinite2, eIsTurn, eSwing, eNarrowed]) Try.func39 (by kernel_rfl) fun r p _ => eSwingOf_run r p }
-- PhaseOfSwing
def psV (r p : F32) : F32 := bif swOk r p then narrow (swingPhase (widen r) (widen p)) else c32 0
theorem ps_narrow {r p : F32} (hr : isTurn r = true) (hp : finS p = true) : fits (swingPhase (widen r) (widen p)) = true ∧ finS (narrow (swingPhase (widen r) (widen p))) = true := by
  obtain ⟨s, m, e, hx⟩ := fin_num hp
  obtain ⟨j, hj⟩ := widen_numS hx
  have h1 := (isTurn_up hr).mul (sine_up hj) (by decide) (by decide)
  have h2 := h1.div lo_full (by decide) (by decide)
  exact near_narrow hp (h2.mono (by decide))
theorem ePhaseOfSwing_run (r p : F32) : run Try.prog [eAreFinite2, ePhaseOfSwing, eNarrowed] Try.f40 [.c (.fl .f32 r), .c (.fl .f32 p)] [] = some (.tup [.fl .f32 (psV r p), .sb (swOk r p)]) := by
  have h : run Try.prog [eAreFinite2, ePhaseOfSwing, eNarrowed] Try.f40 [.c (.fl .f32 r), .c (.fl .f32 p)] [] = bif !(!decide (idx2 r p ≥ 0)) then Zr else bif lt r (c32 0) then Zr else bif ge r one32 then Zr else
    bif fits (swingPhase (widen r) (widen p)) then some (.tup [.fl .f32 (toldV (narrow (swingPhase (widen r) (widen p)))), .sb (toldB (narrow (swingPhase (widen r) (widen p))))]) else none := by kernel_rfl
  rw [h, idx2_eq]
  unfold psV swOk
  cases h1 : finS r
  · have : isTurn r = false := by
      cases h2 : isTurn r with
      | false => rfl
      | true => rw [isTurn_fin h2] at h1; cases h1
    rw [this]; rfl
  · have e : isTurn r = (!(lt r (c32 0)) && !(ge r one32)) := by
      rw [lt_ge h1 fin0]
      unfold isTurn
      rw [show lt r (c32 1065353216) = lt r one32 from rfl, lt_ge h1 fin1, Bool.not_not]
    cases h2 : finS p
    · cases isTurn r <;> rfl
    · have hn := fun h => ps_narrow (r := r) (p := p) h h2
      rw [e] at hn ⊢
      cases h3 : lt r (c32 0)
      · cases h4 : ge r one32
        · rw [h3, h4] at hn
          obtain ⟨k1, k2⟩ := hn rfl
          rw [k1, (told_fin k2).1, (told_fin k2).2]; rfl
        · rfl
      · rfl
def ePhaseOfSwingOf : Entry Try.prog := { f := 40, fn := shSS fun r p => rSB (psV r p) (swOk r p), ok := okSS (E := [eAreFinite2, ePhaseOfSwing, eNarrowed]) Try.func40 (by kernel_rfl) fun r p _ => ePhaseOfSwing_run r p }
-- LeanOf
def m16 : F32 := c32 3246391296
def p16 : F32 := c32 1098907648
def leOk (r p : F32) : Bool := finS r && (gt r one32 && (ge p m16 && le p p16))
def leV (r p : F32) : F32 := bif leOk r p then narrow (lean (widen r) (widen p)) else c32 0
theorem eLeanOf_run (r p : F32) : run Try.prog [eAreFinite2, eLean, eNarrowed] Try.f42 [.c (.fl .f32 r), .c (.fl .f32 p)] [] = some (.tup [.fl .f32 (leV r p), .sb (leOk r p)]) := by
  have h : run Try.prog [eAreFinite2, eLean, eNarrowed] Try.f42 [.c (.fl .f32 r), .c (.fl .f32 p)] [] = bif !(!decide (idx2 r p ≥ 0)) then Zr else bif le r one32 then Zr else bif lt p m16 then Zr else bif gt p p16 then Zr else
    bif fits (lean (widen r) (widen p)) then some (.tup [.fl .f32 (toldV (narrow (lean (widen r) (widen p)))), .sb (toldB (narrow (lean (widen r) (widen p))))]) else none := by kernel_rfl
  have hn := ((lean_up (widen r) (widen p)).mono (by decide : (4 : Int) ≤ 127)).narrow
  rw [h, idx2_eq, hn.1, (told_fin hn.2).1, (told_fin hn.2).2]
  have k1 : finS m16 = true := by kernel_rfl
  have k2 : finS p16 = true := by kernel_rfl
  unfold leV leOk
  cases h1 : finS r
  · rfl
  · rw [gt_le h1 fin1]
    cases h2 : finS p
    · have : (ge p m16 && le p p16) = false := by
        cases h3 : ge p m16
        · rfl
        · cases h4 : le p p16
          · rfl
          · rw [between k1 k2 h3 h4] at h2; cases h2
      rw [this, Bool.and_false]; cases le r one32 <;> rfl
    · rw [lt_ge h2 k1, gt_le h2 k2]
      cases le r one32 <;> cases ge p m16 <;> cases le p p16 <;> rfl
def eLeanOf : Entry Try.prog := { f := 42, fn := shSS fun r p => rSB (leV r p) (leOk r p), ok := okSS (E := [eAreFinite2, eLean, eNarrowed]) Try.func42 (by kernel_rfl) fun r p _ => eLeanOf_run r p }
end Go.Proofs.Ytlpahmefebgdlaa.Fx
/- Bounds from below: positive normal numbers, products, quotients, roots. No condition. -/
namespace Go.Proofs.Ytlpahmefebgdlaa.Fx
open Go Nr Ieee

theorem cut_floor (neg : Bool) (n d : Nat) : n / 2 ^ d ≤ Toward.even.cut neg n d := by
  unfold Toward.cut
  simp only [shl, Nat.one_mul]
  by_cases hg : d ≤ n.log2 + 2
  · rw [Nat.min_eq_left hg]; exact Nat.le_add_right _ _
  · have h1 := lt_log2 n
    have h2 : 2 ^ (n.log2 + 2) = 2 * 2 ^ (n.log2 + 1) := by rw [Nat.pow_succ]; omega
    have h3 : 2 ^ (n.log2 + 2) ≤ 2 ^ d := Nat.pow_le_pow_right (by decide) (by omega)
    rw [Nat.div_eq_of_lt (by omega : n < 2 ^ d)]; exact Nat.zero_le _

theorem norm_word (s : Bool) {mag : Nat} {place a b : Int} (hm : mag ≠ 0) (ha : a ≤ mag.log2 + place) (hb : mag.log2 + place ≤ b) (h1 : -1022 ≤ a) (h2 : b ≤ 1021) :
    ∃ m e, Num (bx (double.nearest s mag place)) s m e ∧ 2 ^ 52 ≤ m ∧ a ≤ e + 52 ∧ e + 52 ≤ b + 1 := by
  have e1 : double.leastPlace = -1074 := by decide
  have e2 : double.fractionBits = 52 := rfl
  have e3 : double.infRung = 2047 * 2 ^ 52 := by decide
  have e4 : double.signWeight = 2048 * 2 ^ 52 := by decide
  have e5 : double.binade = 2 ^ 52 := by decide
  have hl := Nat.log2_self_le hm
  have hk := kept_le double s (mag := mag) (place := place)
  rw [e1, e2] at hk
  obtain ⟨last, hlast⟩ : ∃ last, last = place + (mag.log2 : Int) - 52 := ⟨_, rfl⟩
  have hmax : max (place + (mag.log2 : Int) - ((52 : Nat) : Int)) (-1074) = last := by omega
  rw [hmax] at hk
  have hge : 2 ^ 52 ≤ Toward.even.cut s (mag <<< (place - last).toNat) (last - place).toNat := by
    refine Nat.le_trans ?_ (cut_floor _ _ _)
    refine (Nat.le_div_iff_mul_le (Nat.two_pow_pos _)).2 ?_
    rw [shl, ← Nat.pow_add]
    refine Nat.le_trans ?_ (Nat.mul_le_mul_right _ hl)
    rw [← Nat.pow_add]
    exact Nat.pow_le_pow_right (by decide) (by omega)
  have hw : double.nearest s mag place = double.word s (min ((last - -1074).toNat * 2 ^ 52 + Toward.even.cut s (mag <<< (place - last).toNat) (last - place).toNat) double.infRung) := by
    unfold Format.nearest
    rw [if_neg hm]
    dsimp only
    rw [e1, e2, hmax, e5]
  generalize Toward.even.cut s (mag <<< (place - last).toNat) (last - place).toNat = kept at hk hge hw
  obtain ⟨K, hK⟩ := Int.eq_ofNat_of_zero_le (show 0 ≤ last - -1074 by omega)
  have hK2 : (last - -1074).toNat = K := by omega
  have hKb : K ≤ 2043 := by omega
  have hk' : kept ≤ 2 * 2 ^ 52 := hk
  have hlt : K * 2 ^ 52 + kept < 2047 * 2 ^ 52 := by omega
  rw [hK2, e3, Nat.min_eq_left (Nat.le_of_lt hlt)] at hw
  have hread : double.read (double.nearest s mag place) = .number s (2 ^ 52 + (K * 2 ^ 52 + kept) % 2 ^ 52) (-1074 + (((K * 2 ^ 52 + kept) / 2 ^ 52 - 1 : Nat) : Int)) := by
    rw [hw, read_word double s (by omega)]
    unfold readRung
    rw [e5, e3, e1, if_neg (by omega), if_pos hlt]
  refine ⟨_, _, ⟨_, rfl, hread⟩, by omega, ?_, ?_⟩ <;> omega

/-- Positive, normal, with its exponent between two bounds. -/
def Bd (a b : Int) (x : F64) : Prop := ∃ m e, Num x false m e ∧ 2 ^ 52 ≤ m ∧ a ≤ e + 52 ∧ e + 52 ≤ b

theorem Bd.mono {a b c d : Int} {x : F64} (h : Bd a b x) (h1 : c ≤ a) (h2 : b ≤ d) : Bd c d x := by
  obtain ⟨m, e, h3, h4, h5, h6⟩ := h
  exact ⟨m, e, h3, h4, by omega, by omega⟩

theorem Bd.up {a b : Int} {x : F64} (h : Bd a b x) : Up (b + 1) x := by
  obtain ⟨m, e, h1, h2, h3, h4⟩ := h
  refine ⟨false, m, e, h1, .inr ⟨by omega, ?_⟩⟩
  exact Nat.le_trans (Nat.le_of_lt h1.bound.1) (Nat.pow_le_pow_right (by decide) (by omega))

theorem Bd.lo {a b : Int} {x : F64} (h : Bd a b x) : ∃ L, Lo L x ∧ a ≤ L ∧ L ≤ b := by
  obtain ⟨m, e, h1, h2, h3, h4⟩ := h
  exact ⟨e + 52, ⟨false, m, e, h1, h2, rfl⟩, h3, h4⟩

theorem log_norm {m : Nat} (h1 : 2 ^ 52 ≤ m) (h2 : m < 2 ^ 53) : m.log2 = 52 :=
  (Nat.log2_eq_iff (by have : 0 < 2 ^ 52 := by decide
                       omega)).2 ⟨h1, h2⟩

theorem log_bounds {n a b : Nat} (h1 : 2 ^ a ≤ n) (h2 : n < 2 ^ (b + 1)) : n ≠ 0 ∧ a ≤ n.log2 ∧ n.log2 ≤ b := by
  have h0 : n ≠ 0 := by have := Nat.two_pow_pos a; omega
  refine ⟨h0, (Nat.le_log2 h0).2 h1, ?_⟩
  have := (Nat.log2_lt h0).2 h2
  omega

theorem Bd.mul {a b c d : Int} {x y : F64} (hx : Bd a b x) (hy : Bd c d y) (h1 : -1022 ≤ a + c) (h2 : b + d ≤ 1020) : Bd (a + c) (b + d + 2) (x * y) := by
  obtain ⟨m, i, hx, m1, m2, m3⟩ := hx
  obtain ⟨n, j, hy, n1, n2, n3⟩ := hy
  have bm := hx.bound
  have bn := hy.bound
  obtain ⟨r, rfl, hr⟩ := hx
  obtain ⟨q, rfl, hq⟩ := hy
  rw [mul_some, hr, hq]
  obtain ⟨k0, k1, k2⟩ := log_bounds (n := m * n) (a := 104) (b := 105) (by
    rw [show 2 ^ 104 = 2 ^ 52 * 2 ^ 52 from rfl]; exact Nat.mul_le_mul m1 n1) (by
    rw [show 2 ^ (105 + 1) = 2 ^ 53 * 2 ^ 53 from rfl]; exact Nat.mul_lt_mul'' bm.1 bn.1)
  obtain ⟨m', e', g1, g2, g3, g4⟩ := norm_word (false ^^ false) (mag := m * n) (place := i + j) (a := a + c) (b := b + d + 1) k0 (by omega) (by omega) h1 (by omega)
  exact ⟨m', e', g1, g2, g3, by omega⟩

theorem Bd.div {a b c d : Int} {x y : F64} (hx : Bd a b x) (hy : Bd c d y) (h1 : -1021 ≤ a - d) (h2 : b - c ≤ 1020) : Bd (a - d - 1) (b - c + 1) (x / y) := by
  obtain ⟨m, i, hx, m1, m2, m3⟩ := hx
  obtain ⟨n, j, hy, n1, n2, n3⟩ := hy
  have bm := hx.bound
  have bn := hy.bound
  obtain ⟨r, rfl, hr⟩ := hx
  obtain ⟨q, rfl, hq⟩ := hy
  have hn0 : n ≠ 0 := by have : 0 < 2 ^ 52 := by decide
                         omega
  rw [div_some, hr, hq]
  have : (((Datum.number false m i).quotient 54 (Datum.number false n j)).map double.write : Option Nat) =
      some (double.nearest (false ^^ false) (2 * ((m <<< (54 + n.log2 - m.log2)) / n) + (((m <<< (54 + n.log2 - m.log2)) % n) != 0).toNat) (i - j - ((54 + n.log2 - m.log2 : Nat) : Int) - 1)) := by
    simp only [Datum.quotient, if_neg hn0]; rfl
  rw [this, log_norm m1 bm.1, log_norm n1 bn.1]
  have e54 : 54 + 52 - 52 = 54 := rfl
  rw [e54, shl]
  have q1 : 2 ^ 53 ≤ m * 2 ^ 54 / n := by
    refine (Nat.le_div_iff_mul_le (by omega)).2 ?_
    have := bn.1
    omega
  have q2 : m * 2 ^ 54 / n < 2 ^ 55 := by
    refine (Nat.div_lt_iff_lt_mul (by omega)).2 ?_
    have := bm.1
    omega
  have hb : ((m * 2 ^ 54 % n) != 0).toNat ≤ 1 := Bool.toNat_le _
  generalize ((m * 2 ^ 54 % n) != 0).toNat = bit at hb
  generalize m * 2 ^ 54 / n = z at q1 q2
  obtain ⟨k0, k1, k2⟩ := log_bounds (n := 2 * z + bit) (a := 54) (b := 55) (by omega) (by omega)
  obtain ⟨m', e', g1, g2, g3, g4⟩ := norm_word (false ^^ false) (mag := 2 * z + bit) (place := i - j - ((54 : Nat) : Int) - 1) (a := a - d - 1) (b := b - c) k0 (by omega) (by omega) (by omega) (by omega)
  exact ⟨m', e', g1, g2, g3, by omega⟩

/-- A positive number and one that is not below zero. -/
theorem Bd.add {a b E F : Int} {x y : F64} {n : Nat} {j : Int} (hx : Bd a b x) (hy : Num y false n j) (hn : Le2 n j E) (hb : b + 1 ≤ F) (hE : E ≤ F) (h1 : -1022 ≤ a) (h2 : F ≤ 1020) : Bd a (F + 2) (x + y) := by
  obtain ⟨m, i, hx, m1, m2, m3⟩ := hx
  have bm := hx.bound
  have bn := hy.bound
  rw [hx.add hy]
  unfold addW
  obtain ⟨t, ht⟩ : ∃ t, t = min i j := ⟨_, rfl⟩
  rw [← ht]
  have hT : (signed false m (i - t).toNat + signed false n (j - t).toNat).natAbs = m * 2 ^ (i - t).toNat + n * 2 ^ (j - t).toNat := by
    rw [signed_eq, signed_eq]
    generalize m * 2 ^ (i - t).toNat = z1
    generalize n * 2 ^ (j - t).toNat = z2
    simp; omega
  have hs : (if signed false m (i - t).toNat + signed false n (j - t).toNat = 0 then false && false else decide (signed false m (i - t).toNat + signed false n (j - t).toNat < 0)) = false := by
    rw [signed_eq, signed_eq]
    generalize m * 2 ^ (i - t).toNat = z1
    generalize n * 2 ^ (j - t).toNat = z2
    simp; omega
  rw [hT, hs]
  have hm1 : 2 ^ (52 + (i - t).toNat) ≤ m * 2 ^ (i - t).toNat := by rw [Nat.pow_add]; exact Nat.mul_le_mul_right _ m1
  have hm2 : m * 2 ^ (i - t).toNat < 2 ^ (F - t).toNat := by
    refine Nat.lt_of_lt_of_le (Nat.mul_lt_mul_of_pos_right bm.1 (Nat.two_pow_pos _)) ?_
    rw [← Nat.pow_add]
    exact Nat.pow_le_pow_right (by decide) (by omega)
  have hn2 : n * 2 ^ (j - t).toNat ≤ 2 ^ (F - t).toNat := by
    rcases hn with rfl | ⟨k1, k2⟩
    · rw [Nat.zero_mul]; exact Nat.zero_le _
    · refine Nat.le_trans (Nat.mul_le_mul_right _ k2) ?_
      rw [← Nat.pow_add]
      exact Nat.pow_le_pow_right (by decide) (by omega)
  obtain ⟨k0, k1, k2⟩ := log_bounds (n := m * 2 ^ (i - t).toNat + n * 2 ^ (j - t).toNat) (a := 52 + (i - t).toNat) (b := (F - t).toNat) (by omega) (by rw [Nat.pow_succ]; omega)
  obtain ⟨m', e', g1, g2, g3, g4⟩ := norm_word false (mag := m * 2 ^ (i - t).toNat + n * 2 ^ (j - t).toNat) (place := t) (a := a) (b := F + 1) k0 (by omega) (by omega) h1 (by omega)
  exact ⟨m', e', g1, g2, g3, by omega⟩

theorem rootFrom_bounds (n : Nat) : ∀ (todo root : Nat), root ≤ Datum.rootFrom n todo root ∧ Datum.rootFrom n todo root < root + 2 ^ todo
  | 0, root => ⟨Nat.le_refl _, by show root < root + 1; omega⟩
  | todo + 1, root => by
    have hp := Nat.two_pow_pos todo
    have e : 2 ^ (todo + 1) = 2 * 2 ^ todo := by rw [Nat.pow_succ]; omega
    unfold Datum.rootFrom
    dsimp only
    split
    · have := rootFrom_bounds n todo (root + 1 <<< todo)
      rw [shl, Nat.one_mul] at this ⊢
      omega
    · have := rootFrom_bounds n todo root
      omega

theorem rootFrom_first {n t : Nat} (h : 2 ^ (t + t) ≤ n) : 2 ^ t ≤ Datum.rootFrom n (t + 1) 0 := by
  unfold Datum.rootFrom
  dsimp only
  rw [shl, Nat.one_mul, Nat.zero_add, if_pos (by rw [← Nat.pow_add]; exact h)]
  exact (rootFrom_bounds n t (2 ^ t)).1

theorem Bd.sqrt {a b : Int} {x : F64} (hx : Bd a b x) (h1 : -1022 ≤ a) (h2 : b ≤ 1023) : Bd (a / 2) (b / 2 + 1) (Fx.sqrt x) := by
  obtain ⟨m, i, hx, m1, m2, m3⟩ := hx
  have bm := hx.bound
  obtain ⟨r, rfl, hr⟩ := hx
  have hm0 : m ≠ 0 := by have : 0 < 2 ^ 52 := by decide
                         omega
  have hl := log_norm m1 bm.1
  obtain ⟨p, hp⟩ : ∃ p, p = ((i - ((2 * 54 - m.log2 : Nat) : Int)) % 2).toNat := ⟨_, rfl⟩
  have hs : Fx.sqrt (bx r) = bx (double.nearest false (2 * Datum.rootFrom (m <<< (2 * 54 - m.log2 + p)) ((m <<< (2 * 54 - m.log2 + p)).log2 / 2 + 1) 0 + (Datum.rootFrom (m <<< (2 * 54 - m.log2 + p)) ((m <<< (2 * 54 - m.log2 + p)).log2 / 2 + 1) 0 * Datum.rootFrom (m <<< (2 * 54 - m.log2 + p)) ((m <<< (2 * 54 - m.log2 + p)).log2 / 2 + 1) 0 != m <<< (2 * 54 - m.log2 + p)).toNat) ((i - ((2 * 54 - m.log2 + p : Nat) : Int)) / 2 - 1)) := by
    show (((double.read r).root 54).map double.write : Option Nat) = _
    rw [hr, hp]
    simp only [Datum.root, if_neg hm0]
    rfl
  rw [hs, hl]
  rw [hl] at hp
  have hp2 : p ≤ 1 := by omega
  have e56 : 2 * 54 - 52 = 56 := rfl
  rw [e56] at hp ⊢
  rw [shl, log2_mul_pow hm0, hl]
  have ht : (52 + (56 + p)) / 2 = 54 := by omega
  rw [ht]
  have n1 : 2 ^ (54 + 54) ≤ m * 2 ^ (56 + p) := by
    refine Nat.le_trans ?_ (Nat.mul_le_mul_right _ m1)
    rw [← Nat.pow_add]
    exact Nat.pow_le_pow_right (by decide) (by omega)
  have r1 := rootFrom_first n1
  have r2 := (rootFrom_bounds (m * 2 ^ (56 + p)) (54 + 1) 0).2
  have hb : ∀ c : Bool, c.toNat ≤ 1 := Bool.toNat_le
  generalize hW : Datum.rootFrom (m * 2 ^ (56 + p)) (54 + 1) 0 = W at r1 r2
  have hb2 := hb (W * W != m * 2 ^ (56 + p))
  generalize (W * W != m * 2 ^ (56 + p)).toNat = bit at hb2
  obtain ⟨k0, k1, k2⟩ := log_bounds (n := 2 * W + bit) (a := 55) (b := 55) (by omega) (by omega)
  obtain ⟨m', e', g1, g2, g3, g4⟩ := norm_word false (mag := 2 * W + bit) (place := (i - ((56 + p : Nat) : Int)) / 2 - 1) (a := a / 2) (b := b / 2) k0 (by omega) (by omega) (by omega) (by omega)
  exact ⟨m', e', g1, g2, g3, by omega⟩

end Go.Proofs.Ytlpahmefebgdlaa.Fx
/- Contracts: angles, FlybyTurn, two ways; its law. No condition. -/
namespace Go.Proofs.Ytlpahmefebgdlaa.Fx
open Go Go.RowKit Nr Ieee

theorem finite_eq (x : F64) : finite x = !(ne (x - x) zero) := by
  rcases num_cases x with ⟨s, m, e, h⟩ | ⟨r, s, rfl, h⟩ | rfl | ⟨r, s, f, rfl, h⟩
  · rw [finite_num h, h.sub_self]; kernel_rfl
  · rw [inf_sub h]
    unfold finite isInf ne gt
    have e1 : ord (bx r) (bx r) = some .eq := by rw [ord_some, h]; cases s <;> rfl
    have e2 : fabs (bx r) = bx double.infRung := by
      have es : double.signWeight = 2 ^ 63 := by decide
      show (some (r % 2 ^ 63) : Option Nat) = _
      unfold Format.read at h
      rw [es] at h
      dsimp only at h
      split at h
      · cases h
      · split at h
        · cases h
        · split at h
          · rename_i k; rw [k]
          · cases h
    rw [e1, e2]; rfl
  · rfl
  · rw [nan_sub h]
    unfold finite ne
    have e1 : ord (bx r) (bx r) = none := by rw [ord_some, h]; rfl
    rw [e1]; rfl

def nanA : Option AV := some (.c (.fl .f64 none))
def zeroA : Option AV := some (.c (.fl .f64 zero))
def angN (y x out : F64) : Option AV := bif lt x zero then (bif lt y zero then some (.c (.fl .f64 (-(half - out)))) else some (.c (.fl .f64 (half - out)))) else (bif lt y zero then some (.c (.fl .f64 (-out))) else some (.c (.fl .f64 out)))
theorem angN_eq (y x out : F64) : angN y x out = some (.c (.fl .f64 (angEnd y x out))) := by unfold angN angEnd; simp only [push_fl]
def angW (y x : F64) : Option AV := bif gt (fabs y) (fabs x) then
    (bif gt (fabs y) (fabs x) then angN y x (quarter - angOut (angT (angT (angT (fabs x / fabs y))))) else angN y x (angOut (angT (angT (angT (fabs x / fabs y))))))
  else (bif gt (fabs y) (fabs x) then angN y x (quarter - angOut (angT (angT (angT (fabs y / fabs x))))) else angN y x (angOut (angT (angT (angT (fabs y / fabs x))))))
theorem angW_eq (y x : F64) : angW y x = some (.c (.fl .f64 (angle y x))) := by
  unfold angW angle
  simp only [angN_eq]
  cases gt (fabs y) (fabs x) <;> rfl
-- the angle's bound
theorem lo_mono {E L : Int} {x y : F64} (hx : Up E x) (hy : Lo L y) (h0 : 0 ≤ L) (hL : L ≤ 1022 + E) (h1 : -1022 ≤ E) (h2 : E ≤ 1000) : Up (E + 1) (x / y) := (hx.div hy (by omega) (by omega)).mono (by omega)

theorem sqr_pos {E : Int} {t : F64} (h : Up E t) (h1 : -500 ≤ E) (h2 : E ≤ 500) : ∃ n j, Num (t * t) false n j ∧ Le2 n j (E + E) := by
  obtain ⟨s, m, i, ⟨r, rfl, hr⟩, hm⟩ := h
  rw [mul_some, hr]
  have hs : (s ^^ s) = false := by cases s <;> rfl
  obtain ⟨m', e', h3, h4⟩ := num_word (s ^^ s) (m := m * m) (e := i + i) (E := E + E) (by
    rcases hm with h | ⟨h, h'⟩
    · exact .inl (by rw [h, Nat.zero_mul])
    · refine .inr ⟨by omega, Nat.le_trans (Nat.mul_le_mul h' h') ?_⟩
      rw [← Nat.pow_add]
      exact Nat.pow_le_pow_right (by decide) (by omega)) (by omega) (by omega)
  rw [hs] at h3
  refine ⟨m', e', ?_, h4⟩
  rw [← hs] at h3 ⊢
  exact h3

theorem bd_one : Bd 0 0 one := ⟨2 ^ 52, -52, ⟨_, rfl, by decide⟩, by decide, by decide, by decide⟩

theorem Bd.num {a b : Int} {x : F64} (h : Bd a b x) : ∃ n j, Num x false n j ∧ Le2 n j (b + 1) := by
  obtain ⟨m, e, h1, h2, h3, h4⟩ := h
  refine ⟨m, e, h1, .inr ⟨by omega, ?_⟩⟩
  exact Nat.le_trans (Nat.le_of_lt h1.bound.1) (Nat.pow_le_pow_right (by decide) (by omega))

theorem angT_up {E : Int} {t : F64} (h : Up E t) (h1 : 0 ≤ E) (h2 : E ≤ 100) : Up (E + 1) (angT t) := by
  unfold angT
  obtain ⟨n, j, hn, hl⟩ := sqr_pos h (by omega) (by omega)
  have b1 : Bd 0 (E + E + 1 + 2) (one + t * t) := bd_one.add hn hl (F := E + E + 1) (by omega) (by omega) (by omega) (by omega)
  have b2 := b1.sqrt (by omega) (by omega)
  obtain ⟨n', j', hn', hl'⟩ := b2.num
  have b3 := bd_one.add hn' hl' (F := (E + E + 1 + 2) / 2 + 1 + 1) (by omega) (by omega) (by omega) (by omega)
  obtain ⟨L, hL, g1, g2⟩ := b3.lo
  exact lo_mono h hL g1 (by omega) (by omega) (by omega)

theorem angStep_up {u p : F64} {k : Int} {E L : Int} (hu : Up 8 u) (hp : Up E p) (hk : Lo L (ki k)) (h0 : 0 ≤ E) (hL : 0 ≤ L) (hL2 : L ≤ 100) (hE : E ≤ 900) : Up (E + 9) (angStep u p k) := by
  have h1 := hu.mul hp (by omega) (by omega)
  have h2 := lo_mono up_one hk hL (by omega) (by omega) (by omega)
  exact ((h2.mono (by omega)).sub h1 (by omega) (by omega)).mono (by omega)

theorem angOut_up {t : F64} (h : Up 4 t) : Up 78 (angOut t) := by
  have hu := h.mul h (by decide) (by decide)
  have p15 := angStep_up (k := 15) (L := 3) hu (up_zero 0) (lo_of _ false (15 * 2 ^ 49) (-49) rfl (by kernel_rfl) (by decide) (by decide)) (by decide) (by decide) (by decide) (by decide)
  have p13 := angStep_up (k := 13) (L := 3) hu p15 (lo_of _ false (13 * 2 ^ 49) (-49) rfl (by kernel_rfl) (by decide) (by decide)) (by decide) (by decide) (by decide) (by decide)
  have p11 := angStep_up (k := 11) (L := 3) hu p13 (lo_of _ false (11 * 2 ^ 49) (-49) rfl (by kernel_rfl) (by decide) (by decide)) (by decide) (by decide) (by decide) (by decide)
  have p9 := angStep_up (k := 9) (L := 3) hu p11 (lo_of _ false (9 * 2 ^ 49) (-49) rfl (by kernel_rfl) (by decide) (by decide)) (by decide) (by decide) (by decide) (by decide)
  have p7 := angStep_up (k := 7) (L := 2) hu p9 (lo_of _ false (7 * 2 ^ 50) (-50) rfl (by kernel_rfl) (by decide) (by decide)) (by decide) (by decide) (by decide) (by decide)
  have p5 := angStep_up (k := 5) (L := 2) hu p7 (lo_of _ false (5 * 2 ^ 50) (-50) rfl (by kernel_rfl) (by decide) (by decide)) (by decide) (by decide) (by decide) (by decide)
  have p3 := angStep_up (k := 3) (L := 1) hu p5 (lo_of _ false (3 * 2 ^ 51) (-51) rfl (by kernel_rfl) (by decide) (by decide)) (by decide) (by decide) (by decide) (by decide)
  have p1 := angStep_up (k := 1) (L := 0) hu p3 (lo_of _ false (2 ^ 52) (-52) rfl (by kernel_rfl) (by decide) (by decide)) (by decide) (by decide) (by decide) (by decide)
  have hp : Up 72 (angPoly (t * t)) := p1
  have h8 : Up 3 eight := up_of _ false (2 ^ 52) (-49) rfl (by decide) (by decide) (by decide)
  have h3 := (h8.mul (h.mul hp (by decide) (by decide)) (by decide) (by decide)).div lo_full (by decide) (by decide)
  exact h3.mono (by decide)

theorem angEnd_up {y x o : F64} (h : Up 79 o) : Up 80 (angEnd y x o) := by
  have h1 := (up_half.mono (by decide : (-1 : Int) ≤ 79)).sub h (by decide) (by decide)
  unfold angEnd
  cases lt x zero <;> cases lt y zero
  · exact h.mono (by decide)
  · exact h.neg.mono (by decide)
  · exact h1
  · exact h1.neg

/-- The less over the greater. -/
theorem quot_le {m n : Nat} {i j : Int} {x y : F64} (hx : Num x false m i) (hy : Num y false n j) (hn : n ≠ 0) (h : m * 2 ^ (i - min i j).toNat ≤ n * 2 ^ (j - min i j).toNat) : Up 1 (x / y) := by
  obtain ⟨b1, b2, b3⟩ := hx.bound
  obtain ⟨c1, c2, c3⟩ := hy.bound
  obtain ⟨r, rfl, hr⟩ := hx
  obtain ⟨q, rfl, hq⟩ := hy
  rw [div_some, hr, hq]
  have : (((Datum.number false m i).quotient 54 (Datum.number false n j)).map double.write : Option Nat) =
      some (double.nearest (false ^^ false) (2 * ((m <<< (54 + n.log2 - m.log2)) / n) + (((m <<< (54 + n.log2 - m.log2)) % n) != 0).toNat) (i - j - ((54 + n.log2 - m.log2 : Nat) : Int) - 1)) := by
    simp only [Datum.quotient, if_neg hn]; rfl
  rw [this]
  by_cases h0 : m = 0
  · subst h0
    refine ⟨_, _, _, (num_word (false ^^ false) (m := 2 * ((0 <<< (54 + n.log2 - Nat.log2 0)) / n) + (((0 <<< (54 + n.log2 - Nat.log2 0)) % n) != 0).toNat) (e := i - j - ((54 + n.log2 - Nat.log2 0 : Nat) : Int) - 1) (E := 1) (.inl (by simp [Nat.shiftLeft_eq])) (by decide) (by decide)).choose_spec.choose_spec.1, (num_word (false ^^ false) (m := 2 * ((0 <<< (54 + n.log2 - Nat.log2 0)) / n) + (((0 <<< (54 + n.log2 - Nat.log2 0)) % n) != 0).toNat) (e := i - j - ((54 + n.log2 - Nat.log2 0 : Nat) : Int) - 1) (E := 1) (.inl (by simp [Nat.shiftLeft_eq])) (by decide) (by decide)).choose_spec.choose_spec.2⟩
  · have hlog : ∀ {a : Nat}, a ≠ 0 → a < 2 ^ 53 → a.log2 ≤ 52 := by
      intro a ha hb
      have h5 : 2 ^ a.log2 < 2 ^ 53 := Nat.lt_of_le_of_lt (Nat.log2_self_le ha) hb
      have := (Nat.pow_lt_pow_iff_right (by decide)).1 h5
      omega
    have l1 := hlog h0 b1
    have l2 := hlog hn c1
    obtain ⟨k, hk⟩ : ∃ k, k = 54 + n.log2 - m.log2 := ⟨_, rfl⟩
    rw [← hk, shl]
    have hij : (i - j) + m.log2 ≤ n.log2 + 1 := by
      have t1 : 2 ^ (m.log2 + (i - min i j).toNat) < 2 ^ (n.log2 + 1 + (j - min i j).toNat) := by
        rw [Nat.pow_add, Nat.pow_add]
        refine Nat.lt_of_le_of_lt (Nat.mul_le_mul_right _ (Nat.log2_self_le h0)) (Nat.lt_of_le_of_lt h ?_)
        exact Nat.mul_lt_mul_of_pos_right (lt_log2 n) (Nat.two_pow_pos _)
      have := (Nat.pow_lt_pow_iff_right (by decide)).1 t1
      omega
    obtain ⟨X, hX⟩ : ∃ X : Nat, (X : Int) = k - (i - j) := ⟨(k - (i - j)).toNat, by omega⟩
    have hq1 : m * 2 ^ k / n ≤ 2 ^ X := by
      refine Nat.div_le_of_le_mul ?_
      refine Nat.le_of_mul_le_mul_right (c := 2 ^ (i - min i j).toNat) ?_ (Nat.two_pow_pos _)
      rw [Nat.mul_assoc, Nat.mul_comm (2 ^ k), ← Nat.mul_assoc]
      refine Nat.le_trans (Nat.mul_le_mul_right _ h) ?_
      rw [Nat.mul_assoc, Nat.mul_assoc, ← Nat.pow_add, ← Nat.pow_add]
      exact Nat.mul_le_mul_left _ (Nat.pow_le_pow_right (by decide) (by omega))
    have hb : ((m * 2 ^ k % n) != 0).toNat ≤ 1 := Bool.toNat_le _
    have hle : Le2 (2 * (m * 2 ^ k / n) + ((m * 2 ^ k % n) != 0).toNat) (i - j - (k : Int) - 1) 1 := by
      right
      refine ⟨by omega, ?_⟩
      have e1 : (1 - (i - j - (k : Int) - 1)).toNat = X + 2 := by omega
      have e2 : 2 ^ (X + 2) = 2 ^ X * 4 := by rw [Nat.pow_add]
      rw [e1, e2]
      have := Nat.two_pow_pos X
      omega
    obtain ⟨m', e', h3, h4⟩ := num_word (false ^^ false) hle (by decide) (by decide)
    exact ⟨_, _, _, h3, h4⟩

/-- The angle of numbers is not great. -/
theorem angleOf_up (y x : F64) : angleOf y x = nn ∨ Up 80 (angleOf y x) := by
  unfold angleOf
  rcases num_cases y with ⟨s, m, i, hy⟩ | h
  · rcases num_cases x with ⟨t, n, j, hx⟩ | h
    · right
      rw [finite_num hy, finite_num hx]
      cases hz : (eq y zero && eq x zero) with
      | true => exact up_zero 80
      | false =>
        show Up 80 (angle y x)
        have fy := fabs_num hy
        have fx := fabs_num hx
        have hg : gt (fabs y) (fabs x) = decide (n * 2 ^ (j - min i j).toNat < m * 2 ^ (i - min i j).toNat) := by
          unfold gt
          rw [fy.ord fx, cmp_gt, signed_eq, signed_eq]
          generalize n * 2 ^ (j - min i j).toNat = z1
          generalize m * 2 ^ (i - min i j).toNat = z2
          simp
        have three : ∀ {t : F64}, Up 1 t → Up 78 (angOut (angT (angT (angT t)))) := fun h => angOut_up (angT_up (angT_up (angT_up h (by decide) (by decide)) (by decide) (by decide)) (by decide) (by decide))
        have hq : Up 1 quarter := up_of _ false (2 ^ 52) (-54) rfl (by decide) (by decide) (by decide)
        unfold angle
        cases hb : gt (fabs y) (fabs x) with
        | true =>
          rw [hb] at hg
          have hlt := of_decide_eq_true hg.symm
          have hm0 : m ≠ 0 := by intro e; subst e; rw [Nat.zero_mul] at hlt; omega
          have hd : Up 1 (fabs x / fabs y) := quot_le fx fy hm0 (by rw [Int.min_comm j i]; exact Nat.le_of_lt hlt)
          exact angEnd_up ((hq.mono (by decide)).sub (three hd) (by decide) (by decide))
        | false =>
          rw [hb] at hg
          have hle := of_decide_eq_false hg.symm
          have hn0 : n ≠ 0 := by
            intro e
            subst e
            rw [Nat.zero_mul] at hle
            have hm0 : m = 0 := by
              by_cases hm : m = 0
              · exact hm
              · exact absurd (Nat.mul_pos (Nat.pos_of_ne_zero hm) (Nat.two_pow_pos _)) hle
            subst hm0
            have z1 : eq y zero = true := by
              unfold eq
              rw [hy.ord num_zero, cmp_eq, signed_eq, signed_eq]; simp
            have z2 : eq x zero = true := by
              unfold eq
              rw [hx.ord num_zero, cmp_eq, signed_eq, signed_eq]; simp
            rw [z1, z2] at hz; cases hz
          have hd : Up 1 (fabs y / fabs x) := quot_le fy fx hn0 (Nat.le_of_not_lt hle)
          exact angEnd_up ((three hd).mono (by decide))
    · left
      have : finite x = false := by
        rw [finite_eq]
        rcases h with ⟨r, s, rfl, h⟩ | rfl | ⟨r, s, f, rfl, h⟩
        · rw [inf_sub h]; rfl
        · rfl
        · rw [nan_sub h]; rfl
      rw [this, Bool.not_false, Bool.or_true]; rfl
  · left
    have : finite y = false := by
      rw [finite_eq]
      rcases h with ⟨r, s, rfl, h⟩ | rfl | ⟨r, s, f, rfl, h⟩
      · rw [inf_sub h]; rfl
      · rfl
      · rw [nan_sub h]; rfl
    rw [this]; rfl

-- FlybyTurn
def flybyE (m v n : F64) : F64 := one + ((n * v) * v) / m
def flyby (m v n : F64) : F64 := two * angleOf one (sqrt (flybyE m v n * flybyE m v n - one))
theorem flyby_fits (m v n : F64) : fits (flyby m v n) = true := by
  unfold flyby
  rcases angleOf_up one (sqrt (flybyE m v n * flybyE m v n - one)) with h | h
  · rw [h]; rfl
  · have h2 : Up 1 two := up_of _ false (2 ^ 52) (-51) rfl (by decide) (by decide) (by decide)
    exact ((h2.mul h (by decide) (by decide)).mono (by decide)).narrow.1
def above3 (m v n : F32) : Bool := aboveS m && aboveS v && aboveS n
def flN (m v n : F32) : F32 := narrow (flyby (widen m) (widen v) (widen n))
def flV (m v n : F32) : F32 := bif above3 m v n then giveV (flN m v n) else c32 0
def flB (m v n : F32) : Bool := bif above3 m v n then giveB (flN m v n) else false
theorem told_give (x : F32) : toldV x = giveV x ∧ toldB x = giveB x := by
  unfold toldV toldB giveV giveB; rw [fin_eq]; exact ⟨rfl, rfl⟩
end Go.Proofs.Ytlpahmefebgdlaa.Fx
/- Contracts: LeadOf, two ways; its law. No condition. -/
namespace Go.Proofs.Ytlpahmefebgdlaa.Fx
open Go Go.RowKit Nr Ieee

theorem near_of (s : Bool) {mag : Nat} {place last : Int} {c : Nat} (hm : mag ≠ 0) (hl : place + mag.log2 = last + 52) (h1 : -1074 ≤ last) (hc : Toward.even.cut s (mag <<< (place - last).toNat) (last - place).toNat = c) :
    double.nearest s mag place = double.word s (min ((last + 1074).toNat * 2 ^ 52 + c) double.infRung) := by
  have e1 : double.leastPlace = -1074 := by decide
  have e2 : double.fractionBits = 52 := rfl
  have e5 : double.binade = 2 ^ 52 := by decide
  unfold Format.nearest
  rw [if_neg hm]
  dsimp only
  rw [e1, e2, e5]
  have hmax : max (place + (mag.log2 : Int) - ((52 : Nat) : Int)) (-1074) = last := by omega
  rw [hmax, hc]
  have : last - -1074 = last + 1074 := by omega
  rw [this]

theorem cut_up {s : Bool} {q rest d : Nat} (h1 : rest < 2 ^ d) (h2 : 2 ^ d < 2 * rest) (h3 : d ≤ (q * 2 ^ d + rest).log2 + 2) : Toward.even.cut s (q * 2 ^ d + rest) d = q + 1 := by
  unfold Toward.cut
  simp only [shl, Nat.one_mul]
  rw [Nat.min_eq_left h3]
  have a1 : (q * 2 ^ d + rest) / 2 ^ d = q := by
    rw [Nat.mul_comm, Nat.mul_add_div (Nat.two_pow_pos _), Nat.div_eq_of_lt h1, Nat.add_zero]
  have a2 : (q * 2 ^ d + rest) % 2 ^ d = rest := by
    rw [Nat.mul_comm, Nat.mul_add_mod, Nat.mod_eq_of_lt h1]
  rw [a1, a2]
  have : decide (2 ^ d < 2 * rest) = true := by simpa using h2
  rw [this]; rfl

theorem ar1 {m y : Nat} (h : 2 ^ 53 ≤ y) : 2 * (m * (2 * y) + 2 ^ 52) < 2 * (m * (2 * y)) + 2 * y := by
  generalize m * (2 * y) = z
  omega
theorem ar2 {y : Nat} (h : 2 ^ 54 ≤ y) : 2 ^ 52 * (2 * y) - 2 ^ 52 = (2 ^ 53 - 1) * y + (y - 2 ^ 52) := by omega
theorem ar3 {y : Nat} (h : 2 ^ 54 ≤ y) : 2 ^ 52 * y ≤ (2 ^ 53 - 1) * y + (y - 2 ^ 52) ∧ (2 ^ 53 - 1) * y + (y - 2 ^ 52) < 2 ^ 53 * y ∧ y - 2 ^ 52 < y ∧ y < 2 * (y - 2 ^ 52) := by omega
theorem ar4 {q y : Nat} (h : 2 ^ 54 ≤ y) (hq : 2 ^ 52 ≤ q) (hq2 : q + 1 ≤ 2 ^ 53) : (q + 1) * y - 2 ^ 52 = q * y + (y - 2 ^ 52) ∧ 2 ^ 52 * y ≤ q * y + (y - 2 ^ 52) ∧ q * y + (y - 2 ^ 52) < 2 ^ 53 * y ∧ y - 2 ^ 52 < y ∧ y < 2 * (y - 2 ^ 52) := by
  have a1 := Nat.mul_le_mul_right y hq
  have a2 := Nat.mul_le_mul_right y hq2
  rw [Nat.add_mul, Nat.one_mul] at a2 ⊢
  generalize q * y = z at a1 a2 ⊢
  omega
theorem ar5 {m y : Nat} (h : 2 ^ 54 ≤ y) (hm : 2 ^ 52 ≤ m) (hm2 : m < 2 ^ 53) : 2 ^ 52 * y ≤ m * y + 2 ^ 52 ∧ m * y + 2 ^ 52 < 2 ^ 53 * y := by
  have a1 := Nat.mul_le_mul_right y hm
  have a2 := Nat.mul_le_mul_right y (show m + 1 ≤ 2 ^ 53 from hm2)
  rw [Nat.add_mul, Nat.one_mul] at a2
  generalize m * y = z at a1 a2 ⊢
  omega

theorem near_plain {s : Bool} {m : Nat} {e : Int} (h1 : 2 ^ 52 ≤ m) (h2 : m < 2 ^ 53) (he : -1074 ≤ e) : double.nearest s m e = double.word s (min ((e + 1074).toNat * 2 ^ 52 + m) double.infRung) := by
  have hm0 : m ≠ 0 := by have : 0 < 2 ^ 52 := by decide
                         omega
  have hl := log_norm h1 h2
  refine near_of s (last := e) hm0 (by omega) he ?_
  rw [Int.sub_self]
  show Toward.even.cut s (m <<< 0) 0 = m
  rw [cut_zero, Nat.shiftLeft_zero]

theorem absorb_up (s : Bool) {m : Nat} {e : Int} (h1 : 2 ^ 52 ≤ m) (h2 : m < 2 ^ 53) (he : 40 < e) :
    double.nearest s (m * 2 ^ (e + 53).toNat + 2 ^ 52) (-53) = double.nearest s m e := by
  obtain ⟨K, hK⟩ : ∃ K : Nat, (e + 53).toNat = K := ⟨_, rfl⟩
  rw [near_plain h1 h2 (by omega), hK]
  have p2 : 2 ^ 54 ≤ 2 ^ K := Nat.pow_le_pow_right (by decide) (by omega)
  obtain ⟨g1, g2⟩ := ar5 p2 h1 h2
  rw [← Nat.pow_add] at g1 g2
  have e53 : 53 + K = 52 + K + 1 := by omega
  rw [e53] at g2
  obtain ⟨k0, k1, k2⟩ := log_bounds g1 g2
  refine near_of s (last := e) k0 (by omega) (by omega) ?_
  have a1 : (-53 - e).toNat = 0 := by omega
  have a2 : (e - -53).toNat = K := by omega
  rw [a1, a2, Nat.shiftLeft_zero]
  obtain ⟨K', rfl⟩ : ∃ K', K = K' + 1 := ⟨K - 1, by omega⟩
  have h5 : Toward.even.cut s (m * 2 ^ (K' + 1) + 2 ^ 52) (K' + 1) ≤ m := by
    refine cut_lt ?_
    have h8 : (2 * m + 1) * 2 ^ (K' + 1) = 2 * (m * (2 * 2 ^ K')) + 2 * 2 ^ K' := by rw [Nat.add_mul, Nat.one_mul, Nat.mul_assoc, Nat.pow_succ, Nat.mul_comm _ 2]
    have h9 : 2 ^ (K' + 1) = 2 * 2 ^ K' := by rw [Nat.pow_succ, Nat.mul_comm]
    rw [h8, h9]
    exact ar1 (Nat.pow_le_pow_right (by decide) (by omega))
  have h6 := cut_floor s (m * 2 ^ (K' + 1) + 2 ^ 52) (K' + 1)
  have h7 : (m * 2 ^ (K' + 1) + 2 ^ 52) / 2 ^ (K' + 1) = m := by
    rw [Nat.mul_comm, Nat.mul_add_div (Nat.two_pow_pos _), Nat.div_eq_of_lt (Nat.pow_lt_pow_right (by decide) (by omega)), Nat.add_zero]
  rw [h7] at h6
  exact Nat.le_antisymm h5 h6

theorem absorb_down (s : Bool) {m : Nat} {e : Int} (h1 : 2 ^ 52 ≤ m) (h2 : m < 2 ^ 53) (he : 40 < e) :
    double.nearest s (m * 2 ^ (e + 53).toNat - 2 ^ 52) (-53) = double.nearest s m e := by
  rw [near_plain h1 h2 (by omega)]
  by_cases hm : m = 2 ^ 52
  · subst hm
    obtain ⟨K, hK⟩ : ∃ K : Nat, (e + 53).toNat = K + 1 := ⟨(e + 53).toNat - 1, by omega⟩
    have p2 : 2 ^ 54 ≤ 2 ^ K := Nat.pow_le_pow_right (by decide) (by omega)
    have h9 : 2 ^ (K + 1) = 2 * 2 ^ K := by rw [Nat.pow_succ, Nat.mul_comm]
    obtain ⟨g1, g2, g3, g4⟩ := ar3 p2
    rw [hK, h9, ar2 p2]
    rw [← Nat.pow_add] at g1
    rw [← Nat.pow_add 2 53] at g2
    have e53 : 53 + K = 52 + K + 1 := by omega
    rw [e53] at g2
    obtain ⟨k0, k1, k2⟩ := log_bounds g1 g2
    have hL : double.nearest s ((2 ^ 53 - 1) * 2 ^ K + (2 ^ K - 2 ^ 52)) (-53) = double.word s (min ((e - 1 + 1074).toNat * 2 ^ 52 + 2 ^ 53) double.infRung) := by
      refine near_of s (last := e - 1) k0 (by omega) (by omega) ?_
      have a1 : (-53 - (e - 1)).toNat = 0 := by omega
      have a2 : (e - 1 - -53).toNat = K := by omega
      rw [a1, a2, Nat.shiftLeft_zero]
      have e8 : 2 ^ 53 - 1 + 1 = 2 ^ 53 := by omega
      rw [cut_up (q := 2 ^ 53 - 1) g3 g4 (by omega), e8]
    rw [hL]
    have e1 : (e + 1074).toNat = (e - 1 + 1074).toNat + 1 := by omega
    have e2 : (e - 1 + 1074).toNat * 2 ^ 52 + 2 ^ 53 = (e + 1074).toNat * 2 ^ 52 + 2 ^ 52 := by rw [e1]; omega
    rw [e2]
  · obtain ⟨K, hK⟩ : ∃ K : Nat, (e + 53).toNat = K := ⟨_, rfl⟩
    obtain ⟨q, rfl⟩ : ∃ q, m = q + 1 := ⟨m - 1, by omega⟩
    have p2 : 2 ^ 54 ≤ 2 ^ K := Nat.pow_le_pow_right (by decide) (by omega)
    obtain ⟨g0, g1, g2, g3, g4⟩ := ar4 (q := q) p2 (by omega) (by omega)
    rw [hK, g0]
    rw [← Nat.pow_add] at g1
    rw [← Nat.pow_add 2 53] at g2
    have e53 : 53 + K = 52 + K + 1 := by omega
    rw [e53] at g2
    obtain ⟨k0, k1, k2⟩ := log_bounds g1 g2
    refine near_of s (last := e) k0 (by omega) (by omega) ?_
    have a1 : (-53 - e).toNat = 0 := by omega
    have a2 : (e - -53).toNat = K := by omega
    rw [a1, a2, Nat.shiftLeft_zero]
    exact cut_up g3 g4 (by omega)

theorem absorb (s : Bool) {m : Nat} {e : Int} (h1 : 2 ^ 52 ≤ m) (h2 : m < 2 ^ 53) (he : 40 < e) (t : Bool) :
    double.nearest s (if t then m * 2 ^ (e + 53).toNat + 2 ^ 52 else m * 2 ^ (e + 53).toNat - 2 ^ 52) (-53) = double.nearest s m e := by
  cases t with
  | true => rw [if_pos rfl]; exact absorb_up s h1 h2 he
  | false => rw [if_neg (by decide)]; exact absorb_down s h1 h2 he

theorem whole_down {x : F64} {s : Bool} {m : Nat} {e : Int} (h : Num x s m e) : whole .down x = bx (double.nearest s (Toward.down.cut s (m <<< e.toNat) (-e).toNat) 0) := by
  obtain ⟨r, rfl, hr⟩ := h
  have hd : FloatKind.f64.decode r = .number s m e := hr
  simp only [whole, hd]; rfl

theorem down_le (s : Bool) (n d : Nat) : Toward.down.cut s n d ≤ n + 1 := by
  unfold Toward.cut
  simp only [shl, Nat.one_mul]
  refine Nat.add_le_add (Nat.div_le_self _ _) (Bool.toNat_le _)

theorem floor_up {E : Int} {x : F64} (h : Up E x) (h1 : 54 ≤ E) (h2 : E ≤ 1000) : Up E (whole .down x) := by
  obtain ⟨s, m, e, hx, hm⟩ := h
  have hb := hx.bound
  rw [whole_down hx]
  have hle : Le2 (Toward.down.cut s (m <<< e.toNat) (-e).toNat) 0 E := by
    right
    refine ⟨by omega, ?_⟩
    by_cases he : 0 ≤ e
    · have a1 : (-e).toNat = 0 := by omega
      rw [a1, cut_zero, shl]
      rcases hm with rfl | ⟨k1, k2⟩
      · rw [Nat.zero_mul]; exact Nat.zero_le _
      · refine Nat.le_trans (Nat.mul_le_mul_right _ k2) ?_
        rw [← Nat.pow_add]
        exact Nat.pow_le_pow_right (by decide) (by omega)
    · have a1 : e.toNat = 0 := by omega
      rw [a1, Nat.shiftLeft_zero]
      refine Nat.le_trans (down_le _ _ _) ?_
      refine Nat.le_trans (show m + 1 ≤ 2 ^ 54 by have := hb.1; omega) ?_
      exact Nat.pow_le_pow_right (by decide) (by omega)
  obtain ⟨m', e', h3, h4⟩ := num_word s hle (by omega) (by omega)
  exact ⟨_, _, _, h3, h4⟩

/-- A number less the whole number next to it does not become too great. -/
theorem round_fits {g : F64} {s : Bool} {m : Nat} {e : Int} (h : Num g s m e) : fits (g - whole .down (g + half)) = true := by
  have hb := h.bound
  by_cases he : e ≤ 40
  · have hg : Up 93 g := ⟨s, m, e, h, .inr ⟨by omega, Nat.le_trans (Nat.le_of_lt hb.1) (Nat.pow_le_pow_right (by decide) (by omega))⟩⟩
    have hw := hg.add (up_half.mono (by decide)) (by decide) (by decide)
    have hf := floor_up hw (by decide) (by decide)
    exact (((hg.mono (by decide)).sub hf (by decide) (by decide)).mono (by decide)).narrow.1
  · have hn := h.normal (by omega)
    have hw : g + half = bx (double.nearest s m e) := by
      rw [h.add num_half]
      unfold addW
      have hmin : min e (-53) = -53 := by omega
      rw [hmin]
      have a0 : ((-53 : Int) - -53).toNat = 0 := by decide
      have a1 : (e - -53).toNat = (e + 53).toNat := by omega
      rw [a0, a1]
      have hbig : 2 ^ 52 < m * 2 ^ (e + 53).toNat := by
        have k1 : 2 ^ 1 ≤ 2 ^ (e + 53).toNat := Nat.pow_le_pow_right (by decide) (by omega)
        have k2 := Nat.mul_le_mul hn k1
        omega
      have hs : (if signed s m (e + 53).toNat + signed false (2 ^ 52) 0 = 0 then s && false else decide (signed s m (e + 53).toNat + signed false (2 ^ 52) 0 < 0)) = s := by
        rw [signed_eq, signed_eq]
        generalize m * 2 ^ (e + 53).toNat = z at hbig
        cases s <;> simp <;> omega
      have hT : (signed s m (e + 53).toNat + signed false (2 ^ 52) 0).natAbs = if (!s) then m * 2 ^ (e + 53).toNat + 2 ^ 52 else m * 2 ^ (e + 53).toNat - 2 ^ 52 := by
        rw [signed_eq, signed_eq]
        generalize m * 2 ^ (e + 53).toNat = z at hbig
        cases s <;> simp <;> omega
      rw [hs, hT, absorb s hn hb.1 (by omega)]
    obtain ⟨j, hj⟩ := num_near s hb.1 hb.2.1 hb.2.2
    have hj0 : j = 0 := by
      have := hj.bound.1
      cases j with
      | zero => rfl
      | succ j =>
        exfalso
        have k := Nat.two_pow_pos j
        rw [Nat.pow_succ, Nat.mul_comm (2 ^ j), ← Nat.mul_assoc] at this
        have k2 : m * 2 * 1 ≤ m * 2 * 2 ^ j := Nat.mul_le_mul_left _ k
        omega
    subst hj0
    have hN : Num (bx (double.nearest s m e)) s m e := by simpa using hj
    have hfl : whole .down (g + half) = bx (double.nearest s m e) := by
      rw [hw, whole_down hN]
      obtain ⟨k, rfl⟩ := Int.eq_ofNat_of_zero_le (show 0 ≤ e by omega)
      have a1 : (-(k : Int)).toNat = 0 := by omega
      have a2 : (k : Int).toNat = k := by omega
      have a3 := near_scale s m k (k : Int)
      rw [Int.sub_self] at a3
      rw [a1, a2, cut_zero, shl, a3]
    rw [hfl, h.sub_same (j := 0) (by simpa using hN)]
    exact (up_zero 127).narrow.1

-- LeadOf
def rounds (m a : F64) : F64 := sqrt (((a * a) * a) / m)
def transfer (m a b : F64) : F64 := pi * rounds m ((a + b) / two)
def leadG (m a b : F64) : F64 := half - transfer m a b / (full * rounds m b)
def lead (m a b : F64) : F64 := leadG m a b - whole .down (leadG m a b + half)
def circle (m a : F64) : F64 := sqrt (m / a)
def speedAt (m a c : F64) : F64 := sqrt (m * (two / a - one / c))
def eRounds : Entry Try.prog := { f := 86, fn := shDD fun m a => rD (rounds m a), ok := okDD (E := [eSqrt]) Try.func86 (by kernel_rfl) fun m a _ => by kernel_rfl }
def eTransfer : Entry Try.prog := { f := 125, fn := shDDD fun m a b => rD (transfer m a b), ok := okDDD (E := [eRounds]) Try.func125 (by kernel_rfl) fun m a b _ => by kernel_rfl }
def eLead : Entry Try.prog := { f := 85, fn := shDDD fun m a b => rD (lead m a b), ok := okDDD (E := [eTransfer, eRounds, eFloor]) Try.func85 (by kernel_rfl) fun m a b _ => by kernel_rfl }
/-- A positive 32-bit number in 64 bits. -/
theorem above_bd {x : F32} (h : aboveS x = true) : Bd (-149) 128 (widen x) := by
  unfold aboveS at h
  rw [Bool.and_eq_true] at h
  obtain ⟨s, m, e, hx⟩ := fin_num h.1
  obtain ⟨b1, b2, b3⟩ := hx.bound
  have hpos : s = false ∧ m ≠ 0 := by
    obtain ⟨r, rfl, hr⟩ := hx
    obtain ⟨z, hz, hz2⟩ := num_zero32
    have h2 := h.2
    unfold gt at h2
    rw [hz, ord_sx, hr, hz2] at h2
    have e2 : (some (compare (signed s m (e - min e (-149)).toNat) (signed false 0 ((-149 : Int) - min e (-149)).toNat)) == some Ordering.gt) = true := h2
    rw [cmp_gt, signed_eq, signed_eq, Nat.zero_mul] at e2
    by_cases hm : m = 0
    · subst hm; rw [Nat.zero_mul] at e2; cases s <;> simp at e2
    · refine ⟨?_, hm⟩
      cases s with
      | false => rfl
      | true =>
        exfalso
        generalize m * 2 ^ (e - min e (-149)).toNat = z at e2
        simp at e2
        omega
  obtain ⟨rfl, hm⟩ := hpos
  have hlog : m.log2 ≤ 23 := by
    have h5 : 2 ^ m.log2 < 2 ^ 24 := Nat.lt_of_le_of_lt (Nat.log2_self_le hm) b1
    have := (Nat.pow_lt_pow_iff_right (by decide)).1 h5
    omega
  obtain ⟨m', e', g1, g2, g3, g4⟩ := norm_word false (mag := m) (place := e) (a := -149) (b := 127) hm (by omega) (by omega) (by decide) (by decide)
  refine ⟨m', e', ?_, g2, g3, g4⟩
  obtain ⟨r, rfl, hr⟩ := hx
  obtain ⟨q, hq, hq2⟩ := g1
  have hd : FloatKind.f32.decode r = .number false m e := hr
  have hd2 : FloatKind.f64.decode (FloatKind.f64.encode (.number false m e)) = .number false m' e' := by cases hq; exact hq2
  refine ⟨q, ?_, hq2⟩
  rw [← hq]
  show floatToFloatBits .f32 r .f64 = _
  unfold floatToFloatBits
  rw [if_neg (by decide)]
  simp only [hd, hd2]
  rfl

theorem bd_two : Bd 1 1 two := ⟨2 ^ 52, -51, ⟨_, rfl, by decide⟩, by decide, by decide, by decide⟩
theorem bd_pi : Bd 1 1 pi := ⟨7074237752028440, -51, ⟨4614256656552045848, rfl, by decide⟩, by decide, by decide, by decide⟩
theorem bd_full : Bd 2 2 full := ⟨7074237752028440, -50, ⟨4618760256179416344, rfl, by decide⟩, by decide, by decide, by decide⟩

theorem lead_fits {m a b : F32} (hm : aboveS m = true) (ha : aboveS a = true) (hb : aboveS b = true) : fits (lead (widen m) (widen a) (widen b)) = true := by
  have bm := above_bd hm
  have ba := above_bd ha
  have bb := above_bd hb
  obtain ⟨n, j, hn, hl⟩ := bb.num
  have hc := ba.add hn hl (F := 129) (by decide) (by decide) (by decide) (by decide)
  have hc2 := hc.div bd_two (by decide) (by decide)
  have hr := ((((hc2.mul hc2 (by decide) (by decide)).mul hc2 (by decide) (by decide)).div bm (by decide) (by decide)).sqrt (by decide) (by decide))
  have ht := bd_pi.mul hr (by decide) (by decide)
  have hr2 := ((((bb.mul bb (by decide) (by decide)).mul bb (by decide) (by decide)).div bm (by decide) (by decide)).sqrt (by decide) (by decide))
  have hq := ht.div (bd_full.mul hr2 (by decide) (by decide)) (by decide) (by decide)
  obtain ⟨s, m', e, hg, _⟩ := (up_half.mono (by decide : (-1 : Int) ≤ 900)).sub (hq.up.mono (by decide)) (by decide) (by decide)
  exact round_fits hg

def ldN (m a b : F32) : F32 := narrow (lead (widen m) (widen a) (widen b))
def ldV (m a b : F32) : F32 := bif above3 m a b then giveV (ldN m a b) else c32 0
def ldB (m a b : F32) : Bool := bif above3 m a b then giveB (ldN m a b) else false
theorem above3_fits {m a b : F32} (h : above3 m a b = true) : fits (lead (widen m) (widen a) (widen b)) = true := by
  unfold above3 at h
  simp only [Bool.and_eq_true] at h
  exact lead_fits h.1.1 h.1.2 h.2
theorem eLeadOf_run (m a b : F32) : run Try.prog [eAreLengths3, eLead, eNarrowed] Try.f35 [.c (.fl .f32 m), .c (.fl .f32 a), .c (.fl .f32 b)] [] = some (.tup [.fl .f32 (ldV m a b), .sb (ldB m a b)]) := by
  have h : run Try.prog [eAreLengths3, eLead, eNarrowed] Try.f35 [.c (.fl .f32 m), .c (.fl .f32 a), .c (.fl .f32 b)] [] = bif !(aLength m && aLength a && aLength b) then Zr else
    bif fits (lead (widen m) (widen a) (widen b)) then some (.tup [.fl .f32 (toldV (ldN m a b)), .sb (toldB (ldN m a b))]) else none := by kernel_rfl
  rw [h, long_eq, long_eq, long_eq, (told_give _).1, (told_give _).2]
  have e : (aboveS m && aboveS a && aboveS b) = above3 m a b := rfl
  rw [e]
  unfold ldV ldB
  cases h1 : above3 m a b
  · rfl
  · rw [above3_fits h1]; rfl
def eLeadOf : Entry Try.prog := { f := 35, fn := shSSS fun m a b => rSB (ldV m a b) (ldB m a b), ok := okSSS (E := [eAreLengths3, eLead, eNarrowed]) Try.func35 (by kernel_rfl) fun m a b _ => eLeadOf_run m a b }
end Go.Proofs.Ytlpahmefebgdlaa.Fx
/- Contracts: frames, slopes, potentials, two ways. No condition. -/
namespace Go.Proofs.Ytlpahmefebgdlaa.Fx
open Go Go.RowKit

def cx32 (x y : F32) : AC := .cx .f32 x y
def powerW (x y : F32) : F64 := widen x * widen x + widen y * widen y
def longF (x y : F32) : F64 := sqrt (powerW x y)
def long (x y : F32) : F32 := narrow (longF x y)
def eParts : Entry Try.prog := { f := 116, fn := shC fun x y => (true, .tup [.fl .f64 (widen x), .fl .f64 (widen y)]), ok := okC (E := []) Try.func116 (by kernel_rfl) fun x y _ => by kernel_rfl }
def ePower : Entry Try.prog := { f := 67, fn := shC fun x y => rD (powerW x y), ok := okC (E := [eParts]) Try.func67 (by kernel_rfl) fun x y _ => by kernel_rfl }
theorem eLong_run (x y : F32) (hx : fits (longF x y) = true) : run Try.prog [ePower, eSqrt] Try.f16 [.c (.cx .f32 x y)] [] = some (.c (.fl .f32 (long x y))) := by
  have h : run Try.prog [ePower, eSqrt] Try.f16 [.c (.cx .f32 x y)] [] = bif fits (longF x y) then some (.c (.fl .f32 (long x y))) else none := by kernel_rfl
  rw [h, hx]; rfl
def eLong : Entry Try.prog := { f := 16, fn := shC fun x y => (fits (longF x y), .c (.fl .f32 (long x y))), ok := okC (E := [ePower, eSqrt]) Try.func16 (by kernel_rfl) fun x y h => eLong_run x y h }
def cube (x : F32) : F32 := (x * x) * x
def eCube : Entry Try.prog := { f := 114, fn := shS fun x => rS (cube x), ok := okS (E := []) Try.func114 (by kernel_rfl) fun x _ => by kernel_rfl }
def eLess : Entry Try.prog := { f := 70, fn := shCC fun x y u v => rC (x - u) (y - v), ok := okCC (E := []) Try.func70 (by kernel_rfl) fun x y u v _ => by kernel_rfl }
def eScale : Entry Try.prog := { f := 71, fn := shCS fun x y s => rC (x * s) (y * s), ok := okCS (E := []) Try.func71 (by kernel_rfl) fun x y s _ => by kernel_rfl }
def cfin (x y : F32) : Bool := finS x && finS y
theorem eCFin_run (x y : F32) : run Try.prog [eIsFinite] Try.f101 [.c (.cx .f32 x y)] [] = some (.c (.sb (cfin x y))) := by
  unfold cfin; rw [← fin_eq, ← fin_eq, push_and]; kernel_rfl
def eCFin : Entry Try.prog := { f := 101, fn := shC fun x y => rB (cfin x y), ok := okC (E := [eIsFinite]) Try.func101 (by kernel_rfl) fun x y _ => eCFin_run x y }
def isPt (s x y : F32) : Bool := isShare s && cfin x y
theorem eIsPoint_run (s x y : F32) : run Try.prog [eIsShare, eCFin] Try.f69 [.c (.fl .f32 s), .c (.cx .f32 x y)] [] = some (.c (.sb (isPt s x y))) := by
  unfold isPt; rw [push_and]; kernel_rfl
def eIsPoint : Entry Try.prog := { f := 69, fn := shSC fun s x y => rB (isPt s x y), ok := okSC (E := [eIsShare, eCFin]) Try.func69 (by kernel_rfl) fun s x y _ => eIsPoint_run s x y }
def tcX (x y : F32) : F32 := bif cfin x y then x else c32 0
def tcY (x y : F32) : F32 := bif cfin x y then y else c32 0
theorem push_c (c : Bool) (a b a' b' : F32) (d e : Bool) : some (AV.tup [.cx .f32 (bif c then a else b) (bif c then a' else b'), .sb (bif c then d else e)]) = bif c then some (.tup [.cx .f32 a a', .sb d]) else some (.tup [.cx .f32 b b', .sb e]) := by cases c <;> rfl
theorem eToldC_run (x y : F32) : run Try.prog [eCFin] Try.f60 [.c (.cx .f32 x y)] [] = some (.tup [.cx .f32 (tcX x y) (tcY x y), .sb (cfin x y)]) := by
  have h : run Try.prog [eCFin] Try.f60 [.c (.cx .f32 x y)] [] = bif !(cfin x y) then some (.tup [.cx .f32 (c32 0) (c32 0), .sb false]) else some (.tup [.cx .f32 x y, .sb true]) := by kernel_rfl
  rw [h]; unfold tcX tcY; cases cfin x y <;> rfl
def eToldC : Entry Try.prog := { f := 60, fn := shC fun x y => (true, .tup [.cx .f32 (tcX x y) (tcY x y), .sb (cfin x y)]), ok := okC (E := [eCFin]) Try.func60 (by kernel_rfl) fun x y _ => eToldC_run x y }

-- frames
def fdx (s x : F32) : F32 := x - (-s)
def fex (s x : F32) : F32 := x - (one32 - s)
def fy (y : F32) : F32 := y - c32 0
def frFit (s x y : F32) : Bool := fits (longF (fdx s x) (fy y)) && fits (longF (fex s x) (fy y))
def fr (s x y : F32) : F32 := long (fdx s x) (fy y)
def fs (s x y : F32) : F32 := long (fex s x) (fy y)
def ff (s x y : F32) : F32 := (one32 - s) / cube (fr s x y)
def fg (s x y : F32) : F32 := s / cube (fs s x y)
def frame (s x y : F32) : AV := .agg [.cx .f32 (fdx s x) (fy y), .cx .f32 (fex s x) (fy y), .cx .f32 x y, .fl .f32 (fr s x y), .fl .f32 (fs s x y), .fl .f32 (one32 - s), .fl .f32 s, .fl .f32 (ff s x y), .fl .f32 (fg s x y)]
theorem okSCP {P : Program} {E : List (Entry P)} {f : FuncId} {fn : Func} {g : F32 → F32 → F32 → Bool × AV} (hf : P.funcs[f]? = some fn) (hn : (fn.name == "runtime.NumGoroutine") = false)
    (h : ∀ (x0 : F32) (x1 : F32) (x2 : F32), (g x0 x1 x2).1 = true → runP P E fn [.c (.fl .f32 x0), .c (.cx .f32 x1 x2)] [] = some (g x0 x1 x2).2) :
    EOk P f (shSC g) := by
  intro args M r hr σ vs w _ ha
  unfold shSC at hr
  split at hr
  · rename_i x0 x1 x2
    have hr' := Option.some.inj hr
    have h1 := h x0 x1 x2 (by rw [hr'])
    rw [hr'] at h1
    exact gives0P hf hn rfl h1 ha
  · cases hr
theorem eFrame_run (s x y : F32) (hx : frFit s x y = true) : runP Try.prog [eLess, eLong, eCube] Try.f63 [.c (.fl .f32 s), .c (.cx .f32 x y)] [] = some (frame s x y) := by
  have h : runP Try.prog [eLess, eLong, eCube] Try.f63 [.c (.fl .f32 s), .c (.cx .f32 x y)] [] = bif fits (longF (fdx s x) (fy y)) then (bif fits (longF (fex s x) (fy y)) then some (frame s x y) else none) else none := by kernel_rfl
  unfold frFit at hx
  rw [Bool.and_eq_true] at hx
  rw [h, hx.1, hx.2]; rfl
def eFrame : Entry Try.prog := { f := 63, fn := shSC fun s x y => (frFit s x y, frame s x y), ok := okSCP (E := [eLess, eLong, eCube]) Try.func63 (by kernel_rfl) fun s x y h => eFrame_run s x y h }

-- slopes
def slX (s x y : F32) : F32 := (x - fdx s x * ff s x y) - fex s x * fg s x y
def slY (s x y : F32) : F32 := (y - fy y * ff s x y) - fy y * fg s x y
def slFin (s x y : F32) : Bool := cfin (slX s x y) (slY s x y)
theorem eSlope_run (s x y : F32) (hx : (!(isPt s x y) || frFit s x y) = true) : runP Try.prog [eIsPoint, eFrame, eScale, eLess, eToldC] Try.f20 [.c (.fl .f32 s), .c (.cx .f32 x y)] [] =
    some (.tup [.cx .f32 (bif isPt s x y then tcX (slX s x y) (slY s x y) else c32 0) (bif isPt s x y then tcY (slX s x y) (slY s x y) else c32 0), .sb (isPt s x y && slFin s x y)]) := by
  have h : runP Try.prog [eIsPoint, eFrame, eScale, eLess, eToldC] Try.f20 [.c (.fl .f32 s), .c (.cx .f32 x y)] [] = bif !(isPt s x y) then some (.tup [.cx .f32 (c32 0) (c32 0), .sb false]) else
    bif frFit s x y then some (.tup [.cx .f32 (tcX (slX s x y) (slY s x y)) (tcY (slX s x y) (slY s x y)), .sb (slFin s x y)]) else none := by kernel_rfl
  rw [h]
  cases h1 : isPt s x y
  · rfl
  · rw [h1] at hx
    have h2 : frFit s x y = true := hx
    rw [h2]; rfl
def eSlope : Entry Try.prog := { f := 20, fn := shSC fun s x y => (!(isPt s x y) || frFit s x y, .tup [.cx .f32 (bif isPt s x y then tcX (slX s x y) (slY s x y) else c32 0) (bif isPt s x y then tcY (slX s x y) (slY s x y) else c32 0), .sb (isPt s x y && slFin s x y)]), ok := okSCP (E := [eIsPoint, eFrame, eScale, eLess, eToldC]) Try.func20 (by kernel_rfl) fun s x y h => eSlope_run s x y h }
end Go.Proofs.Ytlpahmefebgdlaa.Fx
