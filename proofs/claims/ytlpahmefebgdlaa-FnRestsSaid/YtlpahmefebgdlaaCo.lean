/- GatesOf, two ways; its law. No condition. -/
import Derived.Test.YtlpahmefebgdlaaEu
import Derived.Test.YtlpahmefebgdlaaCm
import Derived.Test.YtlpahmefebgdlaaCn
namespace Go.Proofs.Ytlpahmefebgdlaa.Fx
open Go Go.RowKit

/-- A slice of a function's own, and true; or none and false. -/
def slV (M : List (List AC)) : AV → Option (Bool × List AC)
  | .tup [.slc id n, .sb true] => match M[id]? with
      | some cs => if cs.length = n ∧ cs.all plainC = true then some (true, cs) else none
      | none => none
  | .tup [.val (.slice none 0 0), .sb false] => some (false, [])
  | _ => none
def slR (P : Program) (fn : Func) (o : Out) (F : List AV) (M : List (List AC)) : Option (Bool × List AC) :=
  match o with
  | .exit _ => none
  | _ => match resultA P fn F M with
    | some v => slV M v
    | none => none
def runSl (P : Program) (E : List (Entry P)) (I : List FuncId) (fn : Func) (args : List AV) : Option (Bool × List AC) :=
  match fn.body with
  | none => none
  | some c => exI P E I 0 4000 0 c (args ++ List.replicate (fn.ntmps - args.length) undefA) [] (slR P fn)

theorem slV_spec {M : List (List AC)} {v : AV} {b : Bool} {cells : List AC} (h : slV M v = some (b, cells)) :
    (b = true ∧ ∃ id, v = .tup [.slc id cells.length, .sb true] ∧ M[id]? = some cells ∧ cells.all plainC = true) ∨ (b = false ∧ v = .tup [.val (.slice none 0 0), .sb false]) := by
  unfold slV at h
  split at h
  · rename_i id n
    split at h
    · rename_i cs hcs
      split at h
      · rename_i hc
        cases h
        exact .inl ⟨rfl, id, by rw [hc.1], hcs, hc.2⟩
      · cases h
    · cases h
  · cases h; exact .inr ⟨rfl, rfl⟩
  · cases h

def SlPost (w : World) : Bool → List AC → Ending → World → Prop
  | true, cells, e, w' => ∃ (blk cap : Nat) (us : Array Value) (t : TypeId), e = .returned (.tuple #[.slice (some ⟨blk, 0, none⟩) cells.length cap, .bool true]) ∧ w.heap.size ≤ blk ∧ w'.heap[blk]? = some (.cells us t (0, 0)) ∧ RepP [] cells us.toList ∧ cap ≤ us.size ∧ cells.length ≤ cap
  | false, _, e, _ => e = .returned (.tuple #[.slice none 0 0, .bool false])

theorem runSl_sound {P : Program} {E : List (Entry P)} {I : List FuncId} {f : FuncId} {fn : Func} (hf : P.funcs[f]? = some fn) {args : List AV} {b : Bool} {cells : List AC} (h : runSl P E I fn args = some (b, cells))
    {vs : List Value} {w : World} (ha : RepF [] args vs) : Calls P f vs.toArray w fun e w' => Ext w w' ∧ SlPost w b cells e w' := by
  unfold runSl at h
  split at h
  · cases h
  · rename_i c hb
    obtain ⟨o, F', M', hK, hg⟩ := (exI_sound 4000).1 0 c _ [] _ _ h
    have hg := hg ⟨w, []⟩ (Nat.le_refl _)
    clear h
    have fin : ∀ {v : AV}, resultA P fn F' M' = some v → slV M' v = some (b, cells) → ∀ {σ' : List (Nat × Nat)} {a' : Act} {w' : World} (hs : St σ' 0 ⟨w, []⟩ F' M' a' w'),
        a'.defers = [] ∧ ∃ v, (results fn a'.tmps).run P w' = .ok v w' ∧ (Ext w w' ∧ SlPost w b cells (Ending.returned v) w') := by
      intro v hres hv σ' a' w' hs
      obtain ⟨z, hz, hr⟩ := results_sound (P := P) hs hres
      rcases slV_spec hv with ⟨rfl, id, rfl, hcs, c2⟩ | ⟨rfl, rfl⟩
      · obtain ⟨us, rfl, hl⟩ := hr
        obtain ⟨us⟩ := us
        cases hl with
        | cons q1 q2 =>
          cases q2 with
          | cons q3 q4 =>
            cases q4
            obtain ⟨p, hp, hle, rfl⟩ := q1
            cases q3
            obtain ⟨ws, t, hw, ⟨kk, hr⟩, hcap⟩ := hs.mem.at_ id p _ hp hcs
            exact ⟨hs.defers, _, hz, hs.ext, p.1, p.2, ws, t, rfl, hs.own id p (Nat.zero_le _) hp, hw, ⟨kk, plainL_rep (by simp [c2]; right; rfl) hr⟩, hcap, hle⟩
      · obtain ⟨us, rfl, hl⟩ := hr
        obtain ⟨us⟩ := us
        cases hl with
        | cons q1 q2 =>
          cases q2 with
          | cons q3 q4 =>
            cases q4; cases q1; cases q3
            exact ⟨hs.defers, _, hz, hs.ext, rfl⟩
    refine calls_of_wp hf hb (hg [] _ w ⟨rfl, ?_, MemOk.nil w, Ext.refl _, fun id b hid hbb => (by cases hbb), List.prefix_refl _⟩ _ fun σ' a' w' hs => ?_)
    · have hlen := ha.length
      have h1 : ∀ (n : Nat), RepF [] (List.replicate n undefA) (List.replicate n undef) := by
        intro n
        induction n with
        | zero => exact .nil
        | succ n ih => exact .cons rfl ih
      have h2 : ∀ {l l' : List AV} {us us' : List Value}, RepF [] l us → RepF [] l' us' → RepF [] (l ++ l') (us ++ us') := by
        intro l l' us us' h h'
        induction h with
        | nil => exact h'
        | cons h _ ih => exact .cons h ih
      simpa [hlen] using h2 ha (h1 (fn.ntmps - vs.length))
    · cases o with
      | exit id => cases hK
      | norm =>
        simp only [slR] at hK
        cases hres : resultA P fn F' M' with
        | none => rw [hres] at hK; cases hK
        | some v => rw [hres] at hK; exact fin hres hK hs
      | ret =>
        simp only [slR] at hK
        cases hres : resultA P fn F' M' with
        | none => rw [hres] at hK; cases hK
        | some v => rw [hres] at hK; exact fin hres hK hs

def two32 : F32 := c32 1073741824
def gV (sh x y : F32) : F32 := two32 * pot sh x y
def gOk1 (sh x y : F32) : Bool := finS (pot sh x y) && finS (gV sh x y)
def Nn : Option (Bool × List AC) := some (false, [])
def kSr (s c1 c2 c3 b1 b2 b3 : Bool) (kn kp : Option (Bool × List AC)) : Option (Bool × List AC) := bif !s then kn else bif c1 then (bif c2 then (bif c3 then (bif b1 then (bif b2 then (bif !b3 then kn else kp) else kn) else kn) else none) else none) else none
def kIr (s c1 c2 c3 b1 b2 b3 : Bool) (kn kp : Option (Bool × List AC)) : Option (Bool × List AC) := bif !s then kn else bif c1 then (bif !b1 then kn else bif c2 then (bif !b2 then kn else bif c3 then (bif !b3 then kn else kp) else none) else none) else none
theorem eGates_raw (sh : F32) : runSl Try.prog [eIsShare, eRest, ePotAt, eIsFinite] [11] Try.f12 [.c (.fl .f32 sh)] = kIr (isShare sh) (rsCond sh (loA sh) (hiA sh)) (rsCond sh (loB sh) hiB) (rsCond sh loC (hiC sh)) (rsB sh (loA sh) (hiA sh)) (rsB sh (loB sh) hiB) (rsB sh loC (hiC sh)) Nn
    (bif !(isPt sh (rsX sh (loA sh) (hiA sh)) (c32 0)) || potFit sh (rsX sh (loA sh) (hiA sh)) (c32 0) then (bif !(paB sh (rsX sh (loA sh) (hiA sh)) (c32 0)) then Nn else bif !(isFinite (two32 * paV sh (rsX sh (loA sh) (hiA sh)) (c32 0))) then Nn else (bif !(isPt sh (rsX sh (loB sh) hiB) (c32 0)) || potFit sh (rsX sh (loB sh) hiB) (c32 0) then (bif !(paB sh (rsX sh (loB sh) hiB) (c32 0)) then Nn else bif !(isFinite (two32 * paV sh (rsX sh (loB sh) hiB) (c32 0))) then Nn else (bif !(isPt sh (rsX sh loC (hiC sh)) (c32 0)) || potFit sh (rsX sh loC (hiC sh)) (c32 0) then (bif !(paB sh (rsX sh loC (hiC sh)) (c32 0)) then Nn else bif !(isFinite (two32 * paV sh (rsX sh loC (hiC sh)) (c32 0))) then Nn else (bif !(isPt sh (pX sh) (pY)) || potFit sh (pX sh) (pY) then (bif !(paB sh (pX sh) (pY)) then Nn else bif !(isFinite (two32 * paV sh (pX sh) (pY))) then Nn else (bif !(isPt sh (pX sh) (pZ)) || potFit sh (pX sh) (pZ) then (bif !(paB sh (pX sh) (pZ)) then Nn else bif !(isFinite (two32 * paV sh (pX sh) (pZ))) then Nn else some (true, [.fl .f32 (two32 * paV sh (rsX sh (loA sh) (hiA sh)) (c32 0)), .fl .f32 (two32 * paV sh (rsX sh (loB sh) hiB) (c32 0)), .fl .f32 (two32 * paV sh (rsX sh loC (hiC sh)) (c32 0)), .fl .f32 (two32 * paV sh (pX sh) (pY)), .fl .f32 (two32 * paV sh (pX sh) (pZ))])) else none)) else none)) else none)) else none)) else none) := by kernel_rfl

theorem rs_up (sh : F32) : ∀ (n : Nat) (s s' : F32 × F32), UpS 3 s.1 → UpS 3 s.2 → rsRun sh n s = some s' → UpS 3 s'.1
  | 0, s, s', h1, _, h => by cases h; exact h1
  | n + 1, s, s', h1, h2, h => by
    have hm := mid_up h1 h2 (by decide) (by decide)
    simp only [rsRun] at h
    cases hf : slFin sh (mid s) (c32 0) with
    | false => rw [hf] at h; cases h
    | true =>
      rw [hf] at h
      refine rs_up sh n (rsNext sh s) s' ?_ ?_ h
      · unfold rsNext; cases gt (slX sh (mid s) (c32 0)) (c32 0) with
        | true => exact h1
        | false => exact hm
      · unfold rsNext; cases gt (slX sh (mid s) (c32 0)) (c32 0) with
        | true => exact hm
        | false => exact h2
theorem rsX_up {sh lo hi : F32} (h1 : UpS 3 lo) (h2 : UpS 3 hi) : UpS 3 (rsX sh lo hi) := by
  unfold rsX
  cases h : rsRun sh 26 (lo, hi) with
  | none => exact upS_zero 3
  | some s => exact rs_up sh 26 (lo, hi) s h1 h2 h

def gCells (sh : F32) : List AC := [.fl .f32 (gV sh (rsX sh (loA sh) (hiA sh)) (c32 0)), .fl .f32 (gV sh (rsX sh (loB sh) hiB) (c32 0)), .fl .f32 (gV sh (rsX sh loC (hiC sh)) (c32 0)), .fl .f32 (gV sh (pX sh) (pY)), .fl .f32 (gV sh (pX sh) (pZ))]
def gOk (sh : F32) : Bool := isShare sh && (rsB sh (loA sh) (hiA sh) && (rsB sh (loB sh) hiB && (rsB sh loC (hiC sh) && (gOk1 sh (rsX sh (loA sh) (hiA sh)) (c32 0) && (gOk1 sh (rsX sh (loB sh) hiB) (c32 0) && (gOk1 sh (rsX sh loC (hiC sh)) (c32 0) && (gOk1 sh (pX sh) (pY) && (gOk1 sh (pX sh) (pZ)))))))))
theorem sChain (sh x y : F32) (X : Option (Bool × List AC)) (hf : potFit sh x y = true) : (bif potFit sh x y then (bif !(finS (pot sh x y)) then Nn else bif !(finS (gV sh x y)) then Nn else X) else none) = bif gOk1 sh x y then X else Nn := by
  rw [hf]; unfold gOk1
  cases finS (pot sh x y) <;> cases finS (gV sh x y) <;> rfl
theorem eChain (sh x y : F32) (X : Option (Bool × List AC)) (hp : isPt sh x y = true) (hf : potFit sh x y = true) : (bif !(isPt sh x y) || potFit sh x y then (bif !(paB sh x y) then Nn else bif !(isFinite (two32 * paV sh x y)) then Nn else X) else none) = bif gOk1 sh x y then X else Nn := by
  rw [hf, Bool.or_true]; unfold gOk1 paB paV
  rw [hp]
  cases h : finS (pot sh x y)
  · have : giveB (pot sh x y) = false := by unfold giveB; rw [h]; rfl
    rw [show (bif true then giveB (pot sh x y) else false) = giveB (pot sh x y) from rfl, this]; rfl
  · rw [show (bif true then giveB (pot sh x y) else false) = giveB (pot sh x y) from rfl, show (bif true then giveV (pot sh x y) else c32 0) = giveV (pot sh x y) from rfl, (give_fin h).1, (give_fin h).2, fin_eq]
    show (bif !(finS (gV sh x y)) then Nn else X) = _
    cases finS (gV sh x y) <;> rfl
theorem paV_ok {sh x y : F32} (hp : isPt sh x y = true) (h : gOk1 sh x y = true) : two32 * paV sh x y = gV sh x y := by
  unfold gOk1 at h
  rw [Bool.and_eq_true] at h
  unfold paV
  rw [hp]
  show two32 * giveV (pot sh x y) = _
  rw [(give_fin h.1).1]; rfl
theorem condAnd (x y : Bool) (Z : Option (Bool × List AC)) : (bif x && y then Z else Nn) = bif x then (bif y then Z else Nn) else Nn := by cases x <;> rfl
theorem condNot (x : Bool) (Z : Option (Bool × List AC)) : (bif !x then Nn else Z) = bif x then Z else Nn := by cases x <;> rfl

structure GFacts (sh : F32) : Prop where
  c1 : rsCond sh (loA sh) (hiA sh) = true
  c2 : rsCond sh (loB sh) hiB = true
  c3 : rsCond sh loC (hiC sh) = true
  f1 : potFit sh (rsX sh (loA sh) (hiA sh)) (c32 0) = true
  f2 : potFit sh (rsX sh (loB sh) hiB) (c32 0) = true
  f3 : potFit sh (rsX sh loC (hiC sh)) (c32 0) = true
  f4 : potFit sh (pX sh) (pY) = true
  f5 : potFit sh (pX sh) (pZ) = true
  p1 : isPt sh (rsX sh (loA sh) (hiA sh)) (c32 0) = true
  p2 : isPt sh (rsX sh (loB sh) hiB) (c32 0) = true
  p3 : isPt sh (rsX sh loC (hiC sh)) (c32 0) = true
  p4 : isPt sh (pX sh) (pY) = true
  p5 : isPt sh (pX sh) (pZ) = true
theorem gFacts (sh : F32) (hs : isShare sh = true) : GFacts sh := by
  have hu := isShare_up hs
  have a1 : UpS 3 (loA sh) := (hu.neg.add upS_ka (by decide) (by decide)).mono (by decide)
  have a2 : UpS 3 (hiA sh) := ((upS_one.sub hu (by decide) (by decide)).sub (upS_ka.mono (by decide)) (by decide) (by decide)).mono (by decide)
  have b1 : UpS 3 (loB sh) := ((upS_one.sub hu (by decide) (by decide)).add (upS_ka.mono (by decide)) (by decide) (by decide)).mono (by decide)
  have b2 : UpS 3 hiB := upS_of _ false (2 ^ 23) (-22) rfl (by decide) (by decide) (by decide)
  have e1 : UpS 3 loC := upS_of _ true (2 ^ 23) (-22) rfl (by decide) (by decide) (by decide)
  have e2 : UpS 3 (hiC sh) := (hu.neg.sub upS_ka (by decide) (by decide)).mono (by decide)
  have hx : UpS 40 (pX sh) := ((upS_half.mono (by decide)).sub hu (by decide) (by decide)).mono (by decide)
  have hy : UpS 40 pY := upS_of _ false 14529495 (-24) rfl (by decide) (by decide) (by decide)
  have hz : UpS 40 pZ := upS_of _ true 14529495 (-24) rfl (by decide) (by decide) (by decide)
  have r1 : UpS 40 (rsX sh (loA sh) (hiA sh)) := (rsX_up a1 a2).mono (by decide)
  have r2 : UpS 40 (rsX sh (loB sh) hiB) := (rsX_up b1 b2).mono (by decide)
  have r3 : UpS 40 (rsX sh loC (hiC sh)) := (rsX_up e1 e2).mono (by decide)
  have h0 : UpS 40 (c32 0) := upS_zero 40
  have pt : ∀ {x y : F32}, UpS 40 x → UpS 40 y → isPt sh x y = true := by
    intro x y h1 h2
    unfold isPt cfin
    rw [hs, h1.fin, h2.fin]; rfl
  exact ⟨rs_cond hs a1 a2, rs_cond hs b1 b2, rs_cond hs e1 e2, pot_fit hu r1 h0, pot_fit hu r2 h0, pot_fit hu r3 h0, pot_fit hu hx hy, pot_fit hu hx hz, pt r1 h0, pt r2 h0, pt r3 h0, pt hx hy, pt hx hz⟩

theorem eGates_run (sh : F32) : runSl Try.prog [eIsShare, eRest, ePotAt, eIsFinite] [11] Try.f12 [.c (.fl .f32 sh)] = bif gOk sh then some (true, gCells sh) else Nn := by
  rw [eGates_raw]
  cases hs : isShare sh with
  | false => unfold gOk; rw [hs]; rfl
  | true =>
    obtain ⟨c1, c2, c3, f1, f2, f3, f4, f5, p1, p2, p3, p4, p5⟩ := gFacts sh hs
    rw [c1, c2, c3, eChain _ _ _ _ p5 f5, eChain _ _ _ _ p4 f4, eChain _ _ _ _ p3 f3, eChain _ _ _ _ p2 f2, eChain _ _ _ _ p1 f1]
    unfold gOk kIr
    rw [hs]
    simp only [condAnd, condNot]
    show (bif _ then _ else Nn) = _
    cases h1 : gOk1 sh (rsX sh (loA sh) (hiA sh)) (c32 0)
    · simp only [cond_false]; rfl
    cases h2 : gOk1 sh (rsX sh (loB sh) hiB) (c32 0)
    · simp only [cond_false, cond_true]
    cases h3 : gOk1 sh (rsX sh loC (hiC sh)) (c32 0)
    · simp only [cond_false, cond_true]
    cases h4 : gOk1 sh (pX sh) (pY)
    · simp only [cond_false, cond_true]
    cases h5 : gOk1 sh (pX sh) (pZ)
    · simp only [cond_false, cond_true]
    rw [paV_ok p1 h1, paV_ok p2 h2, paV_ok p3 h3, paV_ok p4 h4, paV_ok p5 h5]
    simp only [cond_true]
    rfl

def gFn : List AV → Option (Bool × Bool × List AC)
  | [.c (.fl .f32 sh)] => some (true, gOk sh, gCells sh)
  | _ => none
theorem gates_ok {f : FuncId} {fn : Func} {E : List (Entry Try.prog)} {I : List FuncId} (hf : Try.prog.funcs[f]? = some fn) (hr : ∀ sh : F32, runSl Try.prog E I fn [.c (.fl .f32 sh)] = bif gOk sh then some (true, gCells sh) else Nn) :
    ∀ args b cells, gFn args = some (true, b, cells) → ∀ vs w, RepF [] args vs → args.all plainA = true → Calls Try.prog f vs.toArray w fun e w' => Ext w w' ∧
    (match b with
    | true => ∃ (blk cap : Nat) (us : Array Value) (t : TypeId), e = .returned (.tuple #[.slice (some ⟨blk, 0, none⟩) cells.length cap, .bool true]) ∧ w.heap.size ≤ blk ∧ w'.heap[blk]? = some (.cells us t (0, 0)) ∧ RepP [] cells us.toList ∧ cap ≤ us.size ∧ cells.length ≤ cap
    | false => e = .returned (.tuple #[.slice none 0 0, .bool false])) := by
  intro args b cells h vs w ha hpl
  clear hpl
  unfold gFn at h
  split at h
  · rename_i sh
    have hq := hr sh
    simp only [Option.some.injEq, Prod.mk.injEq, true_and] at h
    obtain ⟨rfl, rfl⟩ := h
    cases hb : gOk sh with
    | true =>
      rw [hb] at hq
      exact (runSl_sound hf hq ha).mono fun e w' ⟨h1, h2⟩ => ⟨h1, h2⟩
    | false =>
      rw [hb] at hq
      exact (runSl_sound hf hq ha).mono fun e w' ⟨h1, h2⟩ => ⟨h1, h2⟩
  · cases h
def eGatesN : EntryN Try.prog := { f := 12, fn := gFn, enter := fun _ _ => enter_of Try.func12 (by kernel_rfl) (c := Try.f12.body.getD .skip) (by kernel_rfl), ok := gates_ok Try.func12 eGates_run }
def eqG (sh : F32) (k : Option AV) : Option AV := bif !(sameFl (widen (gV sh (rsX sh (loA sh) (hiA sh)) (c32 0))) (widen (gV sh (rsX sh (loA sh) (hiA sh)) (c32 0)))) then No else bif !(sameFl (widen (gV sh (rsX sh (loB sh) hiB) (c32 0))) (widen (gV sh (rsX sh (loB sh) hiB) (c32 0)))) then No else bif !(sameFl (widen (gV sh (rsX sh loC (hiC sh)) (c32 0))) (widen (gV sh (rsX sh loC (hiC sh)) (c32 0)))) then No else bif !(sameFl (widen (gV sh (pX sh) (pY))) (widen (gV sh (pX sh) (pY)))) then No else bif !(sameFl (widen (gV sh (pX sh) (pZ))) (widen (gV sh (pX sh) (pZ)))) then No else k
theorem eqG_eq (sh : F32) (k : Option AV) : eqG sh k = k := by unfold eqG; simp only [sameFl_refl]; rfl
end Go.Proofs.Ytlpahmefebgdlaa.Fx
