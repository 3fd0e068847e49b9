/- Texts put together: Cq, Eg, Eh. No condition. -/
import Derived.Test.YtlpahmefebgdlaaQg
/- Contracts: pushes, bends, sways. No condition. -/
namespace Go.Proofs.Ytlpahmefebgdlaa.Fx
open Go Go.RowKit

-- pushes
def saX (s x y : F32) : F32 := bif isPt s x y then tcX (slX s x y) (slY s x y) else c32 0
def saY (s x y : F32) : F32 := bif isPt s x y then tcY (slX s x y) (slY s x y) else c32 0
def saB (s x y : F32) : Bool := isPt s x y && slFin s x y
def puX (s x y v : F32) : F32 := saX s x y + two32 * v
def puY (s x y u : F32) : F32 := saY s x y + c32 3221225472 * u
def puOk (s x y u v : F32) : Bool := saB s x y && vShip x y u v
def saFit (s x y : F32) : Bool := !(isPt s x y) || frFit s x y
theorem ePush_run (s x y u v : F32) (hx : saFit s x y = true) : runP Try.prog [eSlope, eVShip, ePlus, eToldC] Try.f14 [.c (.fl .f32 s), .agg [.cx .f32 x y, .cx .f32 u v]] [] =
    some (.tup [.cx .f32 (bif puOk s x y u v then tcX (puX s x y v) (puY s x y u) else c32 0) (bif puOk s x y u v then tcY (puX s x y v) (puY s x y u) else c32 0), .sb (puOk s x y u v && cfin (puX s x y v) (puY s x y u))]) := by
  have h : runP Try.prog [eSlope, eVShip, ePlus, eToldC] Try.f14 [.c (.fl .f32 s), .agg [.cx .f32 x y, .cx .f32 u v]] [] = bif saFit s x y then (bif !(saB s x y) then some (.tup [.cx .f32 (c32 0) (c32 0), .sb false]) else
    bif !(vShip x y u v) then some (.tup [.cx .f32 (c32 0) (c32 0), .sb false]) else some (.tup [.cx .f32 (tcX (puX s x y v) (puY s x y u)) (tcY (puX s x y v) (puY s x y u)), .sb (cfin (puX s x y v) (puY s x y u))])) else none := by kernel_rfl
  rw [h, hx]
  unfold puOk
  cases saB s x y
  · rfl
  · cases vShip x y u v <;> rfl
def ePush : Entry Try.prog := { f := 14, fn := shSSh fun s x y u v => (saFit s x y, .tup [.cx .f32 (bif puOk s x y u v then tcX (puX s x y v) (puY s x y u) else c32 0) (bif puOk s x y u v then tcY (puX s x y v) (puY s x y u) else c32 0), .sb (puOk s x y u v && cfin (puX s x y v) (puY s x y u))]), ok := okSSh (E := [eSlope, eVShip, ePlus, eToldC]) Try.func14 (by kernel_rfl) fun s x y u v h => ePush_run s x y u v h }
-- bends
def bend (f p q r : F32) : F32 := (c32 1077936128 * f * p * q) / (r * r)
def eBend : Entry Try.prog := { f := 72, fn := shSSSS fun f p q r => rS (bend f p q r), ok := okSSSS (E := []) Try.func72 (by kernel_rfl) fun f p q r _ => by kernel_rfl }
def beXX (s x y : F32) : F32 := (one32 - ff s x y - fg s x y) + bend (ff s x y) (fdx s x) (fdx s x) (fr s x y) + bend (fg s x y) (fex s x) (fex s x) (fs s x y)
def beXY (s x y : F32) : F32 := bend (ff s x y) (fdx s x) (fy y) (fr s x y) + bend (fg s x y) (fex s x) (fy y) (fs s x y)
def beYY (s x y : F32) : F32 := (one32 - ff s x y - fg s x y) + bend (ff s x y) (fy y) (fy y) (fr s x y) + bend (fg s x y) (fy y) (fy y) (fs s x y)
def beF (s x y : F32) : Bool := !decide (idx3 (beXX s x y) (beXY s x y) (beYY s x y) ≥ 0)
def ZrB : AV := .tup [.fl .f32 (c32 0), .fl .f32 (c32 0), .fl .f32 (c32 0), .sb false]
theorem eBends_raw (s x y : F32) : runP Try.prog [eIsPoint, eFrame, eBend, eAreFinite3] Try.f23 [.c (.fl .f32 s), .c (.cx .f32 x y)] [] =
    bif !(isPt s x y) then some ZrB else bif frFit s x y then (bif !(beF s x y) then some ZrB else some (.tup [.fl .f32 (beXX s x y), .fl .f32 (beXY s x y), .fl .f32 (beYY s x y), .sb true])) else none := by kernel_rfl
def beOk (s x y : F32) : Bool := isPt s x y && beF s x y
theorem eBends_run (s x y : F32) (hx : saFit s x y = true) : runP Try.prog [eIsPoint, eFrame, eBend, eAreFinite3] Try.f23 [.c (.fl .f32 s), .c (.cx .f32 x y)] [] =
    some (.tup [.fl .f32 (bif beOk s x y then beXX s x y else c32 0), .fl .f32 (bif beOk s x y then beXY s x y else c32 0), .fl .f32 (bif beOk s x y then beYY s x y else c32 0), .sb (beOk s x y)]) := by
  rw [eBends_raw]
  unfold saFit at hx
  unfold beOk
  cases h1 : isPt s x y
  · rfl
  · rw [h1] at hx
    have h2 : frFit s x y = true := hx
    rw [h2]
    cases beF s x y <;> rfl
def eBends : Entry Try.prog := { f := 23, fn := shSC fun s x y => (saFit s x y, .tup [.fl .f32 (bif beOk s x y then beXX s x y else c32 0), .fl .f32 (bif beOk s x y then beXY s x y else c32 0), .fl .f32 (bif beOk s x y then beYY s x y else c32 0), .sb (beOk s x y)]), ok := okSCP (E := [eIsPoint, eFrame, eBend, eAreFinite3]) Try.func23 (by kernel_rfl) fun s x y h => eBends_run s x y h }
-- speeds
def spW (s x y c : F32) : F32 := two32 * pot s x y - c
def spV (s x y c : F32) : F32 := narrow (sqrt (widen (spW s x y c)))
def spOk (s x y c : F32) : Bool := isPt s x y && isFinite c
def shSCS (g : F32 → F32 → F32 → F32 → Bool × AV) : List AV → List (List AC) → Option (Bool × AV)
  | [.c (.fl .f32 s), .c (.cx .f32 x y), .c (.fl .f32 c)], _ => some (g s x y c)
  | _, _ => none
theorem okSCSP {P : Program} {E : List (Entry P)} {f : FuncId} {fn : Func} {g : F32 → F32 → F32 → F32 → Bool × AV} (hf : P.funcs[f]? = some fn) (hn : (fn.name == "runtime.NumGoroutine") = false)
    (h : ∀ (s x y c : F32), (g s x y c).1 = true → runP P E fn [.c (.fl .f32 s), .c (.cx .f32 x y), .c (.fl .f32 c)] [] = some (g s x y c).2) : EOk P f (shSCS g) := by
  intro args M q hr σ vs w _ ha
  unfold shSCS at hr
  split at hr
  · rename_i s x y c
    have hr' := Option.some.inj hr
    have h1 := h s x y c (by rw [hr'])
    rw [hr'] at h1
    exact gives0P hf hn rfl h1 ha
  · cases hr
theorem eSpeed_raw (s x y c : F32) : runP Try.prog [eIsPoint, eIsFinite, eFrame, ePotential, eRootN, eTold] Try.f24 [.c (.fl .f32 s), .c (.cx .f32 x y), .c (.fl .f32 c)] [] =
    bif !(isPt s x y) then Zr else bif !(isFinite c) then Zr else bif frFit s x y then (bif fits (powerW x y) then (bif lt (spW s x y c) (c32 0) then Zr else bif fits (sqrt (widen (spW s x y c))) then
      some (.tup [.fl .f32 (toldV (spV s x y c)), .sb (toldB (spV s x y c))]) else none) else none) else none := by kernel_rfl
def spFit (s x y c : F32) : Bool := potFit s x y && fits (sqrt (widen (spW s x y c)))
theorem eSpeed_run (s x y c : F32) (hx : (!(spOk s x y c) || spFit s x y c) = true) : runP Try.prog [eIsPoint, eIsFinite, eFrame, ePotential, eRootN, eTold] Try.f24 [.c (.fl .f32 s), .c (.cx .f32 x y), .c (.fl .f32 c)] [] =
    some (.tup [.fl .f32 (bif spOk s x y c then (bif lt (spW s x y c) (c32 0) then c32 0 else toldV (spV s x y c)) else c32 0), .sb (bif spOk s x y c then (bif lt (spW s x y c) (c32 0) then false else toldB (spV s x y c)) else false)]) := by
  rw [eSpeed_raw]
  unfold spOk at hx ⊢
  cases h1 : isPt s x y
  · rfl
  · cases h2 : isFinite c
    · rfl
    · rw [h1, h2] at hx
      have h3 : spFit s x y c = true := hx
      unfold spFit potFit at h3
      simp only [Bool.and_eq_true] at h3
      rw [h3.1.1, h3.1.2, h3.2]
      cases lt (spW s x y c) (c32 0) <;> rfl
def eSpeed : Entry Try.prog := { f := 24, fn := shSCS fun s x y c => (!(spOk s x y c) || spFit s x y c, .tup [.fl .f32 (bif spOk s x y c then (bif lt (spW s x y c) (c32 0) then c32 0 else toldV (spV s x y c)) else c32 0), .sb (bif spOk s x y c then (bif lt (spW s x y c) (c32 0) then false else toldB (spV s x y c)) else false)]), ok := okSCSP (E := [eIsPoint, eIsFinite, eFrame, ePotential, eRootN, eTold]) Try.func24 (by kernel_rfl) fun s x y c h => eSpeed_run s x y c h }
-- sways
def bxx (s x y : F32) : F32 := bif beOk s x y then beXX s x y else c32 0
def bxy (s x y : F32) : F32 := bif beOk s x y then beXY s x y else c32 0
def byy (s x y : F32) : F32 := bif beOk s x y then beYY s x y else c32 0
def swPp (s x y : F32) : F32 := c32 1056964608 * ((c32 1082130432 - bxx s x y) - byy s x y)
def swQ (s x y : F32) : F32 := bxx s x y * byy s x y - bxy s x y * bxy s x y
def swD (s x y : F32) : F32 := swPp s x y * swPp s x y - swQ s x y
def rootN (x : F32) : F32 := narrow (sqrt (widen x))
def swA (s x y : F32) : F32 := -(swPp s x y) + rootN (swD s x y)
def swBb (s x y : F32) : F32 := -(swPp s x y) - rootN (swD s x y)
def ZrS : AV := .tup [.cx .f32 (c32 0) (c32 0), .cx .f32 (c32 0) (c32 0), .sb false]
def swFin (a b c d : F32) : Option AV := bif !(cfin a b) then some ZrS else bif !(cfin c d) then some ZrS else some (.tup [.cx .f32 a b, .cx .f32 c d, .sb true])
theorem eSways_raw (s x y : F32) : runP Try.prog [eBends, eRootN, eCFin] Try.f68 [.c (.fl .f32 s), .c (.cx .f32 x y)] [] =
    bif saFit s x y then (bif !(beOk s x y) then some ZrS else bif fits (sqrt (widen (swD s x y))) then (bif fits (sqrt (widen (swD s x y))) then
      (bif !(ge (swD s x y) (c32 0)) then (bif fits (sqrt (widen (-(swD s x y)))) then (bif fits (sqrt (widen (-(swD s x y)))) then swFin (-(swPp s x y)) (rootN (-(swD s x y))) (-(swPp s x y)) (-(rootN (-(swD s x y)))) else none) else none)
      else swFin (swA s x y) (c32 0) (swBb s x y) (c32 0)) else none) else none) else none := by kernel_rfl
def swS (s x y : F32) : Bool := ge (swD s x y) (c32 0)
def swAx (s x y : F32) : F32 := bif swS s x y then swA s x y else -(swPp s x y)
def swAy (s x y : F32) : F32 := bif swS s x y then c32 0 else rootN (-(swD s x y))
def swBx (s x y : F32) : F32 := bif swS s x y then swBb s x y else -(swPp s x y)
def swBy (s x y : F32) : F32 := bif swS s x y then c32 0 else -(rootN (-(swD s x y)))
def swyOk (s x y : F32) : Bool := beOk s x y && (cfin (swAx s x y) (swAy s x y) && cfin (swBx s x y) (swBy s x y))
def swFit (s x y : F32) : Bool := saFit s x y && (!(beOk s x y) || (fits (sqrt (widen (swD s x y))) && (swS s x y || fits (sqrt (widen (-(swD s x y)))))))
def swT (s x y : F32) : AV := .tup [.cx .f32 (bif swyOk s x y then swAx s x y else c32 0) (bif swyOk s x y then swAy s x y else c32 0), .cx .f32 (bif swyOk s x y then swBx s x y else c32 0) (bif swyOk s x y then swBy s x y else c32 0), .sb (swyOk s x y)]
theorem swFin_eq (a b c d : F32) : swFin a b c d = some (.tup [.cx .f32 (bif cfin a b && cfin c d then a else c32 0) (bif cfin a b && cfin c d then b else c32 0), .cx .f32 (bif cfin a b && cfin c d then c else c32 0) (bif cfin a b && cfin c d then d else c32 0), .sb (cfin a b && cfin c d)]) := by
  unfold swFin
  cases cfin a b
  · rfl
  · cases cfin c d <;> rfl
theorem eSways_run (s x y : F32) (hx : swFit s x y = true) : runP Try.prog [eBends, eRootN, eCFin] Try.f68 [.c (.fl .f32 s), .c (.cx .f32 x y)] [] = some (swT s x y) := by
  rw [eSways_raw]
  unfold swFit at hx
  simp only [Bool.and_eq_true] at hx
  rw [hx.1]
  unfold swT swyOk
  cases h1 : beOk s x y
  · rfl
  · have h2 := hx.2
    rw [h1] at h2
    simp only [Bool.not_true, Bool.false_or, Bool.and_eq_true] at h2
    rw [h2.1]
    unfold swAx swAy swBx swBy
    cases h3 : swS s x y
    · rw [h3] at h2
      have h4 := h2.2
      simp only [Bool.false_or] at h4
      have h5 : ge (swD s x y) (c32 0) = false := h3
      rw [h4, h5]
      show swFin _ _ _ _ = _
      rw [swFin_eq]; rfl
    · have h5 : ge (swD s x y) (c32 0) = true := h3
      rw [h5]
      show swFin _ _ _ _ = _
      rw [swFin_eq]; rfl
def eSways : Entry Try.prog := { f := 68, fn := shSC fun s x y => (swFit s x y, swT s x y), ok := okSCP (E := [eBends, eRootN, eCFin]) Try.func68 (by kernel_rfl) fun s x y h => eSways_run s x y h }
-- steadiness
def zAx (s x y : F32) : F32 := bif swyOk s x y then swAx s x y else c32 0
def zAy (s x y : F32) : F32 := bif swyOk s x y then swAy s x y else c32 0
def zBx (s x y : F32) : F32 := bif swyOk s x y then swBx s x y else c32 0
def zBy (s x y : F32) : F32 := bif swyOk s x y then swBy s x y else c32 0
def stdB (s x y : F32) : Bool := swyOk s x y && (eq (zAy s x y) (c32 0) && (eq (zBy s x y) (c32 0) && (lt (zAx s x y) (c32 0) && lt (zBx s x y) (c32 0))))
theorem eSteady_run (s x y : F32) (hx : swFit s x y = true) : runP Try.prog [eSways] Try.f19 [.c (.fl .f32 s), .c (.cx .f32 x y)] [] = some (.c (.sb (stdB s x y))) := by
  have h : runP Try.prog [eSways] Try.f19 [.c (.fl .f32 s), .c (.cx .f32 x y)] [] = bif swFit s x y then (bif swyOk s x y then (bif eq (zAy s x y) (c32 0) then (bif eq (zBy s x y) (c32 0) then (bif lt (zAx s x y) (c32 0) then
    some (.c (.sb (lt (zBx s x y) (c32 0)))) else some (.c (.sb false))) else some (.c (.sb false))) else some (.c (.sb false))) else some (.c (.sb false))) else none := by kernel_rfl
  rw [h, hx]
  unfold stdB
  simp only [push_and]; rfl
def eSteady : Entry Try.prog := { f := 19, fn := shSC fun s x y => (swFit s x y, .c (.sb (stdB s x y))), ok := okSCP (E := [eSways]) Try.func19 (by kernel_rfl) fun s x y h => eSteady_run s x y h }
end Go.Proofs.Ytlpahmefebgdlaa.Fx
/- The executor: appends to slices of elements of two cells. No condition. -/
namespace Go.Proofs.Ytlpahmefebgdlaa.Fx
open Go Go.RowKit

/-- An append to a slice that the run made itself, of elements of two cells. -/
def appW (P : Program) (n0 k0 : Nat) (t : TypeId) (s x : AV) (F : List AV) (M : List (List AC)) : Option (AV × List AV × List (List AC)) :=
  match P.underlying t with
  | some (.slice e) =>
    match P.info? e with
    | some i =>
      if i.size = 2 ∧ i.zero.map (·.cells.size) = some 2 ∧ i.bytes ≤ 1000 then
        match s, x with
        | .c (.slw id n), .c (.slw id2 m) =>
          match M[id]?, M[id2]? with
          | some cs, some l =>
            if cs.length = n * 2 ∧ m * 2 ≤ l.length ∧ (l.take (m * 2)).all oneA = true ∧ cs.all plainC = true ∧ (l.take (m * 2)).all plainC = true ∧ n0 ≤ id ∧ k0 ≤ id ∧ 0 < m ∧ n + m ≤ 1000 then
              some (.c (.slw id (n + m)), F.map (killA id), (M.map (·.map (killC id))).set id (cs ++ l.take (m * 2)))
            else none
          | _, _ => none
        | _, _ => none
      else none
    | none => none
  | _ => none

theorem appW_sound {P : Program} {n0 k0 : Nat} {w0 : Base} {F F1 : List AV} {M M1 : List (List AC)} {t ty : TypeId} {s x : Operand} {r : AV} (hk : w0.s0.length ≤ k0) (h : appW P n0 k0 t (evA F s) (evA F x) F M = some (r, F1, M1)) (dst : Option Tmp)
    {σ : List (Nat × Nat)} {a : Act} {w : World} (hS : St σ n0 w0 F M a w) : ∃ σ' v w', (Builtin.append_ #[t, t] ty #[a.eval s, a.eval x]).run P w = .ok v w' ∧ St σ' n0 w0 (putA F1 dst r) M1 (a.put dst v) w' := by
  unfold appW at h
  split at h
  · rename_i e ht
    split at h
    · rename_i i hi
      split at h
      · rename_i hsz
        obtain ⟨hsz, hzz, hby⟩ := hsz
        obtain ⟨z, hz, hz1⟩ : ∃ z, i.zero = some z ∧ z.cells.size = 2 := by
          cases hq : i.zero with
          | none => rw [hq] at hzz; cases hzz
          | some z => rw [hq] at hzz; exact ⟨z, rfl, Option.some.inj hzz⟩
        split at h
        · rename_i id n id2 m es ex
          split at h
          · rename_i cs l hcs hl
            split at h
            · rename_i hc
              obtain ⟨c1, c2, c3, c4, c5, c6, c7, c8, c9⟩ := hc
              cases h
              have hs := rep_ev hS.frame s
              have hx := rep_ev hS.frame x
              rw [es] at hs; rw [ex] at hx
              obtain ⟨b, cp, hb, hbn, hcp, hvs⟩ := hs
              obtain ⟨b2, cp2, hb2, hbn2, hcp2, hvx⟩ := hx
              obtain ⟨vs, e1, hw1, hP1, hs1⟩ := hS.mem.at_ id b cs hb hcs
              obtain ⟨us, e2, hw2, hP2, hs2⟩ := hS.mem.at_ id2 b2 l hb2 hl
              have hidlt : id < σ.length := (List.getElem?_eq_some_iff.1 hb).1
              have hnew := cells_take hP2 (m * 2) c2
              have hold := cells_take hP1 (n * 2) (by omega)
              have hold' : RepL σ cs (vs.toList.take (n * 2)) := by rwa [List.take_of_length_le (by omega)] at hold
              have hPl1 := hP1.le
              have hPl2 := hP2.le
              simp only [Array.length_toList] at hPl1 hPl2
              have one : ∀ u ∈ us.toList.take (m * 2), u.cells = #[u] ∧ u.oneCell' = true := by
                intro u hu
                obtain ⟨j, hj⟩ := List.getElem?_of_mem hu
                have hjl : j < (l.take (m * 2)).length := by rw [hnew.length]; exact (List.getElem?_eq_some_iff.1 hj).1
                obtain ⟨v, hv, hr⟩ := hnew.get? (List.getElem?_eq_getElem hjl)
                rw [hj] at hv
                cases hv
                exact oneA_cells hr (List.all_eq_true.1 c3 _ (List.getElem_mem _))
              have hll : (us.toList.take (m * 2)).length = m * i.size := by simp [hsz]; omega
              have hnews : ∀ j u, (us.toList.take (m * 2))[j]? = some u → w.cell? ((⟨b2.1, 0, none⟩ : Addr).add j) = some u := by
                intro j u hj
                have hjm : j < m * 2 := by
                  have := (List.getElem?_eq_some_iff.1 hj).1
                  simp at this; omega
                rw [List.getElem?_take_of_lt hjm] at hj
                rw [add_off]
                simp only [World.cell?, hw2]
                simpa using hj
              have hpre : ∀ {p : Nat × Nat}, w0.s0 <+: σ.set id p := by
                intro p
                obtain ⟨t, ht⟩ := hS.pre
                refine ⟨t.set (id - w0.s0.length) p, ?_⟩
                rw [← ht, List.set_append_right _ _ (by omega)]
              rw [hvs, hvx]
              by_cases hroom : n + m ≤ cp
              · -- in place
                have hr := append_room (P := P) (w := w) t ty e e1 i ht hi b.1 n cp vs hw1 ⟨b2.1, 0, none⟩ m cp2 (us.toList.take (m * 2)) hll hnews (fun u hu => (one u hu).2) hroom (by rw [hsz]; simp; omega)
                refine ⟨σ.set id b, _, _, hr, ?_⟩
                have hset : σ.set id b = σ := by
                  apply List.ext_getElem?
                  intro j
                  by_cases hj : id = j
                  · subst hj; rw [List.getElem?_set_self hidlt, hb]
                  · rw [List.getElem?_set_ne hj]
                rw [hsz]
                have hlen : (us.toList.take (m * 2)).length = m * 2 := by simp; omega
                refine ⟨by cases dst <;> exact hS.defers, rep_put (hS.frame.kill b) dst ?_, hS.mem.kill hidlt (p := b) (vs := (vs.toList.take (n * 2) ++ us.toList.take (m * 2) ++ vs.toList.drop (n * 2 + (us.toList.take (m * 2)).length)).toArray) (e := e1) (setRow_heap w b.1 vs _ e1 (0, 0) hw1) ?_ ?_ ?_, hS.ext.setRow (hS.own id b c6 hb) _, ?_, hpre⟩
                · exact ⟨b, cp, List.getElem?_set_self hidlt, hroom, hcp, rfl⟩
                · rw [hset]
                  refine ⟨vs.size - (n * 2 + m * 2), ?_⟩
                  rw [List.toList_toArray]
                  refine (hold'.append hnew).append ?_
                  have := RepL.some_any (σ := σ) (vs.toList.drop (n * 2 + (us.toList.take (m * 2)).length))
                  rw [List.length_drop, hlen, Array.length_toList] at this
                  rw [hlen]
                  exact this
                · simp; omega
                · intro j b' hj hb'
                  have hne : b'.1 ≠ b.1 := fun e => by
                    have h1 : (σ.map (·.1))[j]? = some b'.1 := by rw [List.getElem?_map, hb']; rfl
                    have h2 : (σ.map (·.1))[id]? = some b.1 := by rw [List.getElem?_map, hb]; rfl
                    exact hj ((List.getElem?_inj (List.getElem?_eq_some_iff.1 h1).1 hS.mem.nodup).1 (h1.trans (by rw [e, h2])))
                  refine ⟨hne, ?_⟩
                  simp only [World.setRow, Array.getElem?_modify]
                  rw [if_neg (Ne.symm hne)]
                · rw [hset]; exact hS.own
              · -- a new block
                have hcap : n ≤ 1000 := by omega
                have hnext := nextslicecap_le (need := n + m) (old := cp) (by omega)
                have holds : ∀ j v, (vs.toList.take (n * 2))[j]? = some v → w.cell? ((⟨b.1, 0, none⟩ : Addr).add j) = some v := by
                  intro j u hj
                  have hjm : j < n * 2 := by
                    have := (List.getElem?_eq_some_iff.1 hj).1
                    simp at this; omega
                  rw [List.getElem?_take_of_lt hjm] at hj
                  rw [add_off]
                  simp only [World.cell?, hw1]
                  simpa using hj
                have hr := run_append_grow (P := P) w t ty e i z ht hi hz ⟨b.1, 0, none⟩ n cp (vs.toList.take (n * 2)) (by simp [hsz]; omega) holds ⟨b2.1, 0, none⟩ m cp2 (us.toList.take (m * 2)) hll hnews (by omega) (by omega) (by
                  have : Builtin.nextslicecap (n + m) cp * i.bytes ≤ 2000 * 1000 := Nat.mul_le_mul (by omega) hby
                  omega)
                have hge := grownCap_ge w (n + m) cp e
                refine ⟨σ.set id (w.heap.size, grownCap w (n + m) cp e * 2), _, _, hr, ?_⟩
                have hext : Ext w (w.drew.alloc (.cells ((vs.toList.take (n * 2)).toArray ++ (us.toList.take (m * 2)).toArray ++ Builtin.zeroCells z.cells (grownCap w (n + m) cp e - (n + m))) e)) := (Ext.drewN w 1).trans (Ext.alloc _ _)
                refine ⟨by cases dst <;> exact hS.defers, rep_put (hS.frame.kill _) dst ?_, hS.mem.kill hidlt (p := (w.heap.size, grownCap w (n + m) cp e * 2)) (heap_alloc_new w.drew _) ?_ ?_ ?_, hS.ext.trans hext, ?_, hpre⟩
                · exact ⟨_, _, List.getElem?_set_self hidlt, hge, rfl, rfl⟩
                · refine ⟨(grownCap w (n + m) cp e - (n + m)) * 2, ?_⟩
                  have k1 : RepL (σ.set id (w.heap.size, grownCap w (n + m) cp e * 2)) cs (vs.toList.take (n * 2)) := plainL_rep c4 hold'
                  have k2 : RepL (σ.set id (w.heap.size, grownCap w (n + m) cp e * 2)) (l.take (m * 2)) (us.toList.take (m * 2)) := plainL_rep c5 hnew
                  have k3 := RepL.some_any (σ := σ.set id (w.heap.size, grownCap w (n + m) cp e * 2)) (Builtin.zeroCells z.cells (grownCap w (n + m) cp e - (n + m))).toList
                  rw [Array.length_toList, size_zeroCells, hz1] at k3
                  have := (k1.append k2).append k3
                  simpa using this
                · simp only [Array.size_append, List.size_toArray, size_zeroCells, hz1, List.length_take, Array.length_toList]
                  omega
                · intro j b' hj hb'
                  have hlt := hS.mem.lt hb'
                  exact ⟨by show b'.1 ≠ w.heap.size; omega, heap_alloc_old w.drew _ hlt⟩
                · intro j b' hj hb'
                  by_cases hji : j = id
                  · subst hji
                    rw [List.getElem?_set_self hidlt] at hb'
                    cases hb'
                    exact hS.ext.size
                  · rw [List.getElem?_set_ne (Ne.symm hji)] at hb'
                    exact hS.own j b' hj hb'
            · cases h
          · cases h
        · cases h
      · cases h
    · cases h
  · cases h
end Go.Proofs.Ytlpahmefebgdlaa.Fx
/- The executor: regions whose order is drawn and that make variables of their own. No condition. -/
namespace Go.Proofs.Ytlpahmefebgdlaa.Fx
open Go Go.RowKit

/-- The place of an operand among the variables that a region makes. -/
def ghostIx (gl : List Tmp) : Operand → Option Nat
  | .tmp d => gl.findIdx? (· == d)
  | _ => none
/-- The value of an operation, and what the region's own variables hold behind it. -/
def valG (P : Program) (E : List (Entry P)) (M0 : List (List AC)) (gl : List Tmp) (F : List AV) (C : List (List AC)) (op : Op) : Option (AV × List (List AC)) :=
  match op with
  | .alloc _ => some (.c .any, C)
  | .store t x y => match ghostIx gl x, cellsOk (evA F y), P.info? t with
    | some j, some l, some i => match C[j]? with
      | some cs => if l.length = i.size ∧ l.length = cs.length then some (undefA, C.set j l) else none
      | none => none
    | _, _, _ => none
  | op => (valA P E F M0 op).map fun v => (v, C)
def stepG (P : Program) (E : List (Entry P)) (M0 : List (List AC)) (gl : List Tmp) (ops : Array Oper) (o : Oper) (F : List AV) (M : List (List AC)) : Option (AV × List (List AC)) :=
  match o.guard with
  | none => valG P E M0 gl F M o.op
  | some (j, want) =>
    match (ops[j]?).bind (·.dst) with
    | none => none
    | some d =>
      match F[d]? with
      | some (.c (.sb b)) => cond (b == want) (valG P E M0 gl F M o.op) (some (undefA, M))
      | some (.c (.val (.tuple _))) => some (undefA, M)
      | _ => none
def memApartG (x y : Oper) : Bool := noStore x.op || noStore y.op
theorem valG_congr {P : Program} {E : List (Entry P)} {M0 : List (List AC)} {gl : List Tmp} {F F' : List AV} {M : List (List AC)} (op : Op) (h : ∀ x ∈ op.operands, evA F x = evA F' x) : valG P E M0 gl F M op = valG P E M0 gl F' M op := by
  have hv := valA_congr (P := P) (E := E) (M := M0) op h
  cases op <;> simp only [valG, hv]
  case store t x y =>
    simp only [Op.operands] at h
    rw [h y (by simp)]

theorem stepG_put {P : Program} {E : List (Entry P)} {M0 : List (List AC)} {gl : List Tmp} {ops : Array Oper} {M : List (List AC)} {o : Oper} {F : List AV} {dst : Option Tmp} {v : AV} (h : ∀ d, dst = some d → d ∉ o.looksAt ops) : stepG P E M0 gl ops o (putA F dst v) M = stepG P E M0 gl ops o F M := by
  have hv : valG P E M0 gl (putA F dst v) M o.op = valG P E M0 gl F M o.op := valG_congr o.op fun x hx => evA_put fun d hd hxd => h d hd (by
    subst hxd
    exact List.mem_append_left _ (List.mem_filterMap.2 ⟨.tmp d, by simpa using hx, rfl⟩))
  unfold stepG
  rw [hv]
  cases hg : o.guard with
  | none => rfl
  | some gw =>
    obtain ⟨j, want⟩ := gw
    cases ht : (ops[j]?).bind (·.dst) with
    | none => simp only [ht]
    | some t =>
      have he : (putA F dst v)[t]? = F[t]? := by
        cases dst with
        | none => rfl
        | some d =>
          have hne : d ≠ t := fun e => h d rfl (by subst e; simp [Oper.looksAt, hg, ht])
          simp only [putA, List.getElem?_set_ne hne]
      simp only [ht, he]
theorem blind_valG {P : Program} {E : List (Entry P)} {M0 : List (List AC)} {gl : List Tmp} {F : List AV} {M : List (List AC)} {op : Op} (h : noStore op = true) (M' : List (List AC)) : valG P E M0 gl F M' op = (valG P E M0 gl F M op).map fun r => (r.1, M') := by
  cases op <;> first | (cases h; done) | skip
  all_goals
    simp only [valG]
    try rfl
  all_goals
    generalize valA P E F M0 _ = r
    cases r <;> rfl
theorem blind_stepG {P : Program} {E : List (Entry P)} {M0 : List (List AC)} {gl : List Tmp} {ops : Array Oper} {F : List AV} {M : List (List AC)} {o : Oper} (h : noStore o.op = true) (M' : List (List AC)) : stepG P E M0 gl ops o F M' = (stepG P E M0 gl ops o F M).map fun r => (r.1, M') := by
  have hv := blind_valG (P := P) (E := E) (M0 := M0) (gl := gl) (F := F) (M := M) h M'
  unfold stepG
  rw [hv]
  split
  · rfl
  · split
    · rfl
    · split
      · rename_i b _
        cases b == _ <;> rfl
      · rfl
      · rfl
theorem noStore_stepG {P : Program} {E : List (Entry P)} {M0 : List (List AC)} {gl : List Tmp} {ops : Array Oper} {F : List AV} {M M' : List (List AC)} {o : Oper} {v : AV} (h : noStore o.op = true) (hs : stepG P E M0 gl ops o F M = some (v, M')) : M' = M := by
  have := blind_stepG (P := P) (E := E) (M0 := M0) (gl := gl) (ops := ops) (F := F) (M := M) h M
  rw [hs] at this
  simpa using this
/-- Two operations whose memories do not meet may change places. -/
theorem stepG_swap {P : Program} {E : List (Entry P)} {M0 : List (List AC)} {gl : List Tmp} {ops : Array Oper} {F : List AV} {M M1 M2 : List (List AC)} {x y : Oper} {v u : AV} (hm : memApartG x y = true)
    (hx : stepG P E M0 gl ops x F M = some (v, M1)) (hy : stepG P E M0 gl ops y F M1 = some (u, M2)) : ∃ M3, stepG P E M0 gl ops y F M = some (u, M3) ∧ stepG P E M0 gl ops x F M3 = some (v, M2) := by
  simp only [memApartG, Bool.or_eq_true] at hm
  rcases hm with hb | hb
  · have e1 := noStore_stepG hb hx
    subst e1
    exact ⟨M2, hy, by rw [blind_stepG hb M2, hx]; rfl⟩
  · have e1 := noStore_stepG hb hy
    subst e1
    have h3 := blind_stepG (P := P) (E := E) (M0 := M0) (gl := gl) (ops := ops) (F := F) (M := M2) (o := y) hb M
    rw [hy] at h3
    exact ⟨M, h3, hx⟩

/-- Whatever the order, this is the end. -/
def anyG (P : Program) (E : List (Entry P)) (M0 : List (List AC)) (gl : List Tmp) (md : Region.Mode) (ops : Array Oper) (F' : List AV) (M' : List (List AC)) : Nat → Array Bool → List AV → List (List AC) → Prop
  | 0, listed, F, M => Region.ready md ops listed = [] ∧ F = F' ∧ M = M'
  | fuel + 1, listed, F, M =>
    (Region.ready md ops listed = [] → F = F' ∧ M = M') ∧
    ∀ i ∈ Region.ready md ops listed, ∃ o v M1, ops[i]? = some o ∧ stepG P E M0 gl ops o F M = some (v, M1) ∧ anyG P E M0 gl md ops F' M' fuel (listed.setIfInBounds i true) (putA F o.dst v) M1

theorem anyG_first {P : Program} {E : List (Entry P)} {M0 : List (List AC)} {gl : List Tmp} {md : Region.Mode} {ops : Array Oper} {F' : List AV} {M' : List (List AC)} {i : Nat} {oi : Oper} {v : AV} (hi : ops[i]? = some oi) :
    ∀ (fuel : Nat) (listed : Array Bool) (F : List AV) (M M1 : List (List AC)),
      (∀ j oj, ops[j]? = some oj → j ≠ i → listed.getD j true = false → (∀ e ∈ oj.after, Region.binds md e = true → e.on ≠ i) → oi.apart ops oj = true ∧ memApartG oi oj = true) →
      i ∈ Region.ready md ops listed → stepG P E M0 gl ops oi F M = some (v, M1) →
      anyG P E M0 gl md ops F' M' fuel (listed.setIfInBounds i true) (putA F oi.dst v) M1 → anyG P E M0 gl md ops F' M' (fuel + 1) listed F M := by
  intro fuel
  induction fuel with
  | zero =>
    intro listed F M M1 _ hr hy H
    refine ⟨fun h => (by rw [h] at hr; cases hr), fun j hj => ?_⟩
    by_cases hji : j = i
    · subst hji; exact ⟨oi, v, M1, hi, hy, H⟩
    · have := ready_mono hj hji
      rw [H.1] at this
      cases this
  | succ fuel ih =>
    intro listed F M M1 hfree hr hy H
    refine ⟨fun h => (by rw [h] at hr; cases hr), fun j hj => ?_⟩
    by_cases hji : j = i
    · subst hji; exact ⟨oi, v, M1, hi, hy, H⟩
    · obtain ⟨oj', u, M2, hoj', hu, hK⟩ := H.2 j (ready_mono hj hji)
      obtain ⟨hjun, oj, hoj, hall⟩ := mem_ready.1 hj
      rw [hoj] at hoj'
      have eo := Option.some.inj hoj'
      subst eo
      have hnot : ∀ e ∈ oj.after, Region.binds md e = true → e.on ≠ i := fun e he hb heq => by
        have h1 := hall e he hb
        have h0 := (mem_ready.1 hr).1
        rw [heq] at h1
        rcases Nat.lt_or_ge i listed.size with h' | h'
        · simp [h'] at h0 h1; rw [h0] at h1; cases h1
        · simp [Array.getElem?_eq_none h'] at h1
      obtain ⟨hap, hma⟩ := hfree j oj hoj hji hjun hnot
      obtain ⟨h1, h2, h3⟩ := Oper.apart_spec hap
      rw [stepG_put h1] at hu
      obtain ⟨M3, hu3, hy3⟩ := stepG_swap hma hy hu
      refine ⟨oj, u, M3, hoj, hu3, ih (listed.setIfInBounds j true) (putA F oj.dst u) M3 M2 (fun k ok hk hki hun hno => ?_) (ready_mono hr (Ne.symm hji)) ?_ ?_⟩
      · refine hfree k ok hk hki ?_ hno
        by_cases hjk : j = k
        · subst hjk; exact hjun
        · rw [getD_set_ne true hjk] at hun; exact hun
      · rw [stepG_put h3]; exact hy3
      · rw [Array.setIfInBounds_comm _ _ hji, ← putA_comm F v u h2]
        exact hK

def runG (P : Program) (E : List (Entry P)) (M0 : List (List AC)) (gl : List Tmp) (ops : Array Oper) : List Oper → List AV → List (List AC) → Option (List AV × List (List AC))
  | [], F, M => some (F, M)
  | o :: l, F, M => match stepG P E M0 gl ops o F M with
    | some (v, M1) => runG P E M0 gl ops l (putA F o.dst v) M1
    | none => none

/-- The memories of an operation and of those that need not wait for it do not meet. -/
def memFreeG (md : Region.Mode) (ops : Array Oper) (listed : Array Bool) (i : Nat) : Bool :=
  match ops[i]? with
  | none => false
  | some oi => (List.range ops.size).all fun j => j == i || listed.getD j true || match ops[j]? with
      | some oj => oj.after.any (fun e => Region.binds md e && e.on == i) || memApartG oi oj
      | none => true
def memLexFromG (md : Region.Mode) (ops : Array Oper) : Nat → Nat → Array Bool → Bool
  | 0, _, _ => true
  | fuel + 1, k, listed => memFreeG md ops listed k && memLexFromG md ops fuel (k + 1) (listed.setIfInBounds k true)
def memLexBG (md : Region.Mode) (ops : Array Oper) : Bool := memLexFromG md ops ops.size 0 (Array.replicate ops.size false)

theorem memFreeG_spec {md : Region.Mode} {ops : Array Oper} {i : Nat} {oi : Oper} {listed : Array Bool} (hi : ops[i]? = some oi) (h : memFreeG md ops listed i = true) (j : Nat) (oj : Oper)
    (hj : ops[j]? = some oj) (hne : j ≠ i) (hun : listed.getD j true = false) (hno : ∀ e ∈ oj.after, Region.binds md e = true → e.on ≠ i) : memApartG oi oj = true := by
  simp only [memFreeG, hi, List.all_eq_true, List.mem_range] at h
  have h1 := h j (Array.getElem?_eq_some_iff.1 hj).1
  simp only [hj, hun, Bool.or_false, Bool.or_eq_true, beq_iff_eq] at h1
  rcases h1 with h1 | h1 | h1
  · exact (hne h1).elim
  · obtain ⟨e, he, hb⟩ := Array.any_eq_true'.1 h1
    simp only [Bool.and_eq_true, beq_iff_eq] at hb
    exact (hno e he hb.1 hb.2).elim
  · exact h1

theorem anyG_lex {P : Program} {E : List (Entry P)} {M0 : List (List AC)} {gl : List Tmp} {md : Region.Mode} {ops : Array Oper} {F' : List AV} {M' : List (List AC)} : ∀ (l : List Oper) (k : Nat) (listed : Array Bool) (F : List AV) (M : List (List AC)), (∀ j, l[j]? = ops[k + j]?) →
    Region.lexFrom md ops l.length k listed = true → memLexFromG md ops l.length k listed = true → runG P E M0 gl ops l F M = some (F', M') → anyG P E M0 gl md ops F' M' l.length listed F M
  | [], _, _, _, _, _, hB, _, h => by
    cases h
    exact ⟨by simpa [Region.lexFrom] using hB, rfl, rfl⟩
  | o :: l, k, listed, F, M, hl, hB, hC, h => by
    have h0 : ops[k]? = some o := by simpa using (hl 0).symm
    simp only [List.length_cons, Region.lexFrom, memLexFromG, Bool.and_eq_true] at hB hC
    obtain ⟨⟨hr, hf⟩, hB'⟩ := hB
    simp only [runG] at h
    split at h
    · rename_i v M1 hv
      exact anyG_first h0 l.length listed F M M1 (fun j oj hj hne hun hno => ⟨Region.free_spec h0 hf j oj hj hne hun hno, memFreeG_spec h0 hC.1 j oj hj hne hun hno⟩) (by simpa using hr) hv
        (anyG_lex l (k + 1) _ _ _ (fun j => by have := hl (j + 1); simpa [Nat.add_assoc, Nat.add_comm 1 j] using this) hB' hC.2 h)
    · cases h

-- what the model does
def zerosOf (P : Program) (t : TypeId) : Option (List AC) := ((P.info? t).bind (·.zero)).map fun z => z.cells.toList.map toC
/-- The variables that a region makes: the operation's index, the slot, the type. -/
def allocsFrom : Nat → List Oper → List (Nat × Tmp × TypeId)
  | _, [] => []
  | i, o :: l => match o.op, o.dst with
    | .alloc t, some d => (i, d, t) :: allocsFrom (i + 1) l
    | _, _ => allocsFrom (i + 1) l
/-- One operation is fit. -/
def ghostOp (P : Program) (gs : List (Nat × Tmp × TypeId)) (i : Nat) (o : Oper) : Bool :=
  match o.op with
  | .alloc t => o.guard.isNone && (o.after.isEmpty && (gs.any fun (g : Nat × Tmp × TypeId) => g.1 == i && (o.dst == some g.2.1 && (g.2.2 == t && (zerosOf P t).isSome))))
  | .store _ x _ => o.guard.isNone && (o.dst.isNone && ((gs.all fun (g : Nat × Tmp × TypeId) => !(g.1 == i)) && (match ghostIx (gs.map (·.2.1)) x with
      | some j => match gs[j]? with
        | some g => o.after.any fun e => Region.binds .any e && e.on == g.1
        | none => false
      | none => false)))
  | .box .. | .buildSlice .. => false
  | _ => gs.all fun (g : Nat × Tmp × TypeId) => !(o.dst == some g.2.1) && !(g.1 == i)
def ghostB (P : Program) (gs : List (Nat × Tmp × TypeId)) (ops : Array Oper) : Bool :=
  (List.range ops.size).all (fun i => match ops[i]? with | some o => ghostOp P gs i o | none => true) && decide ((gs.map (·.2.1)).Nodup ∧ (gs.map (·.1)).Nodup)
theorem ghostB_op {P : Program} {gs : List (Nat × Tmp × TypeId)} {ops : Array Oper} (h : ghostB P gs ops = true) {i : Nat} {o : Oper} (ho : ops[i]? = some o) : ghostOp P gs i o = true := by
  unfold ghostB at h
  rw [Bool.and_eq_true, List.all_eq_true] at h
  have := h.1 i (List.mem_range.2 (Array.getElem?_eq_some_iff.1 ho).1)
  simpa [ho] using this

structure GhostOk (P : Program) (gs : List (Nat × Tmp × TypeId)) (β : Nat → Nat) (listed : Array Bool) (σ : List (Nat × Nat)) (w0 : Base) (C : List (List AC)) (a : Act) (w : World) : Prop where
  idle : ∀ (j : Nat) (g : Nat × Tmp × TypeId), gs[j]? = some g → listed.getD g.1 true = false → C[j]? = zerosOf P g.2.2
  live : ∀ (j : Nat) (g : Nat × Tmp × TypeId), gs[j]? = some g → listed.getD g.1 true = true → a.tmps[g.2.1]? = some (.pointer (some ⟨β j, 0, none⟩)) ∧ (∃ (vs : Array Value) (e : TypeId) (cs : List AC), w.heap[β j]? = some (.cells vs e (0, 0)) ∧ C[j]? = some cs ∧ RepL σ cs vs.toList) ∧ (∀ b ∈ σ, b.1 ≠ β j) ∧ w0.heap.size ≤ β j
  apart : ∀ (j : Nat) (g : Nat × Tmp × TypeId) (j' : Nat) (g' : Nat × Tmp × TypeId), gs[j]? = some g → gs[j']? = some g' → listed.getD g.1 true = true → listed.getD g'.1 true = true → j ≠ j' → β j ≠ β j'

theorem getD_set_self (listed : Array Bool) (i : Nat) : (listed.setIfInBounds i true).getD i true = true := by
  rcases Nat.lt_or_ge i listed.size with h | h
  · simp [h]
  · simp [h]
theorem getD_true {listed : Array Bool} {i : Nat} (h : listed.getD i false = true) : listed.getD i true = true := by
  rcases Nat.lt_or_ge i listed.size with h' | h'
  · simpa [h'] using h
  · simp [Array.getElem?_eq_none h'] at h
theorem tmps_put {a : Act} {dst : Option Tmp} {v : Value} {d : Tmp} (h : dst ≠ some d) : (a.put dst v).tmps[d]? = a.tmps[d]? := by
  cases dst with
  | none => rfl
  | some e =>
    have : e ≠ d := fun he => h (by rw [he])
    simp only [Act.put, Array.getElem?_setIfInBounds_ne this]

/-- An operation that makes and touches none of the region's variables. -/
theorem GhostOk.other {P : Program} {gs : List (Nat × Tmp × TypeId)} {β : Nat → Nat} {listed : Array Bool} {σ : List (Nat × Nat)} {w0 : Base} {C : List (List AC)} {a : Act} {w w' : World} (h : GhostOk P gs β listed σ w0 C a w) {i : Nat} {dst : Option Tmp} (v : Value)
    (hi : ∀ g ∈ gs, g.1 ≠ i ∧ dst ≠ some g.2.1) (hx : Ext w w') : GhostOk P gs β (listed.setIfInBounds i true) σ w0 C (a.put dst v) w' := by
  have hg : ∀ {j : Nat} {g : Nat × Tmp × TypeId}, gs[j]? = some g → (listed.setIfInBounds i true).getD g.1 true = listed.getD g.1 true := fun hj => getD_set_ne true (Ne.symm (hi _ (List.mem_of_getElem? hj)).1)
  refine ⟨fun j g hj hl => ?_, fun j g hj hl => ?_, fun j g j' g' hj hj' hl hl' => ?_⟩
  · rw [hg hj] at hl; exact h.idle j g hj hl
  · rw [hg hj] at hl
    obtain ⟨h1, ⟨vs, e, cs, h2, h3, h4⟩, h5, h6⟩ := h.live j g hj hl
    refine ⟨by rw [tmps_put (hi _ (List.mem_of_getElem? hj)).2]; exact h1, ⟨vs, e, cs, ?_, h3, h4⟩, h5, h6⟩
    rw [hx.block _ (Array.getElem?_eq_some_iff.1 h2).1]; exact h2
  · rw [hg hj] at hl; rw [hg hj'] at hl'; exact h.apart j g j' g' hj hj' hl hl'

theorem anyG_sound {P : Program} {E : List (Entry P)} {M0 : List (List AC)} {gs : List (Nat × Tmp × TypeId)} {n0 : Nat} {ops : Array Oper} {F' : List AV} {C' : List (List AC)} {w0 : Base} {σ : List (Nat × Nat)} {Q : Exit → Act → World → Prop} {len : Nat} (hB : ghostB P gs ops = true)
    (hd : ∀ g ∈ gs, g.2.1 < len)
    (hQ : ∀ β listed a' w', Region.ready .any ops listed = [] → St σ n0 w0 F' M0 a' w' → GhostOk P gs β listed σ w0 C' a' w' → Q .normal a' w') :
    ∀ (fuel : Nat) (listed : Array Bool) (F : List AV) (C : List (List AC)) (β : Nat → Nat) (a : Act) (w : World), F.length = len → anyG P E M0 (gs.map (·.2.1)) .any ops F' C' fuel listed F C → St σ n0 w0 F M0 a w → GhostOk P gs β listed σ w0 C a w →
    wpAny P .any ops Q fuel listed a w
  | 0, listed, F, C, β, a, w, _, h, hS, hG => by
    obtain ⟨h1, rfl, rfl⟩ := h
    exact ⟨h1, hQ β listed a w h1 hS hG⟩
  | fuel + 1, listed, F, C, β, a, w, hlen, h, hS, hG => by
    refine ⟨fun h0 => ?_, fun i hi => ?_⟩
    · obtain ⟨rfl, rfl⟩ := h.1 h0
      exact hQ β listed a w h0 hS hG
    · obtain ⟨o, v, C1, ho, hv, hK⟩ := h.2 i hi
      have hop := ghostB_op hB ho
      have hput : ∀ (u : AV), (putA F o.dst u).length = len := by
        intro u
        cases o.dst with
        | none => exact hlen
        | some d => simp only [putA, List.length_set]; exact hlen
      obtain ⟨hun, o', ho', hall⟩ := mem_ready.1 hi
      have eo : o' = o := by rw [ho] at ho'; exact (Option.some.inj ho').symm
      subst eo
      have skip : (∀ g ∈ gs, g.1 ≠ i ∧ o'.dst ≠ some g.2.1) → Region.wanted o' (yielded ops a.tmps) = false → (v, C1) = (undefA, C) → wpOp P ops Q i (wpAny P .any ops Q fuel (listed.setIfInBounds i true)) a w := by
        intro hfree hw he
        cases he
        unfold wpOp
        simp only [ho]
        rw [if_neg (by rw [hw]; decide)]
        exact anyG_sound hB hd hQ fuel _ _ _ β _ w (hput _) hK (hS.put o'.dst (x := undefA) (v := undef) rfl (Ext.refl _)) (hG.other undef hfree (Ext.refl _))
      have plain : (∀ g ∈ gs, g.1 ≠ i ∧ o'.dst ≠ some g.2.1) → (match o'.op with | .alloc _ | .store .. => false | _ => true) = true → Region.wanted o' (yielded ops a.tmps) = true → valG P E M0 (gs.map (·.2.1)) F C o'.op = some (v, C1) → wpOp P ops Q i (wpAny P .any ops Q fuel (listed.setIfInBounds i true)) a w := by
        intro hfree hk hw he
        unfold wpOp
        simp only [ho]
        rw [if_pos hw]
        refine .inl ?_
        obtain ⟨dst, op, ty, pos, after, gd⟩ := o'
        have hr : ∃ r, valA P E F M0 op = some r ∧ (r, C) = (v, C1) := by
          unfold valG at he
          split at he
          · rename_i heq
            simp only at heq
            subst heq
            cases hk
          · rename_i heq
            simp only at heq
            subst heq
            cases hk
          · cases hr : valA P E F M0 op with
            | none => simp [hr] at he
            | some r => simp only [hr, Option.map_some, Option.some.injEq] at he; exact ⟨r, rfl, he⟩
        obtain ⟨r, hr, hvC⟩ := hr
        cases hvC
        exact valA_sound hr hS.frame hS.mem fun u w' hu hx => anyG_sound hB hd hQ fuel _ _ _ β _ w' (hput _) hK (hS.put dst hu hx) (hG.other u hfree hx)
      have guarded : (∀ g ∈ gs, g.1 ≠ i ∧ o'.dst ≠ some g.2.1) → (match o'.op with | .alloc _ | .store .. => false | _ => true) = true → wpOp P ops Q i (wpAny P .any ops Q fuel (listed.setIfInBounds i true)) a w := by
        intro hfree hk
        unfold stepG at hv
        split at hv
        · rename_i hg
          exact plain hfree hk (by simp [Region.wanted, hg]) hv
        · rename_i j want hg
          split at hv
          · cases hv
          · rename_i d hd'
            split at hv
            · rename_i b hb
              have hy := (yielded_of hS hd').1 b hb
              cases hbw : (b == want) with
              | true => rw [hbw] at hv; exact plain hfree hk (by simp [Region.wanted, hg, hy]; simpa using hbw) hv
              | false => rw [hbw] at hv; exact skip hfree (by simp [Region.wanted, hg, hy]; simpa using hbw) (Option.some.inj hv).symm
            · rename_i vs hb
              exact skip hfree (by simp [Region.wanted, hg, (yielded_of hS hd').2 vs hb]) (Option.some.inj hv).symm
            · cases hv
      have free_of : (gs.all fun (g : Nat × Tmp × TypeId) => !(o'.dst == some g.2.1) && !(g.1 == i)) = true → ∀ g ∈ gs, g.1 ≠ i ∧ o'.dst ≠ some g.2.1 := by
        intro hall g hg
        have := List.all_eq_true.1 hall g hg
        simp only [Bool.and_eq_true, Bool.not_eq_true', beq_eq_false_iff_ne, ne_eq] at this
        exact ⟨this.2, this.1⟩
      obtain ⟨dst, op, ty, pos, after, gd⟩ := o'
      cases op with
      | alloc t =>
        simp only [ghostOp, Bool.and_eq_true, Option.isNone_iff_eq_none, List.any_eq_true, beq_iff_eq] at hop
        obtain ⟨rfl, -, g, hg, rfl, rfl, rfl, hz⟩ := hop
        obtain ⟨j, hj⟩ := List.getElem?_of_mem hg
        have hnd : ((gs.map (·.2.1)).Nodup ∧ (gs.map (·.1)).Nodup) := by
          unfold ghostB at hB
          rw [Bool.and_eq_true] at hB
          exact of_decide_eq_true hB.2
        have same : ∀ {k : Nat} {g' : Nat × Tmp × TypeId}, gs[k]? = some g' → (g'.1 = g.1 ∨ g'.2.1 = g.2.1) → k = j := by
          intro k g' hk' he
          rcases he with he | he
          · exact (List.getElem?_inj (by simpa using (List.getElem?_eq_some_iff.1 hk').1) hnd.2).1 (by rw [List.getElem?_map, List.getElem?_map, hk', hj]; exact congrArg some he)
          · exact (List.getElem?_inj (by simpa using (List.getElem?_eq_some_iff.1 hk').1) hnd.1).1 (by rw [List.getElem?_map, List.getElem?_map, hk', hj]; exact congrArg some he)
        have hv' : (AV.c .any, C) = (v, C1) := Option.some.inj hv
        cases hv'
        cases hzz : zerosOf P g.2.2 with
        | none => rw [hzz] at hz; cases hz
        | some zs =>
        have hz' : ∃ i' z, P.info? g.2.2 = some i' ∧ i'.zero = some z ∧ zs = z.cells.toList.map toC := by
          unfold zerosOf at hzz
          cases hi' : P.info? g.2.2 with
          | none => rw [hi'] at hzz; cases hzz
          | some i' =>
            rw [hi'] at hzz
            cases hz0 : i'.zero with
            | none => simp [hz0] at hzz
            | some z => simp [hz0] at hzz; exact ⟨i', z, rfl, hz0, hzz.symm⟩
        obtain ⟨i', z, hi', hz0, rfl⟩ := hz'
        unfold wpOp
        simp only [ho]
        rw [if_pos (by simp [Region.wanted])]
        refine .inl ?_
        unfold Oper.wp
        have hrun : (execOp a.eval ⟨some g.2.1, .alloc g.2.2, ty, pos, after, none⟩).run P w = .ok (.value (.pointer (some ⟨w.heap.size, 0, none⟩))) (w.alloc (.cells z.cells g.2.2)) := by
          simp [execOp, Instr.alloc, zeroValue, typeInfo, hi', hz0, newVar, newRow]
        rw [hrun]
        have hat : a.tmps.size = len := by
          have := hS.frame.length
          simp at this
          omega
        refine anyG_sound hB hd hQ fuel _ _ _ (fun k => if k = j then w.heap.size else β k) _ _ (hput _) hK (hS.put (some g.2.1) (x := .c .any) trivial (Ext.alloc _ _)) ?_
        have hget : ∀ {k : Nat} {g' : Nat × Tmp × TypeId}, gs[k]? = some g' → k ≠ j → (listed.setIfInBounds g.1 true).getD g'.1 true = listed.getD g'.1 true := fun hk' hne => getD_set_ne true (fun he => hne (same hk' (.inl he.symm)))
        have self : ∀ {k : Nat} {g' : Nat × Tmp × TypeId}, gs[k]? = some g' → k = j → g' = g := by
          intro k g' hk' e
          subst e
          rw [hj] at hk'
          exact (Option.some.inj hk').symm
        refine ⟨fun k g' hk' hl => ?_, fun k g' hk' hl => ?_, fun k g' k' g'' hk' hk'' hl hl' hne => ?_⟩
        · have hne : k ≠ j := fun e => by
            have := self hk' e
            subst this
            rw [getD_set_self] at hl; cases hl
          rw [hget hk' hne] at hl
          exact hG.idle k g' hk' hl
        · by_cases e : k = j
          · have := self hk' e
            subst this
            rw [if_pos e]
            refine ⟨?_, ⟨z.cells, g'.2.2, z.cells.toList.map toC, heap_alloc_new w _, ?_, rep_map_toC σ _⟩, ?_, hS.ext.size⟩
            · simp [Act.put, hat, hd g' hg]
            · rw [e, ← hzz]; exact hG.idle j g' hj (by simpa using hun)
            · intro b hb he
              obtain ⟨q, hq⟩ := List.getElem?_of_mem hb
              have := hS.mem.lt hq
              omega
          · rw [hget hk' e] at hl
            rw [if_neg e]
            obtain ⟨h1, ⟨vs, e', cs, h2, h3, h4⟩, h5, h6⟩ := hG.live k g' hk' hl
            refine ⟨by rw [tmps_put (fun he => e (same hk' (.inr (Option.some.inj he).symm)))]; exact h1, ⟨vs, e', cs, ?_, h3, h4⟩, h5, h6⟩
            rw [heap_alloc_old w _ (Array.getElem?_eq_some_iff.1 h2).1]; exact h2
        · have lt : ∀ {k : Nat} {g' : Nat × Tmp × TypeId}, gs[k]? = some g' → k ≠ j → (listed.setIfInBounds g.1 true).getD g'.1 true = true → β k < w.heap.size := by
            intro k g' hk' hne hl
            rw [hget hk' hne] at hl
            obtain ⟨-, ⟨vs, e', cs, h2, -⟩, -⟩ := hG.live k g' hk' hl
            exact (Array.getElem?_eq_some_iff.1 h2).1
          show (if k = j then w.heap.size else β k) ≠ (if k' = j then w.heap.size else β k')
          by_cases e : k = j
          · by_cases e' : k' = j
            · omega
            · rw [if_pos e, if_neg e']
              have := lt hk'' e' hl'
              omega
          · by_cases e' : k' = j
            · rw [if_neg e, if_pos e']
              have := lt hk' e hl
              omega
            · rw [if_neg e, if_neg e']
              rw [hget hk' e] at hl
              rw [hget hk'' e'] at hl'
              exact hG.apart k g' k' g'' hk' hk'' hl hl' hne
      | store t x y =>
        simp only [ghostOp, Bool.and_eq_true, Option.isNone_iff_eq_none] at hop
        obtain ⟨rfl, rfl, hfree, hop⟩ := hop
        have hfree' : ∀ g ∈ gs, g.1 ≠ i ∧ (none : Option Tmp) ≠ some g.2.1 := fun g hg => ⟨by simpa using List.all_eq_true.1 hfree g hg, by simp⟩
        split at hop
        · rename_i j hix
          split at hop
          · rename_i g hg
            obtain ⟨e, he, hb⟩ := Array.any_eq_true'.1 hop
            simp only [Bool.and_eq_true, beq_iff_eq] at hb
            obtain ⟨hb1, hb2⟩ := hb
            have hl := getD_true (hall e he hb1)
            rw [hb2] at hl
            obtain ⟨h1, ⟨vs, e1, cs, h2, h3, h4⟩, h5, h6⟩ := hG.live j g hg hl
            have hx : x = .tmp g.2.1 := by
              unfold ghostIx at hix
              split at hix
              · rename_i d
                obtain ⟨hlt, hp, -⟩ := List.findIdx?_eq_some_iff_getElem.1 hix
                have hgj := List.getElem?_eq_some_iff.1 hg
                simp only [List.getElem_map, beq_iff_eq] at hp
                rw [← hp, hgj.2]
              · cases hix
            subst hx
            have hev : a.eval (.tmp g.2.1) = .pointer (some ⟨β j, 0, none⟩) := by
              simp only [Act.eval, Array.getD_eq_getD_getElem?, h1, Option.getD_some]
            have hv2 : valG P E M0 (gs.map (·.2.1)) F C (.store t (.tmp g.2.1) y) = some (v, C1) := hv
            simp only [valG, hix] at hv2
            cases hl' : cellsOk (evA F y) with
            | none => simp [hl'] at hv2
            | some l =>
            cases hi' : P.info? t with
            | none => simp [hl', hi'] at hv2
            | some it =>
            simp only [hl', hi', h3] at hv2
            split at hv2
            · rename_i hc
              cases hv2
              obtain ⟨hl1, hl2⟩ := cellsOk_sound hl' (rep_ev hS.frame y)
              have e0 : l.length = (a.eval y).cells.toList.length := hl1.length
              have e3 : (a.eval y).cells.toList.length = (a.eval y).cells.size := by simp
              have e4 : cs.length = vs.size := by simpa using h4.length
              have hst := run_storeCells_at (P := P) (β j) 0 e1 (a.eval y).cells.toList 0 vs w h2 (by omega) hl2
              simp only [Nat.add_zero] at hst
              have hrow : (vs.toList.take 0 ++ (a.eval y).cells.toList ++ vs.toList.drop (0 + (a.eval y).cells.toList.length)).toArray = (a.eval y).cells := by
                rw [List.take_zero, List.nil_append, List.drop_of_length_le (by simp; omega), List.append_nil]
              rw [hrow] at hst
              have hrun : (storeVar t ⟨β j, 0, none⟩ (a.eval y)).run P w = .ok () (w.setRow (β j) (a.eval y).cells) := by
                have : ¬ (a.eval y).cells.size ≠ it.size := by omega
                simp only [storeVar, sizeOf, typeInfo, Sem.run_bind, run_program, hi', Sem.run_pure, Result.andThen_ok]
                rw [if_neg this]
                simpa using hst
              unfold wpOp
              simp only [ho]
              rw [if_pos (by simp [Region.wanted])]
              refine .inl ?_
              unfold Oper.wp
              have : (execOp a.eval ⟨none, .store t (.tmp g.2.1) y, ty, pos, after, none⟩).run P w = .ok .skip (w.setRow (β j) (a.eval y).cells) := by
                simp only [execOp, hev, Instr.storeAt, Instr.sureAddr, Sem.run_bind, Sem.run_pure, Result.andThen_ok, hrun]
              rw [this]
              have other : ∀ {k : Nat}, k ≠ β j → (w.setRow (β j) (a.eval y).cells).heap[k]? = w.heap[k]? := by
                intro k hne
                simp only [World.setRow, Array.getElem?_modify]
                rw [if_neg (Ne.symm hne)]
              have hS' : St σ n0 w0 F M0 a (w.setRow (β j) (a.eval y).cells) := by
                refine ⟨hS.defers, hS.frame, ⟨hS.mem.len, hS.mem.nodup, fun id b cs' hb' hc' => ?_⟩, hS.ext.setRow h6 _, hS.own, hS.pre⟩
                obtain ⟨vs', e', hw', hr'⟩ := hS.mem.at_ id b cs' hb' hc'
                exact ⟨vs', e', by rw [other (h5 b (List.mem_of_getElem? hb'))]; exact hw', hr'⟩
              refine anyG_sound hB hd hQ fuel _ _ _ β _ _ (hput _) hK hS' ?_
              have hget : ∀ {k : Nat} {g' : Nat × Tmp × TypeId}, gs[k]? = some g' → (listed.setIfInBounds i true).getD g'.1 true = listed.getD g'.1 true := fun hk' => getD_set_ne true (Ne.symm (hfree' _ (List.mem_of_getElem? hk')).1)
              refine ⟨fun k g' hk' hl0 => ?_, fun k g' hk' hl0 => ?_, fun k g' k' g'' hk' hk'' hl0 hl0' => ?_⟩
              · rw [hget hk'] at hl0
                have hne : j ≠ k := fun e => by
                  subst e
                  rw [hg] at hk'
                  cases hk'
                  rw [hl] at hl0; cases hl0
                rw [List.getElem?_set_ne hne]
                exact hG.idle k g' hk' hl0
              · rw [hget hk'] at hl0
                by_cases e : j = k
                · subst e
                  rw [hg] at hk'
                  cases hk'
                  refine ⟨h1, ⟨(a.eval y).cells, e1, l, setRow_heap w (β j) vs _ e1 (0, 0) h2, ?_, hl1⟩, h5, h6⟩
                  exact List.getElem?_set_self (List.getElem?_eq_some_iff.1 h3).1
                · obtain ⟨q1, ⟨vs', e', cs', q2, q3, q4⟩, q5, q6⟩ := hG.live k g' hk' hl0
                  refine ⟨q1, ⟨vs', e', cs', ?_, by rw [List.getElem?_set_ne e]; exact q3, q4⟩, q5, q6⟩
                  rw [other (Ne.symm (hG.apart j g k g' hg hk' hl hl0 e))]; exact q2
              · rw [hget hk'] at hl0; rw [hget hk''] at hl0'
                exact hG.apart k g' k' g'' hk' hk'' hl0 hl0'
            · cases hv2
          · cases hop
        · cases hop
      | box => cases hop
      | buildSlice => cases hop
      | _ => exact guarded (free_of hop) rfl

/-- The slots of the variables that a region made. -/
def placeG (n : Nat) : Nat → List (Nat × Tmp × TypeId) → List AV → List AV
  | _, [], F => F
  | j, g :: gs, F => placeG n (j + 1) gs (F.set g.2.1 (.c (.ptr (n + j) 0)))
theorem RepF.set_same {σ : List (Nat × Nat)} {F : List AV} {vs : List Value} (h : RepF σ F vs) {i : Nat} {x : AV} {v : Value} (hv : vs[i]? = some v) (hx : Rep σ x v) : RepF σ (F.set i x) vs := by
  have := h.set i hx
  have e : vs.set i v = vs := by
    apply List.ext_getElem?
    intro k
    by_cases hk : i = k
    · subst hk; rw [List.getElem?_set_self (List.getElem?_eq_some_iff.1 hv).1, hv]
    · rw [List.getElem?_set_ne hk]
  rwa [e] at this
theorem placeG_rep {σ : List (Nat × Nat)} {β : Nat → Nat} {n m : Nat} {vs : List Value} (hn : σ.length = n) : ∀ (gs : List (Nat × Tmp × TypeId)) (j : Nat) (F : List AV), j + gs.length ≤ m → (∀ (k : Nat) (g : Nat × Tmp × TypeId), gs[k]? = some g → vs[g.2.1]? = some (Value.pointer (some ⟨β (j + k), 0, none⟩))) →
    RepF (σ ++ (List.range m).map fun k => (β k, 0)) F vs → RepF (σ ++ (List.range m).map fun k => (β k, 0)) (placeG n j gs F) vs
  | [], _, _, _, _, h => h
  | g :: gs, j, F, hm, hg, h => by
    simp only [placeG]
    simp only [List.length_cons] at hm
    refine placeG_rep hn gs (j + 1) _ (by omega) (fun k g' hk => ?_) (h.set_same (hg 0 g rfl) ?_)
    · have := hg (k + 1) g' hk
      rwa [show j + 1 + k = j + (k + 1) by omega]
    · refine ⟨(β j, 0), ?_, rfl⟩
      rw [List.getElem?_append_right (by omega), hn, Nat.add_sub_cancel_left, List.getElem?_map, List.getElem?_range (by omega)]
      rfl
/-- All have been made: the state with them. -/
theorem ghosts_st {P : Program} {gs : List (Nat × Tmp × TypeId)} {β : Nat → Nat} {listed : Array Bool} {σ : List (Nat × Nat)} {n0 : Nat} {w0 : Base} {F : List AV} {M0 C : List (List AC)} {a : Act} {w : World} (hS : St σ n0 w0 F M0 a w) (hG : GhostOk P gs β listed σ w0 C a w)
    (hall : ∀ g ∈ gs, listed.getD g.1 true = true) (hC : C.length = gs.length) : St (σ ++ (List.range gs.length).map fun k => (β k, 0)) n0 w0 (placeG M0.length 0 gs F) (M0 ++ C) a w := by
  have liv : ∀ {j : Nat}, j < gs.length → ∃ g, gs[j]? = some g ∧ listed.getD g.1 true = true := fun hj => ⟨_, List.getElem?_eq_getElem hj, hall _ (List.getElem_mem hj)⟩
  refine ⟨hS.defers, ?_, ⟨by simp [hS.mem.len, hC], ?_, ?_⟩, hS.ext, ?_, hS.pre.trans (List.prefix_append _ _)⟩
  · refine placeG_rep (β := β) hS.mem.len gs 0 F (by omega) (fun k g hk => ?_) (hS.frame.mono _)
    have := (hG.live k g hk (hall g (List.mem_of_getElem? hk))).1
    rw [Nat.zero_add]
    simpa using this
  · rw [List.map_append, List.nodup_append]
    refine ⟨hS.mem.nodup, ?_, ?_⟩
    · rw [List.map_map]
      rw [List.nodup_iff_pairwise_ne, List.pairwise_map]
      refine List.Pairwise.imp_of_mem ?_ (List.pairwise_lt_range (n := gs.length))
      intro x y hx hy hlt he
      obtain ⟨g, hg, hl⟩ := liv (List.mem_range.1 hx)
      obtain ⟨g', hg', hl'⟩ := liv (List.mem_range.1 hy)
      exact hG.apart x g y g' hg hg' hl hl' (by omega) he
    · intro x hx y hy he
      subst he
      obtain ⟨b, hb, rfl⟩ := List.mem_map.1 hx
      simp only [List.map_map, List.mem_map, List.mem_range] at hy
      obtain ⟨k, hk, hy⟩ := hy
      obtain ⟨g, hg, hl⟩ := liv hk
      exact (hG.live k g hg hl).2.2.1 b hb hy.symm
  · intro id b cs hb hcs
    by_cases hi : id < σ.length
    · rw [List.getElem?_append_left hi] at hb
      rw [List.getElem?_append_left (by rw [← hS.mem.len]; exact hi)] at hcs
      obtain ⟨vs, e, hw, hr, hs⟩ := hS.mem.at_ id b cs hb hcs
      exact ⟨vs, e, hw, hr.mono _, hs⟩
    · rw [List.getElem?_append_right (by omega), List.getElem?_map] at hb
      rw [List.getElem?_append_right (by rw [← hS.mem.len]; omega), ← hS.mem.len] at hcs
      cases hr : (List.range gs.length)[id - σ.length]? with
      | none => rw [hr] at hb; cases hb
      | some k =>
        rw [hr] at hb
        cases hb
        obtain ⟨hk, hk2⟩ := List.getElem?_eq_some_iff.1 hr
        rw [List.getElem_range] at hk2
        rw [List.length_range] at hk
        rw [hk2] at hcs hk
        obtain ⟨g, hg, hl⟩ := liv hk
        obtain ⟨-, ⟨vs, e, cs', h2, h3, h4⟩, -⟩ := hG.live k g hg hl
        rw [hcs] at h3
        cases h3
        exact ⟨vs, e, h2, .of (h4.mono _), Nat.zero_le _⟩
  · intro id b hid hb
    by_cases hi : id < σ.length
    · rw [List.getElem?_append_left hi] at hb
      exact hS.own id b hid hb
    · rw [List.getElem?_append_right (by omega), List.getElem?_map] at hb
      cases hr : (List.range gs.length)[id - σ.length]? with
      | none => rw [hr] at hb; cases hb
      | some k =>
        rw [hr] at hb
        cases hb
        obtain ⟨hk, hk2⟩ := List.getElem?_eq_some_iff.1 hr
        rw [List.getElem_range] at hk2
        rw [List.length_range] at hk
        rw [hk2] at hk
        obtain ⟨g, hg, hl⟩ := liv hk
        exact (hG.live k g hg hl).2.2.2

/-- What is asked of a region that draws its order and makes variables. -/
def ghostsB (P : Program) (ops : Array Oper) : Bool :=
  P.follows .mixedOrders && (ghostB P (allocsFrom 0 ops.toList) ops && (((allocsFrom 0 ops.toList).all fun (g : Nat × Tmp × TypeId) => match ops[g.1]? with | some o => o.after.isEmpty | none => false) && (Region.lexB .any ops && memLexBG .any ops)))
/-- An operation, what is asked of it handed on. -/
def stG {R : Type} (P : Program) (E : List (Entry P)) (M0 : List (List AC)) (gl : List Tmp) (op : Op) (dst : Option Tmp) (F : List AV) (C : List (List AC)) (K : List AV → List (List AC) → Option R) : Option R :=
  match op with
  | .alloc t => match valG P E M0 gl F C (.alloc t) with
    | some (v, C') => K (putA F dst v) C'
    | none => none
  | .store t x y => match valG P E M0 gl F C (.store t x y) with
    | some (v, C') => K (putA F dst v) C'
    | none => none
  | .box .. | .buildSlice .. => none
  | op => stA P E 0 op dst F M0 fun F' _ => K F' C
theorem stG_valG {R : Type} {P : Program} {E : List (Entry P)} {M0 : List (List AC)} {gl : List Tmp} {op : Op} {dst : Option Tmp} {F : List AV} {C : List (List AC)} {K : List AV → List (List AC) → Option R} {r : R} (h : stG P E M0 gl op dst F C K = some r) :
    ∃ v C', valG P E M0 gl F C op = some (v, C') ∧ K (putA F dst v) C' = some r := by
  cases op
  case alloc t =>
    simp only [stG] at h
    split at h
    · rename_i v C' hv; exact ⟨v, C', hv, h⟩
    · cases h
  case store t x y =>
    simp only [stG] at h
    split at h
    · rename_i v C' hv; exact ⟨v, C', hv, h⟩
    · cases h
  case box => cases h
  case buildSlice => cases h
  all_goals
    simp only [stG] at h
    obtain ⟨v, hv, hK⟩ := stA_valA (by rfl) h
    exact ⟨v, C, by simp only [valG, hv]; rfl, hK⟩
def regR {R : Type} (P : Program) (E : List (Entry P)) (M0 : List (List AC)) (gl : List Tmp) (ops : Array Oper) : List Oper → List AV → List (List AC) → (List AV → List (List AC) → Option R) → Option R
  | [], F, C, K => K F C
  | o :: rest, F, C, K =>
    match o.guard with
    | none => stG P E M0 gl o.op o.dst F C fun F C => regR P E M0 gl ops rest F C K
    | some (j, want) =>
      match (ops[j]?).bind (·.dst) with
      | none => none
      | some d =>
        match F[d]? with
        | some (.c (.sb b)) =>
          cond (b == want) (stG P E M0 gl o.op o.dst F C fun F C => regR P E M0 gl ops rest F C K) (regR P E M0 gl ops rest (putA F o.dst undefA) C K)
        | some (.c (.val (.tuple _))) => regR P E M0 gl ops rest (putA F o.dst undefA) C K
        | _ => none
theorem regR_runG {R : Type} {P : Program} {E : List (Entry P)} {M0 : List (List AC)} {gl : List Tmp} {ops : Array Oper} {K : List AV → List (List AC) → Option R} {r : R} : ∀ (l : List Oper) {F : List AV} {C : List (List AC)},
    regR P E M0 gl ops l F C K = some r → ∃ F' C', runG P E M0 gl ops l F C = some (F', C') ∧ K F' C' = some r
  | [], F, C, h => ⟨F, C, rfl, h⟩
  | o :: rest, F, C, h => by
    have go : stepG P E M0 gl ops o F C = valG P E M0 gl F C o.op → (stG P E M0 gl o.op o.dst F C fun F C => regR P E M0 gl ops rest F C K) = some r → ∃ F' C', runG P E M0 gl ops (o :: rest) F C = some (F', C') ∧ K F' C' = some r := by
      intro hs h1
      obtain ⟨v, C1, hv, hK⟩ := stG_valG h1
      obtain ⟨F', C', h2, h3⟩ := regR_runG rest hK
      exact ⟨F', C', by simp only [runG, hs, hv]; exact h2, h3⟩
    have skip : stepG P E M0 gl ops o F C = some (undefA, C) → regR P E M0 gl ops rest (putA F o.dst undefA) C K = some r → ∃ F' C', runG P E M0 gl ops (o :: rest) F C = some (F', C') ∧ K F' C' = some r := by
      intro hs h1
      obtain ⟨F', C', h2, h3⟩ := regR_runG rest h1
      exact ⟨F', C', by simp only [runG, hs]; exact h2, h3⟩
    simp only [regR] at h
    split at h
    · rename_i hg
      exact go (by unfold stepG; rw [hg]) h
    · rename_i j want hg
      split at h
      · cases h
      · rename_i d hd
        split at h
        · rename_i b hb
          cases hbw : (b == want) with
          | true => rw [hbw] at h; exact go (by unfold stepG; simp only [hg, hd, hb, hbw]; rfl) h
          | false => rw [hbw] at h; exact skip (by unfold stepG; simp only [hg, hd, hb, hbw]; rfl) h
        · rename_i vs hb
          exact skip (by unfold stepG; simp only [hg, hd, hb]) h
        · cases h
def regG {R : Type} (P : Program) (E : List (Entry P)) (ops : Array Oper) (F : List AV) (M : List (List AC)) (K : List AV → List (List AC) → Option R) : Option R :=
  match (allocsFrom 0 ops.toList).mapM fun g => zerosOf P g.2.2 with
  | some C0 => regR P E M ((allocsFrom 0 ops.toList).map (·.2.1)) ops ops.toList F C0 fun F' C' =>
      cond ((allocsFrom 0 ops.toList).all (fun g => decide (g.2.1 < F.length)) && decide (C'.length = (allocsFrom 0 ops.toList).length)) (K (placeG M.length 0 (allocsFrom 0 ops.toList) F') (M ++ C')) none
  | none => none
theorem mapM_get {α β : Type} {f : α → Option β} : ∀ (l : List α) (r : List β), l.mapM f = some r → ∀ (j : Nat) (x : α), l[j]? = some x → r[j]? = f x
  | [], r, h, j, x, hx => by cases hx
  | y :: l, r, h, j, x, hx => by
    rw [List.mapM_cons] at h
    cases h1 : f y with
    | none => rw [h1] at h; cases h
    | some u =>
      rw [h1] at h
      cases h2 : l.mapM f with
      | none => rw [h2] at h; cases h
      | some r' =>
        rw [h2] at h
        cases h
        cases j with
        | zero => cases hx; rw [h1]; rfl
        | succ j => exact mapM_get l r' h2 j x hx
theorem regG_sound {R : Type} {P : Program} {E : List (Entry P)} {n0 : Nat} {id : Nat} {ops : Array Oper} {K : List AV → List (List AC) → Option R} {r : R} {F : List AV} {M : List (List AC)} (hB : ghostsB P ops = true) (h : regG P E ops F M K = some r) :
    ∃ F' M', K F' M' = some r ∧ ∀ w0 : Base, CodeGoes P n0 w0 (.region id ops true) F M .norm F' M' := by
  unfold ghostsB at hB
  simp only [Bool.and_eq_true] at hB
  obtain ⟨hm, hB, hA, hL, hC⟩ := hB
  unfold regG at h
  generalize allocsFrom 0 ops.toList = gs at *
  split at h
  · rename_i C0 hC0
    · obtain ⟨F', C', hrun, h⟩ := regR_runG ops.toList h
      cases hq : (gs.all (fun g => decide (g.2.1 < F.length)) && decide (C'.length = gs.length)) with
      | false => rw [hq] at h; cases h
      | true =>
        rw [hq] at h
        simp only [Bool.and_eq_true, decide_eq_true_eq] at hq
        obtain ⟨hd, hlen⟩ := hq
        refine ⟨_, _, h, fun w0 σ a w hS Q hQ => wp_region_any hm ?_⟩
        simp only [Region.lexB, Bool.and_eq_true] at hL
        have hany := anyG_lex (md := .any) ops.toList 0 (Array.replicate ops.size false) F C0 (by simp) (by simpa using hL.2) (by simpa [memLexBG] using hC) hrun
        have hidx : ∀ g ∈ gs, ∃ o, ops[g.1]? = some o ∧ o.after = #[] := by
          intro g hg
          have := List.all_eq_true.1 hA g hg
          split at this
          · rename_i o ho
            exact ⟨o, ho, by simpa using this⟩
          · cases this
        have hinit : ∀ g ∈ gs, (Array.replicate ops.size false).getD g.1 true = false := by
          intro g hg
          obtain ⟨o, ho, -⟩ := hidx g hg
          have := (Array.getElem?_eq_some_iff.1 ho).1
          simp [this]
        refine anyG_sound (len := F.length) hB (fun g hg => by simpa using List.all_eq_true.1 hd g hg) (fun β listed a' w' hr hS' hG => hQ _ a' w' (ghosts_st hS' hG (fun g hg => ?_) hlen)) ops.size _ F C0 (fun _ => 0) a _ rfl (by simpa using hany) hS.drew ⟨fun j g hj _ => mapM_get gs C0 hC0 j g hj, fun j g hj hl => ?_, fun j g j' g' hj hj' hl _ => ?_⟩
        · obtain ⟨o, ho, ha⟩ := hidx g hg
          cases hl : listed.getD g.1 true with
          | true => rfl
          | false =>
            have : g.1 ∈ Region.ready .any ops listed := mem_ready.2 ⟨hl, o, ho, fun e he => by rw [ha] at he; simp at he⟩
            rw [hr] at this
            cases this
        · rw [hinit g (List.mem_of_getElem? hj)] at hl; cases hl
        · rw [hinit g (List.mem_of_getElem? hj)] at hl; cases hl
  · cases h
end Go.Proofs.Ytlpahmefebgdlaa.Fx
