/- The law FnRests: its run. No condition. -/
import Derived.Test.YtlpahmefebgdlaaEm
import Derived.Test.YtlpahmefebgdlaaWa
import Derived.Test.YtlpahmefebgdlaaCq
namespace Go.Proofs.Ytlpahmefebgdlaa.Fx
open Go Go.RowKit

def Yes : Option AV := some (.c (.sb true))
def Nay : Option AV := some (.c (.sb false))
def i32 (n : Int) : F32 := lit .f32 (floatOfInt .f32 n)
def inc (n : Int) : Int := IntKind.i64.wrap (1 + n)
def milli : F64 := c64 4562254508917369340

-- points, by their cells
def pCells (sh : F32) : List AC := [.cx .f32 (rsX sh (loA sh) (hiA sh)) (c32 0), .cx .f32 (rsX sh (loB sh) hiB) (c32 0), .cx .f32 (rsX sh loC (hiC sh)) (c32 0), .cx .f32 (pX sh) pY, .cx .f32 (pX sh) pZ]
def pOk (sh : F32) : Bool := isShare sh && (rsB sh (loA sh) (hiA sh) && (rsB sh (loB sh) hiB && rsB sh loC (hiC sh)))
theorem ePoints_raw (sh : F32) : runSl Try.prog [eIsShare, eRest] [] Try.f11 [.c (.fl .f32 sh)] = kIr (isShare sh) (rsCond sh (loA sh) (hiA sh)) (rsCond sh (loB sh) hiB) (rsCond sh loC (hiC sh)) (rsB sh (loA sh) (hiA sh)) (rsB sh (loB sh) hiB) (rsB sh loC (hiC sh)) Nn (some (true, pCells sh)) := by kernel_rfl
theorem ePoints_run (sh : F32) : runSl Try.prog [eIsShare, eRest] [] Try.f11 [.c (.fl .f32 sh)] = bif pOk sh then some (true, pCells sh) else Nn := by
  rw [ePoints_raw]
  cases hs : isShare sh with
  | false => unfold pOk; rw [hs]; rfl
  | true =>
    obtain ⟨c1, c2, c3, _, _, _, _, _, _, _, _, _, _⟩ := gFacts sh hs
    rw [c1, c2, c3]
    unfold pOk kIr
    rw [hs]
    cases rsB sh (loA sh) (hiA sh) <;> cases rsB sh (loB sh) hiB <;> cases rsB sh loC (hiC sh) <;> rfl
def pFn : List AV → Option (Bool × Bool × List AC)
  | [.c (.fl .f32 sh)] => some (true, pOk sh, pCells sh)
  | _ => none
theorem points_ok : ∀ args b cells, pFn args = some (true, b, cells) → ∀ vs w, RepF [] args vs → args.all plainA = true → Calls Try.prog 11 vs.toArray w fun e w' => Ext w w' ∧
    (match b with
    | true => ∃ (blk cap : Nat) (us : Array Value) (t : TypeId), e = .returned (.tuple #[.slice (some ⟨blk, 0, none⟩) cells.length cap, .bool true]) ∧ w.heap.size ≤ blk ∧ w'.heap[blk]? = some (.cells us t (0, 0)) ∧ RepP [] cells us.toList ∧ cap ≤ us.size ∧ cells.length ≤ cap
    | false => e = .returned (.tuple #[.slice none 0 0, .bool false])) := by
  intro args b cells h vs w ha hpl
  clear hpl
  unfold pFn at h
  split at h
  · rename_i sh
    have hq := ePoints_run sh
    simp only [Option.some.injEq, Prod.mk.injEq, true_and] at h
    obtain ⟨rfl, rfl⟩ := h
    cases hb : pOk sh with
    | true =>
      rw [hb] at hq
      exact (runSl_sound Try.func11 hq ha).mono fun e w' ⟨h1, h2⟩ => ⟨h1, h2⟩
    | false =>
      rw [hb] at hq
      exact (runSl_sound Try.func11 hq ha).mono fun e w' ⟨h1, h2⟩ => ⟨h1, h2⟩
  · cases h
def ePointsN : EntryN Try.prog := { f := 11, fn := pFn, enter := fun _ _ => enter_of Try.func11 (by kernel_rfl) (c := Try.f11.body.getD .skip) (by kernel_rfl), ok := points_ok }

def gapM (a b : F64) : F64 := fmax (a - b) (b - a)
def eGapR : Entry Try.prog := { f := 17, fn := shDD fun a b => rD (gapM a b), ok := okDD (E := []) Try.func17 (by kernel_rfl) fun a b _ => by kernel_rfl }

-- the parts
def puvX (s x y : F32) : F32 := bif puOk s x y (c32 0) (c32 0) then tcX (puX s x y (c32 0)) (puY s x y (c32 0)) else c32 0
def puvY (s x y : F32) : F32 := bif puOk s x y (c32 0) (c32 0) then tcY (puX s x y (c32 0)) (puY s x y (c32 0)) else c32 0
def puvB (s x y : F32) : Bool := puOk s x y (c32 0) (c32 0) && cfin (puX s x y (c32 0)) (puY s x y (c32 0))
def coQ (s x y u v : F32) : Bool := !(coOk s x y u v) || (potFit s x y && fits (powerW u v))
def coV (s x y u v : F32) : F32 := bif coOk s x y u v then giveV (coW s x y u v) else c32 0
def coB (s x y u v : F32) : Bool := bif coOk s x y u v then giveB (coW s x y u v) else false
/-- A round of the first loop. -/
def rp1 {α : Type} (nay : Option α) (s x y g : F32) (rest : Option α) : Option α :=
  bif saFit s x y then bif coQ s x y (c32 0) (c32 0) then (bif !(puvB s x y) then nay else bif !(coB s x y (c32 0) (c32 0)) then nay else
    bif fits (longF (puvX s x y) (puvY s x y)) then (bif gt (long (puvX s x y) (puvY s x y)) (c32 1008981770) then nay else bif ne (coV s x y (c32 0) (c32 0)) g then nay else rest) else none) else none else none
/-- A round of the second loop. -/
def rp2 {α : Type} (nay : Option α) (s x y gr sm : F32) (rest : Option α) : Option α :=
  bif fits (longF (x - gr) (y - c32 0)) then bif gt (gapM (widen (long (x - gr) (y - c32 0))) one) milli then nay else
  bif fits (longF (x - sm) (y - c32 0)) then bif gt (gapM (widen (long (x - sm) (y - c32 0))) one) milli then nay else
  bif swFit s x y then (bif stdB s x y != eq s (c32 1023410176) then nay else rest) else none else none else none
def centi32 : F32 := c32 1008981770
/-- The order of points and gates. -/
def rp3 {α : Type} (nay : Option α) (s : F32) (x0 x1 x2 g0 g1 g2 g3 gr sm : F32) (rest : Option α) : Option α :=
  bif !(lt x2 gr) then nay else bif !(lt gr x0) then nay else bif !(lt x0 sm) then nay else bif !(lt sm x1) then nay else
  bif lt g0 (g1 - centi32) then nay else bif lt g1 (g2 - centi32) then nay else bif lt (widen g2) (widen g3 - c64 4576918229304087675) then nay else
  bif swFit s x0 (c32 0) then (bif stdB s x0 (c32 0) then nay else rest) else none
def paQ (s x y : F32) : Bool := !(isPt s x y) || potFit s x y
def spQ (s x y c : F32) : Bool := !(spOk s x y c) || spFit s x y c
def spV1 (s x y c : F32) : F32 := bif spOk s x y c then (bif lt (spW s x y c) (c32 0) then c32 0 else toldV (spV s x y c)) else c32 0
def spB1 (s x y c : F32) : Bool := bif spOk s x y c then (bif lt (spW s x y c) (c32 0) then false else toldB (spV s x y c)) else false
/-- What is mirrored, and the constant's speed. -/
def rp4 (s x y : F32) : Option AV :=
  bif saFit s x y then bif saFit s x (-y) then bif paQ s x y then bif paQ s x (-y) then bif saFit s x y then bif saFit s x (-y) then
    (bif !(saB s x y) then Nay else bif !(saB s x (-y)) then Nay else bif !(paB s x y) then Nay else bif !(paB s x (-y)) then Nay else bif !(beOk s x y) then Nay else bif !(beOk s x (-y)) then Nay else
    bif ne (paV s x y) (paV s x (-y)) then Nay else
    bif fits (longF (saX s x (-y) - saX s x y) (saY s x (-y) - -(saY s x y))) then bif fits (longF (saX s x y) (saY s x y)) then
      (bif gt (widen (long (saX s x (-y) - saX s x y) (saY s x (-y) - -(saY s x y)))) (milli * (one + widen (long (saX s x y) (saY s x y)))) then Nay else
      bif ne (bxx s x y) (bxx s x (-y)) then Nay else bif ne (bxy s x y) (-(bxy s x (-y))) then Nay else bif ne (byy s x y) (byy s x (-y)) then Nay else
      bif spQ s x y one32 then (bif !(spB1 s x y one32) then some (.c (.sb (lt (paV s x y) (c32 1056964608)))) else
        bif coQ s x y (spV1 s x y one32) (c32 0) then (bif coB s x y (spV1 s x y one32) (c32 0) then some (.c (.sb (lt (gapM (widen (coV s x y (spV1 s x y one32) (c32 0))) one) (milli * (one + widen (paV s x y)))))) else Nay) else none) else none)
    else none else none)
  else none else none else none else none else none else none
def rShare (a : Int) : F32 := i32 (inc a) / c32 1107296256
def rAtX (b : Int) : F32 := i32 (IntKind.i64.wrap (b - 16)) / c32 1090519040
def rAtY (c : Int) : F32 := i32 (inc c) / c32 1090519040
def p1x (s : F32) : F32 := rsX s (loA s) (hiA s)
def p2x (s : F32) : F32 := rsX s (loB s) hiB
def p3x (s : F32) : F32 := rsX s loC (hiC s)
/-- All that hangs on the share. -/
def rpB {α : Type} (nay : Option α) (s : F32) (rest : Option α) : Option α :=
  bif pOk s then (bif gOk s then (bif !(massC s) then nay else
  rp1 nay s (p1x s) (c32 0) (gV s (p1x s) (c32 0)) (rp1 nay s (p2x s) (c32 0) (gV s (p2x s) (c32 0)) (rp1 nay s (p3x s) (c32 0) (gV s (p3x s) (c32 0)) (rp1 nay s (pX s) pY (gV s (pX s) pY) (rp1 nay s (pX s) pZ (gV s (pX s) pZ)
    (rp2 nay s (pX s) pY (massA s) (massB s) (rp2 nay s (pX s) pZ (massA s) (massB s)
      (rp3 nay s (p1x s) (p2x s) (p3x s) (gV s (p1x s) (c32 0)) (gV s (p2x s) (c32 0)) (gV s (p3x s) (c32 0)) (gV s (pX s) pY) (massA s) (massB s) rest)))))))) else nay) else (bif gOk s then nay else nay)
def restM : List Bool := [false, true, false, false, false, true] ++ List.replicate 368 false
def restFr (m : Value) (s : F32) : List AV := [.c .any, .c (.val m), .c .any, .c .any, .c .any, .c (.fl .f32 s)] ++ List.replicate 368 (.c .any)
theorem rests_head (W : World) (c m : Value) (T : List AV → Option AV) : runHead Try.prog [eMasses, ePush, eConst, eLong, eGapR, eApart, eSteady] [] [ePointsN, eGatesN] [wR8Long W, wR8At W] noRule [21] 23 restM Try.f3 [.c (.val c), .c (.val m)] T =
    bif good W c && good W m then bif longV 48 (bytesOf W c) (bytesOf W m) then Yes else
    bif good W c then rpB Nay (rShare (r8v (bytesOf W c) 0 16)) (T (restFr m (rShare (r8v (bytesOf W c) 0 16)))) else none else none := by kernel_rfl
end Go.Proofs.Ytlpahmefebgdlaa.Fx
