/- Contracts: sines, exponentials, angles, roundings, conversions. No condition. -/
import Derived.Test.YtlpahmefebgdlaaCa
namespace Go.Proofs.Ytlpahmefebgdlaa.Fx
open Go Go.RowKit

def half : F64 := c64 4602678819172646912
def quarter : F64 := c64 4598175219545276416
def one : F64 := c64 4607182418800017408
def two : F64 := c64 4611686018427387904
def full : F64 := c64 4618760256179416344
def pi : F64 := c64 4614256656552045848
def eight : F64 := c64 4620693217682128896
def h200 : F64 := c64 4641240890982006784
def m200 : F64 := c64 13864612927836782592
def k256 : F64 := c64 4643211215818981376
def six52 : F64 := c64 4841369599423283200
def m52 : F64 := c64 14064741636278059008
def ten : F64 := c64 4621819117588971520
def mten : F64 := c64 13845191154443747328
def zero : F64 := c64 0
def ki (k : Int) : F64 := lit .f64 (floatOfInt .f64 k)

-- finite numbers
def eIsNaN : Entry Try.prog := { f := 120, fn := shD fun x => rB (ne x x), ok := okD (E := []) Try.func120 (by kernel_rfl) fun x _ => by kernel_rfl }

def isInf (x : F64) : Bool := gt (fabs x) (c64 9218868437227405311)
def shDI (g : F64 → Bool × AV) : List AV → List (List AC) → Option (Bool × AV)
  | [.c (.fl .f64 x0), .c (.val (.int .i64 0))], _ => some (g x0)
  | _, _ => none
theorem eIsInf_ok : EOk Try.prog 122 (shDI fun x => rB (isInf x)) := by
  intro args M r hr σ vs w _ ha
  unfold shDI at hr
  split at hr
  · cases hr
    rename_i x
    exact gives0 (E := [eAbs]) Try.func122 (by kernel_rfl) rfl (show run Try.prog [eAbs] Try.f122 [.c (.fl .f64 x), .c (.val (.int .i64 0))] [] = some (.c (.sb (isInf x))) by kernel_rfl) ha
  · cases hr
def eIsInf : Entry Try.prog := { f := 122, fn := shDI fun x => rB (isInf x), ok := eIsInf_ok }

def finite (x : F64) : Bool := !(ne x x) && !(isInf x)
def eFinite : Entry Try.prog := { f := 113, fn := shD fun x => rB (finite x), ok := okD (E := [eIsNaN, eIsInf]) Try.func113 (by kernel_rfl) fun x _ => by show _ = some (AV.c (.sb (finite x))); unfold finite; rw [push_and]; kernel_rfl }
def isFinite (x : F32) : Bool := finite (widen x)
def eIsFinite : Entry Try.prog := { f := 58, fn := shS fun x => rB (isFinite x), ok := okS (E := [eFinite]) Try.func58 (by kernel_rfl) fun x _ => by kernel_rfl }
def aMass (x : F32) : Bool := isFinite x && ge x (c32 0)
def eAMass : Entry Try.prog := { f := 76, fn := shS fun x => rB (aMass x), ok := okS (E := [eIsFinite]) Try.func76 (by kernel_rfl) fun x _ => by show _ = some (AV.c (.sb (aMass x))); unfold aMass; rw [push_and]; kernel_rfl }
def aLength (x : F32) : Bool := isFinite x && gt x (c32 0)
def eALength : Entry Try.prog := { f := 82, fn := shS fun x => rB (aLength x), ok := okS (E := [eIsFinite]) Try.func82 (by kernel_rfl) fun x _ => by show _ = some (AV.c (.sb (aLength x))); unfold aLength; rw [push_and]; kernel_rfl }
def isTurn (x : F32) : Bool := ge x (c32 0) && lt x (c32 1065353216)
def eIsTurn : Entry Try.prog := { f := 94, fn := shS fun x => rB (isTurn x), ok := okS (E := []) Try.func94 (by kernel_rfl) fun x _ => by show _ = some (AV.c (.sb (isTurn x))); unfold isTurn; rw [push_and]; kernel_rfl }
def sTurn : Entry Try.prog := { f := 141, fn := shS fun x => rB (isTurn x), ok := okS (E := []) Try.func141 (by kernel_rfl) fun x _ => by show _ = some (AV.c (.sb (isTurn x))); unfold isTurn; rw [push_and]; kernel_rfl }
def finS (x : F32) : Bool := eq (x - x) (c32 0)
def sFinite : Entry Try.prog := { f := 130, fn := shS fun x => rB (finS x), ok := okS (E := []) Try.func130 (by kernel_rfl) fun x _ => by kernel_rfl }
def leastS (x : F32) : Bool := finS x && ge x (c32 0)
def aboveS (x : F32) : Bool := finS x && gt x (c32 0)
def sAbove : Entry Try.prog := { f := 89, fn := shS fun x => rB (aboveS x), ok := okS (E := [sFinite]) Try.func89 (by kernel_rfl) fun x _ => by show _ = some (AV.c (.sb (aboveS x))); unfold aboveS; rw [push_and]; kernel_rfl }
def isShare (x : F32) : Bool := gt x (c32 0) && le x (c32 1056964608)
def eIsShare : Entry Try.prog := { f := 56, fn := shS fun x => rB (isShare x), ok := okS (E := []) Try.func56 (by kernel_rfl) fun x _ => by show _ = some (AV.c (.sb (isShare x))); unfold isShare; rw [push_and]; kernel_rfl }
-- numbers that are told
theorem push_sb2 (c : Bool) (a b : F32) (d e : Bool) : some (AV.tup [.fl .f32 (bif c then a else b), .sb (bif c then d else e)]) = bif c then some (.tup [.fl .f32 a, .sb d]) else some (.tup [.fl .f32 b, .sb e]) := by cases c <;> rfl
def toldV (x : F32) : F32 := bif !(isFinite x) then c32 0 else x
def toldB (x : F32) : Bool := bif !(isFinite x) then false else true
def eTold : Entry Try.prog := { f := 62, fn := shS fun x => rSB (toldV x) (toldB x), ok := okS (E := [eIsFinite]) Try.func62 (by kernel_rfl) fun x _ => by show _ = some (AV.tup [.fl .f32 (toldV x), .sb (toldB x)]); unfold toldV toldB; rw [push_sb2]; kernel_rfl }
theorem eNarrowed_run (x : F64) (hx : ((fun x : F64 => ((fits x, .tup [.fl .f32 (toldV (narrow x)), .sb (toldB (narrow x))]) : Bool × AV)) x).1 = true) : run Try.prog [eTold] Try.f77 [.c (.fl .f64 x)] [] = some ((fun x : F64 => ((fits x, .tup [.fl .f32 (toldV (narrow x)), .sb (toldB (narrow x))]) : Bool × AV)) x).2 := by
  have h : run Try.prog [eTold] Try.f77 [.c (.fl .f64 x)] [] = bif fits x then some (.tup [.fl .f32 (toldV (narrow x)), .sb (toldB (narrow x))]) else none := by kernel_rfl
  rw [h, show fits x = true from hx]; rfl
def eNarrowed : Entry Try.prog := { f := 77, fn := shD (fun x : F64 => ((fits x, .tup [.fl .f32 (toldV (narrow x)), .sb (toldB (narrow x))]) : Bool × AV)), ok := okD (E := [eTold]) Try.func77 (by kernel_rfl) fun x hx => eNarrowed_run x hx }
theorem sNarrow_run (x : F64) (hx : ((fun x : F64 => ((fits x, .c (.fl .f32 (narrow x))) : Bool × AV)) x).1 = true) : run Try.prog [] Try.f132 [.c (.fl .f64 x)] [] = some ((fun x : F64 => ((fits x, .c (.fl .f32 (narrow x))) : Bool × AV)) x).2 := by
  have h : run Try.prog [] Try.f132 [.c (.fl .f64 x)] [] = bif fits x then some (.c (.fl .f32 (narrow x))) else none := by kernel_rfl
  rw [h, show fits x = true from hx]; rfl
def sNarrow : Entry Try.prog := { f := 132, fn := shD (fun x : F64 => ((fits x, .c (.fl .f32 (narrow x))) : Bool × AV)), ok := okD (E := []) Try.func132 (by kernel_rfl) fun x hx => sNarrow_run x hx }
def giveV (x : F32) : F32 := bif !(finS x) then c32 0 else x
def giveB (x : F32) : Bool := bif !(finS x) then false else true
theorem sl03Narrow_run (x : F64) (hx : ((fun x : F64 => ((fits x, .tup [.fl .f32 (giveV (narrow x)), .sb (giveB (narrow x))]) : Bool × AV)) x).1 = true) : run Try.prog [sNarrow, sFinite] Try.f92 [.c (.fl .f64 x)] [] = some ((fun x : F64 => ((fits x, .tup [.fl .f32 (giveV (narrow x)), .sb (giveB (narrow x))]) : Bool × AV)) x).2 := by
  have h : run Try.prog [sNarrow, sFinite] Try.f92 [.c (.fl .f64 x)] [] = bif fits x then (bif !(finS (narrow x)) then some (.tup [.fl .f32 (c32 0), .sb false]) else some (.tup [.fl .f32 (narrow x), .sb true])) else none := by kernel_rfl
  rw [h, show fits x = true from hx]
  show _ = some (AV.tup [.fl .f32 (giveV (narrow x)), .sb (giveB (narrow x))])
  unfold giveV giveB
  rw [push_sb2]; rfl
def sl03Narrow : Entry Try.prog := { f := 92, fn := shD (fun x : F64 => ((fits x, .tup [.fl .f32 (giveV (narrow x)), .sb (giveB (narrow x))]) : Bool × AV)), ok := okD (E := [sNarrow, sFinite]) Try.func92 (by kernel_rfl) fun x hx => sl03Narrow_run x hx }

-- circles
def behind (x : F64) : F64 := bif lt (x - (whole .zero x + zero)) zero then x - (whole .zero x + zero) + one else x - (whole .zero x + zero)
def eBehind : Entry Try.prog := { f := 136, fn := shD fun x => rD (behind x), ok := okD (E := [eTrunc]) Try.func136 (by kernel_rfl) fun x _ => by show _ = some (AV.c (.fl .f64 (behind x))); unfold behind; rw [push_fl]; kernel_rfl }

def sineStep (u p : F64) (k : Int) : F64 := one - (u * p) / ki (2 * k * (2 * k + 1))
def sinePoly (u : F64) : F64 := [8, 7, 6, 5, 4, 3, 2, 1].foldl (sineStep u) one
def sineOut (f : F64) : F64 := (f * full) * sinePoly ((f * full) * (f * full))
def sineIn (f : F64) : F64 := bif gt f quarter then sineOut (half - f) else sineOut f
/-- The sine of turns from 0 on. -/
def sineF (f : F64) : F64 := bif ge f half then (bif gt (f - half) quarter then -(sineOut (half - (f - half))) else -(sineOut (f - half))) else (bif gt f quarter then sineOut (half - f) else sineOut f)
def sine (x : F64) : F64 := sineF (behind x)
def eSine : Entry Try.prog := { f := 134, fn := shD fun x => rD (sine x), ok := okD (E := [eBehind]) Try.func134 (by kernel_rfl) fun x _ => by show _ = some (AV.c (.fl .f64 (sine x))); unfold sine sineF; simp only [push_fl]; kernel_rfl }
def cosine (x : F64) : F64 := sine (x + quarter)
-- exponentials
def inf64 : F64 := c64 9218868437227405312
def shI1 (v : AV) : List AV → List (List AC) → Option (Bool × AV)
  | [.c (.val (.int .i64 1))], _ => some (true, v)
  | _, _ => none
theorem eInf_ok : EOk Try.prog 119 (shI1 (.c (.fl .f64 inf64))) := by
  intro args M r hr σ vs w _ ha
  unfold shI1 at hr
  split at hr
  · cases hr
    exact gives0 (E := [eFrombits]) Try.func119 (by kernel_rfl) rfl (show run Try.prog [eFrombits] Try.f119 [.c (.val (.int .i64 1))] [] = some (.c (.fl .f64 inf64)) by kernel_rfl) ha
  · cases hr
def eInf : Entry Try.prog := { f := 119, fn := shI1 (.c (.fl .f64 inf64)), ok := eInf_ok }
def expStep (t p : F64) (k : Int) : F64 := one + (t * p) / ki k
def expPoly (t : F64) : F64 := [12, 11, 10, 9, 8, 7, 6, 5, 4, 3, 2, 1].foldl (expStep t) one
def sq (p : F64) : F64 := p * p
def sq8 (p : F64) : F64 := sq (sq (sq (sq (sq (sq (sq (sq p)))))))
def exponential (x : F64) : F64 := bif gt x h200 then inf64 else (bif lt x m200 then zero else sq8 (expPoly (x / k256)))
def eExp : Entry Try.prog := { f := 78, fn := shD fun x => rD (exponential x), ok := okD (E := [eInf]) Try.func78 (by kernel_rfl) fun x _ => by show _ = some (AV.c (.fl .f64 (exponential x))); unfold exponential; simp only [push_fl]; kernel_rfl }
def expS (x : F64) : F64 := bif ne x x then x else (bif gt x h200 then inf64 else (bif lt x m200 then zero else sq8 (expPoly (x / k256))))
def halfDiff (x : F64) : F64 := (exponential x - exponential (-x)) / two
def halfSum (x : F64) : F64 := (exponential x + exponential (-x)) / two
def eHalfDiff : Entry Try.prog := { f := 98, fn := shD fun x => rD (halfDiff x), ok := okD (E := [eExp]) Try.func98 (by kernel_rfl) fun x _ => by kernel_rfl }
def sinhS (x : F64) : F64 := half * (expS x - expS (-x))
def coshS (x : F64) : F64 := half * (expS x + expS (-x))
def leanSizeS (e x : F64) : F64 := e * sinhS x - x
-- angles
def angT (t : F64) : F64 := t / (one + sqrt (one + t * t))
def angStep (u p : F64) (k : Int) : F64 := one / ki k - u * p
def angPoly (u : F64) : F64 := [15, 13, 11, 9, 7, 5, 3, 1].foldl (angStep u) zero
def angOut (t : F64) : F64 := (eight * (t * angPoly (t * t))) / full
def angEnd (y x out : F64) : F64 := bif lt x zero then (bif lt y zero then -(half - out) else half - out) else (bif lt y zero then -out else out)
def angle (y x : F64) : F64 := bif gt (fabs y) (fabs x) then angEnd y x (quarter - angOut (angT (angT (angT (fabs x / fabs y))))) else angEnd y x (angOut (angT (angT (angT (fabs y / fabs x)))))
theorem bif_same {α : Type} (c : Bool) (a b d e : α) : (bif c then (bif c then a else b) else (bif c then d else e)) = bif c then a else e := by cases c <;> rfl
def angleOf (y x : F64) : F64 := bif !(finite y) || !(finite x) then none else (bif eq y zero && eq x zero then zero else angle y x)
def wrap (x : F64) : F64 := x - whole .down x
def eWrap : Entry Try.prog := { f := 133, fn := shD fun x => rD (wrap x), ok := okD (E := [eFloor]) Try.func133 (by kernel_rfl) fun x _ => by kernel_rfl }
def swingPhase (e x : F64) : F64 := x - (e * sine x) / full
def ePhaseOfSwing : Entry Try.prog := { f := 96, fn := shDD fun e x => rD (swingPhase e x), ok := okDD (E := [eSine]) Try.func96 (by kernel_rfl) fun e x _ => by kernel_rfl }

end Go.Proofs.Ytlpahmefebgdlaa.Fx
