/- PointsOf, two ways; its law. No condition. -/
import Derived.Test.YtlpahmefebgdlaaEt
import Derived.Test.YtlpahmefebgdlaaNy
namespace Go.Proofs.Ytlpahmefebgdlaa.Fx
open Go Go.RowKit

def shXX (g : F64 → F64 → F64 → F64 → Bool × AV) : List AV → List (List AC) → Option (Bool × AV)
  | [.c (.cx .f64 x0 x1), .c (.cx .f64 x2 x3)], _ => some (g x0 x1 x2 x3)
  | _, _ => none
theorem okXX {P : Program} {E : List (Entry P)} {f : FuncId} {fn : Func} {g : F64 → F64 → F64 → F64 → Bool × AV} (hf : P.funcs[f]? = some fn) (hn : (fn.name == "runtime.NumGoroutine") = false)
    (h : ∀ (x0 x1 x2 x3 : F64), (g x0 x1 x2 x3).1 = true → run P E fn [.c (.cx .f64 x0 x1), .c (.cx .f64 x2 x3)] [] = some (g x0 x1 x2 x3).2) :
    EOk P f (shXX g) := by
  intro args M r hr σ vs w _ ha
  unfold shXX at hr
  split at hr
  · rename_i x0 x1 x2 x3
    have hr' := Option.some.inj hr
    have h1 := h x0 x1 x2 x3 (by rw [hr'])
    rw [hr'] at h1
    exact gives0 hf hn rfl h1 ha
  · cases hr
def sameC (x y u v : F64) : Bool := sameFl x u && sameFl y v
theorem sameC_refl (x y : F64) : sameC x y x y = true := by unfold sameC; rw [sameFl_refl, sameFl_refl]; rfl
def ka : F32 := c32 981668463
def loA (sh : F32) : F32 := (-sh) + ka
def hiA (sh : F32) : F32 := (one32 - sh) - ka
def loB (sh : F32) : F32 := (one32 - sh) + ka
def hiB : F32 := c32 1073741824
def loC : F32 := c32 3221225472
def hiC (sh : F32) : F32 := (-sh) - ka
def Ye : Option AV := some (.c (.sb true))
def No : Option AV := some (.c (.sb false))
/-- The specification's answers, in its order of tests. -/
def kS (s c1 c2 c3 b1 b2 b3 : Bool) (kn kp : Option AV) : Option AV := bif !s then kn else bif c1 then (bif c2 then (bif c3 then (bif b1 then (bif b2 then (bif !b3 then kn else kp) else kn) else kn) else none) else none) else none
/-- The program's answers, in its order of tests. -/
def kI (s c1 c2 c3 b1 b2 b3 : Bool) (kn kp : Option AV) : Option AV := bif !s then kn else bif c1 then (bif !b1 then kn else bif c2 then (bif !b2 then kn else bif c3 then (bif !b3 then kn else kp) else none) else none) else none
def pX (sh : F32) : F32 := c32 1056964608 - sh
def pY : F32 := c32 1063105495
def pZ : F32 := c32 3210589143
def eqPts (sh : F32) (k : Option AV) : Option AV :=
  bif !(sameC (widen (rsX sh (loA sh) (hiA sh))) (widen (c32 0)) (widen (rsX sh (loA sh) (hiA sh))) (widen (c32 0))) then No else
  bif !(sameC (widen (rsX sh (loB sh) hiB)) (widen (c32 0)) (widen (rsX sh (loB sh) hiB)) (widen (c32 0))) then No else
  bif !(sameC (widen (rsX sh loC (hiC sh))) (widen (c32 0)) (widen (rsX sh loC (hiC sh))) (widen (c32 0))) then No else
  bif !(sameC (widen (pX sh)) (widen pY) (widen (pX sh)) (widen pY)) then No else
  bif !(sameC (widen (pX sh)) (widen pZ) (widen (pX sh)) (widen pZ)) then No else k
theorem eqPts_eq (sh : F32) (k : Option AV) : eqPts sh k = k := by
  unfold eqPts; simp only [sameC_refl]; rfl
def ptsI : List FuncId := [48, 99, 25, 49, 50, 51]
theorem upS_ka : UpS 0 ka := upS_of _ false 8589935 (-33) rfl (by decide) (by decide) (by decide)
end Go.Proofs.Ytlpahmefebgdlaa.Fx
