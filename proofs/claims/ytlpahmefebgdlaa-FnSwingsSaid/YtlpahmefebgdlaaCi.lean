/- Contracts: ValidStage, two ways; its law. No condition. -/
import Derived.Test.YtlpahmefebgdlaaEp
import Derived.Test.YtlpahmefebgdlaaCe
namespace Go.Proofs.Ytlpahmefebgdlaa.Fx
open Go Go.RowKit

-- structs of three numbers
def shA3 (g : F32 → F32 → F32 → Bool × AV) : List AV → List (List AC) → Option (Bool × AV)
  | [.agg [.fl .f32 x0, .fl .f32 x1, .fl .f32 x2]], _ => some (g x0 x1 x2)
  | _, _ => none
theorem okA3 {P : Program} {E : List (Entry P)} {f : FuncId} {fn : Func} {g : F32 → F32 → F32 → Bool × AV} (hf : P.funcs[f]? = some fn) (hn : (fn.name == "runtime.NumGoroutine") = false)
    (h : ∀ (x0 : F32) (x1 : F32) (x2 : F32), (g x0 x1 x2).1 = true → run P E fn [.agg [.fl .f32 x0, .fl .f32 x1, .fl .f32 x2]] [] = some (g x0 x1 x2).2) :
    EOk P f (shA3 g) := by
  intro args M r hr σ vs w _ ha
  unfold shA3 at hr
  split at hr
  · rename_i x0 x1 x2
    have hr' := Option.some.inj hr
    have h1 := h x0 x1 x2 (by rw [hr'])
    rw [hr'] at h1
    exact gives0 hf hn rfl h1 ha
  · cases hr
def shP3 (g : F32 → F32 → F32 → Bool × AV) : List AV → List (List AC) → Option (Bool × AV)
  | [.c (.ptr id 0)], M => match M[id]? with
    | some [.fl .f32 x0, .fl .f32 x1, .fl .f32 x2] => some (g x0 x1 x2)
    | _ => none
  | _, _ => none
theorem okP3 {P : Program} {E : List (Entry P)} {f : FuncId} {fn : Func} {g : F32 → F32 → F32 → Bool × AV} (hf : P.funcs[f]? = some fn) (hn : (fn.name == "runtime.NumGoroutine") = false)
    (h : ∀ (x0 : F32) (x1 : F32) (x2 : F32), (g x0 x1 x2).1 = true → runO P E fn [.c (.ptr 0 0)] [[.fl .f32 x0, .fl .f32 x1, .fl .f32 x2]] = some (g x0 x1 x2).2) :
    EOk P f (shP3 g) := by
  intro args M r hr σ vs w hM ha
  unfold shP3 at hr
  split at hr
  · split at hr
    · rename_i id M x0 x1 x2 hid
      have hr' := Option.some.inj hr
      have h1 := h x0 x1 x2 (by rw [hr'])
      rw [hr'] at h1
      exact gives_ptr hf hn h1 rfl rfl hM hid ha
    · cases hr
  · cases hr

def stageOk (a b c : F32) : Bool := leastS a && (finS b && (gt b a && aboveS c))
theorem eValidStage_run (a b c : F32) : run Try.prog [eAMass, eIsFinite, eALength] Try.f33 [.agg [.fl .f32 a, .fl .f32 b, .fl .f32 c]] [] = some (.c (.sb (stageOk a b c))) := by
  unfold stageOk
  rw [← mass_eq, ← fin_eq, ← long_eq, push_and, push_and, push_and]
  kernel_rfl
def eValidStage : Entry Try.prog := { f := 33, fn := shA3 fun a b c => rB (stageOk a b c), ok := okA3 (E := [eAMass, eIsFinite, eALength]) Try.func33 (by kernel_rfl) fun a b c _ => eValidStage_run a b c }
end Go.Proofs.Ytlpahmefebgdlaa.Fx
