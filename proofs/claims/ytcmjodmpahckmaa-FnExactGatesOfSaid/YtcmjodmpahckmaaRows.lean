/-
  No cell of these rows narrows 'for every input' (looked for: loops, veiled, ifaces, maps, wideKeys, modest, calm, conditions, laid).
  DERIVED. THE GIVEN ROWS OF THIS SEAT. 12 by the template 'for every input the law returns true; each argument reads behind the call as it read before'; 0 by the template 'total and deterministic' (their statements: YtcmjodmpahckmaaTotals.lean).
  GIVEN WITH THE SEED: the statements are not yours to turn. If you find one false, say at which input.
  Laid BY PROGRAM, IN A SANDBOX (cutbox-rows.mjs): the forced cells as the released guide's own fill.sh prints them over the translation 3f59d5f9aca4b846… (all of the seat's roots in one cut). By AI agents, Wed Nov 11 2026. No macro, syntax, notation, axiom, sorry.
-/
import Derived.Test.YtcmjodmpahckmaaChecked
import GoSem.Claim
import GoSem.ClaimJoined
import GoSem.ClaimMapViews
import Derived.JoinedTies
import Derived.KernelRfl
namespace Go.Proofs.Ytcmjodmpahckmaa
/- THE CELL 'sum', in the pinned program and in every row, IS THE sha256 OF THE DUMP (.gsa) THAT YtcmjodmpahckmaaProg.lean LOADS. Nothing in Lean hashes anything: it is a label: what it is worth is what the hold of that sum in a sandbox is worth. -/
noncomputable def Try.pinned : Pinned := { name := "ytcmjodmpahckmaa", sum := "3f59d5f9aca4b84646178e30f68ce53be372c3c830b664b6b364e979dc330faf", checked := Try.checked }
namespace Rows
def none {H : Type} : Left H := { results := [], args := [] }

/-- 'laws.FnExactIsShare': WHATEVER THE INPUT: true; the input reads as it did. -/
def fnExactIsShareSpec : ChangeSpec := { name := "fnExactIsShare", fn := fun _ => fun
  | [d] => { results := [.lit (.bool true)], args := [d] }
  | _ => none }
def fnExactIsShareRow : OpenClaim := { program := "ytcmjodmpahckmaa", sum := "3f59d5f9aca4b84646178e30f68ce53be372c3c830b664b6b364e979dc330faf", func := "loop.example/g01284/laws.FnExactIsShare", spec := "fnExactIsShare", apart := false }
def FnExactIsShareSaid : Prop := fnExactIsShareRow.holds Try.pinned (OpenSpec.ofChange fnExactIsShareSpec)

/-- ITS FALSE NEIGHBOUR: 'it returns false'. Refute it at one input. -/
def fnExactIsShareWrong : ChangeSpec := { name := "fnExactIsShare", fn := fun _ => fun
  | [d] => { results := [.lit (.bool false)], args := [d] }
  | _ => none }
def FnExactIsShareWrongFalsely : Prop := fnExactIsShareRow.holds Try.pinned (OpenSpec.ofChange fnExactIsShareWrong)

/-- 'laws.FnExactMassesAt': WHATEVER THE INPUT: true; the input reads as it did. -/
def fnExactMassesAtSpec : ChangeSpec := { name := "fnExactMassesAt", fn := fun _ => fun
  | [d] => { results := [.lit (.bool true)], args := [d] }
  | _ => none }
def fnExactMassesAtRow : OpenClaim := { program := "ytcmjodmpahckmaa", sum := "3f59d5f9aca4b84646178e30f68ce53be372c3c830b664b6b364e979dc330faf", func := "loop.example/g01284/laws.FnExactMassesAt", spec := "fnExactMassesAt", apart := false }
def FnExactMassesAtSaid : Prop := fnExactMassesAtRow.holds Try.pinned (OpenSpec.ofChange fnExactMassesAtSpec)

/-- ITS FALSE NEIGHBOUR: 'it returns false'. Refute it at one input. -/
def fnExactMassesAtWrong : ChangeSpec := { name := "fnExactMassesAt", fn := fun _ => fun
  | [d] => { results := [.lit (.bool false)], args := [d] }
  | _ => none }
def FnExactMassesAtWrongFalsely : Prop := fnExactMassesAtRow.holds Try.pinned (OpenSpec.ofChange fnExactMassesAtWrong)

/-- 'laws.FnExactValidStage': WHATEVER THE INPUT: true; the input reads as it did. -/
def fnExactValidStageSpec : ChangeSpec := { name := "fnExactValidStage", fn := fun _ => fun
  | [d] => { results := [.lit (.bool true)], args := [d] }
  | _ => none }
def fnExactValidStageRow : OpenClaim := { program := "ytcmjodmpahckmaa", sum := "3f59d5f9aca4b84646178e30f68ce53be372c3c830b664b6b364e979dc330faf", func := "loop.example/g01284/laws.FnExactValidStage", spec := "fnExactValidStage", inPlace := ["math.Float64bits", "math.Float64frombits"], apart := false }
def FnExactValidStageSaid : Prop := fnExactValidStageRow.holds Try.pinned (OpenSpec.ofChange fnExactValidStageSpec)

/-- ITS FALSE NEIGHBOUR: 'it returns false'. Refute it at one input. -/
def fnExactValidStageWrong : ChangeSpec := { name := "fnExactValidStage", fn := fun _ => fun
  | [d] => { results := [.lit (.bool false)], args := [d] }
  | _ => none }
def FnExactValidStageWrongFalsely : Prop := fnExactValidStageRow.holds Try.pinned (OpenSpec.ofChange fnExactValidStageWrong)

/-- 'laws.FnRests': WHATEVER THE INPUT: true; the input reads as it did. -/
def fnRestsSpec : ChangeSpec := { name := "fnRests", fn := fun _ => fun
  | [d1, d2] => { results := [.lit (.bool true)], args := [d1, d2] }
  | _ => none }
def fnRestsRow : OpenClaim := { program := "ytcmjodmpahckmaa", sum := "3f59d5f9aca4b84646178e30f68ce53be372c3c830b664b6b364e979dc330faf", func := "loop.example/g01284/laws.FnRests", spec := "fnRests", inPlace := ["math.Float64bits", "math.Float64frombits", "math.sqrt"], unfollowed := true, recurses := true, apart := false }
def FnRestsSaid : Prop := fnRestsRow.holds Try.pinned (OpenSpec.ofChange fnRestsSpec)

/-- ITS FALSE NEIGHBOUR: 'it returns false'. Refute it at one input. -/
def fnRestsWrong : ChangeSpec := { name := "fnRests", fn := fun _ => fun
  | [d1, d2] => { results := [.lit (.bool false)], args := [d1, d2] }
  | _ => none }
def FnRestsWrongFalsely : Prop := fnRestsRow.holds Try.pinned (OpenSpec.ofChange fnRestsWrong)

/-- 'laws.FnExactLeanOf': WHATEVER THE INPUT: true; the input reads as it did. -/
def fnExactLeanOfSpec : ChangeSpec := { name := "fnExactLeanOf", fn := fun _ => fun
  | [d1, d2] => { results := [.lit (.bool true)], args := [d1, d2] }
  | _ => none }
def fnExactLeanOfRow : OpenClaim := { program := "ytcmjodmpahckmaa", sum := "3f59d5f9aca4b84646178e30f68ce53be372c3c830b664b6b364e979dc330faf", func := "loop.example/g01284/laws.FnExactLeanOf", spec := "fnExactLeanOf", inPlace := ["math.Float64frombits", "math.Float64bits"], unfollowed := true, recurses := true, apart := false }
def FnExactLeanOfSaid : Prop := fnExactLeanOfRow.holds Try.pinned (OpenSpec.ofChange fnExactLeanOfSpec)

/-- ITS FALSE NEIGHBOUR: 'it returns false'. Refute it at one input. -/
def fnExactLeanOfWrong : ChangeSpec := { name := "fnExactLeanOf", fn := fun _ => fun
  | [d1, d2] => { results := [.lit (.bool false)], args := [d1, d2] }
  | _ => none }
def FnExactLeanOfWrongFalsely : Prop := fnExactLeanOfRow.holds Try.pinned (OpenSpec.ofChange fnExactLeanOfWrong)

/-- 'laws.FnExactPhaseOfSwing': WHATEVER THE INPUT: true; the input reads as it did. -/
def fnExactPhaseOfSwingSpec : ChangeSpec := { name := "fnExactPhaseOfSwing", fn := fun _ => fun
  | [d1, d2] => { results := [.lit (.bool true)], args := [d1, d2] }
  | _ => none }
def fnExactPhaseOfSwingRow : OpenClaim := { program := "ytcmjodmpahckmaa", sum := "3f59d5f9aca4b84646178e30f68ce53be372c3c830b664b6b364e979dc330faf", func := "loop.example/g01284/laws.FnExactPhaseOfSwing", spec := "fnExactPhaseOfSwing", inPlace := ["math.Float64frombits", "math.Float64bits", "math.archTrunc"], unfollowed := true, recurses := true, apart := false }
def FnExactPhaseOfSwingSaid : Prop := fnExactPhaseOfSwingRow.holds Try.pinned (OpenSpec.ofChange fnExactPhaseOfSwingSpec)

/-- ITS FALSE NEIGHBOUR: 'it returns false'. Refute it at one input. -/
def fnExactPhaseOfSwingWrong : ChangeSpec := { name := "fnExactPhaseOfSwing", fn := fun _ => fun
  | [d1, d2] => { results := [.lit (.bool false)], args := [d1, d2] }
  | _ => none }
def FnExactPhaseOfSwingWrongFalsely : Prop := fnExactPhaseOfSwingRow.holds Try.pinned (OpenSpec.ofChange fnExactPhaseOfSwingWrong)

/-- 'laws.FnExactLeadOf': WHATEVER THE INPUT: true; the input reads as it did. -/
def fnExactLeadOfSpec : ChangeSpec := { name := "fnExactLeadOf", fn := fun _ => fun
  | [d1, d2, d3] => { results := [.lit (.bool true)], args := [d1, d2, d3] }
  | _ => none }
def fnExactLeadOfRow : OpenClaim := { program := "ytcmjodmpahckmaa", sum := "3f59d5f9aca4b84646178e30f68ce53be372c3c830b664b6b364e979dc330faf", func := "loop.example/g01284/laws.FnExactLeadOf", spec := "fnExactLeadOf", inPlace := ["math.sqrt", "math.archFloor", "math.Float64bits", "math.Float64frombits", "math.archTrunc"], apart := false }
def FnExactLeadOfSaid : Prop := fnExactLeadOfRow.holds Try.pinned (OpenSpec.ofChange fnExactLeadOfSpec)

/-- ITS FALSE NEIGHBOUR: 'it returns false'. Refute it at one input. -/
def fnExactLeadOfWrong : ChangeSpec := { name := "fnExactLeadOf", fn := fun _ => fun
  | [d1, d2, d3] => { results := [.lit (.bool false)], args := [d1, d2, d3] }
  | _ => none }
def FnExactLeadOfWrongFalsely : Prop := fnExactLeadOfRow.holds Try.pinned (OpenSpec.ofChange fnExactLeadOfWrong)

/-- 'laws.FnExactSwingOf': WHATEVER THE INPUT: true; the input reads as it did. -/
def fnExactSwingOfSpec : ChangeSpec := { name := "fnExactSwingOf", fn := fun _ => fun
  | [d1, d2] => { results := [.lit (.bool true)], args := [d1, d2] }
  | _ => none }
def fnExactSwingOfRow : OpenClaim := { program := "ytcmjodmpahckmaa", sum := "3f59d5f9aca4b84646178e30f68ce53be372c3c830b664b6b364e979dc330faf", func := "loop.example/g01284/laws.FnExactSwingOf", spec := "fnExactSwingOf", inPlace := ["math.archFloor", "math.Float64bits", "math.Float64frombits", "math.archTrunc"], unfollowed := true, recurses := true, apart := false }
def FnExactSwingOfSaid : Prop := fnExactSwingOfRow.holds Try.pinned (OpenSpec.ofChange fnExactSwingOfSpec)

/-- ITS FALSE NEIGHBOUR: 'it returns false'. Refute it at one input. -/
def fnExactSwingOfWrong : ChangeSpec := { name := "fnExactSwingOf", fn := fun _ => fun
  | [d1, d2] => { results := [.lit (.bool false)], args := [d1, d2] }
  | _ => none }
def FnExactSwingOfWrongFalsely : Prop := fnExactSwingOfRow.holds Try.pinned (OpenSpec.ofChange fnExactSwingOfWrong)

/-- 'laws.FnExactFlybyTurn': WHATEVER THE INPUT: true; the input reads as it did. -/
def fnExactFlybyTurnSpec : ChangeSpec := { name := "fnExactFlybyTurn", fn := fun _ => fun
  | [d1, d2, d3] => { results := [.lit (.bool true)], args := [d1, d2, d3] }
  | _ => none }
def fnExactFlybyTurnRow : OpenClaim := { program := "ytcmjodmpahckmaa", sum := "3f59d5f9aca4b84646178e30f68ce53be372c3c830b664b6b364e979dc330faf", func := "loop.example/g01284/laws.FnExactFlybyTurn", spec := "fnExactFlybyTurn", inPlace := ["math.sqrt", "math.Float64frombits", "math.Float64bits"], apart := false }
def FnExactFlybyTurnSaid : Prop := fnExactFlybyTurnRow.holds Try.pinned (OpenSpec.ofChange fnExactFlybyTurnSpec)

/-- ITS FALSE NEIGHBOUR: 'it returns false'. Refute it at one input. -/
def fnExactFlybyTurnWrong : ChangeSpec := { name := "fnExactFlybyTurn", fn := fun _ => fun
  | [d1, d2, d3] => { results := [.lit (.bool false)], args := [d1, d2, d3] }
  | _ => none }
def FnExactFlybyTurnWrongFalsely : Prop := fnExactFlybyTurnRow.holds Try.pinned (OpenSpec.ofChange fnExactFlybyTurnWrong)

/-- 'laws.FnExactPointsOf': WHATEVER THE INPUT: true; the input reads as it did. -/
def fnExactPointsOfSpec : ChangeSpec := { name := "fnExactPointsOf", fn := fun _ => fun
  | [d] => { results := [.lit (.bool true)], args := [d] }
  | _ => none }
def fnExactPointsOfRow : OpenClaim := { program := "ytcmjodmpahckmaa", sum := "3f59d5f9aca4b84646178e30f68ce53be372c3c830b664b6b364e979dc330faf", func := "loop.example/g01284/laws.FnExactPointsOf", spec := "fnExactPointsOf", inPlace := ["math.sqrt", "math.Float64bits", "math.Float64frombits"], apart := false }
def FnExactPointsOfSaid : Prop := fnExactPointsOfRow.holds Try.pinned (OpenSpec.ofChange fnExactPointsOfSpec)

/-- ITS FALSE NEIGHBOUR: 'it returns false'. Refute it at one input. -/
def fnExactPointsOfWrong : ChangeSpec := { name := "fnExactPointsOf", fn := fun _ => fun
  | [d] => { results := [.lit (.bool false)], args := [d] }
  | _ => none }
def FnExactPointsOfWrongFalsely : Prop := fnExactPointsOfRow.holds Try.pinned (OpenSpec.ofChange fnExactPointsOfWrong)

/-- 'laws.FnExactGatesOf': WHATEVER THE INPUT: true; the input reads as it did. -/
def fnExactGatesOfSpec : ChangeSpec := { name := "fnExactGatesOf", fn := fun _ => fun
  | [d] => { results := [.lit (.bool true)], args := [d] }
  | _ => none }
def fnExactGatesOfRow : OpenClaim := { program := "ytcmjodmpahckmaa", sum := "3f59d5f9aca4b84646178e30f68ce53be372c3c830b664b6b364e979dc330faf", func := "loop.example/g01284/laws.FnExactGatesOf", spec := "fnExactGatesOf", inPlace := ["math.sqrt", "math.Float64bits", "math.Float64frombits"], apart := false }
def FnExactGatesOfSaid : Prop := fnExactGatesOfRow.holds Try.pinned (OpenSpec.ofChange fnExactGatesOfSpec)

/-- ITS FALSE NEIGHBOUR: 'it returns false'. Refute it at one input. -/
def fnExactGatesOfWrong : ChangeSpec := { name := "fnExactGatesOf", fn := fun _ => fun
  | [d] => { results := [.lit (.bool false)], args := [d] }
  | _ => none }
def FnExactGatesOfWrongFalsely : Prop := fnExactGatesOfRow.holds Try.pinned (OpenSpec.ofChange fnExactGatesOfWrong)

/-- 'laws.FnExactTrueTurn': WHATEVER THE INPUT: true; the input reads as it did. -/
def fnExactTrueTurnSpec : ChangeSpec := { name := "fnExactTrueTurn", fn := fun _ => fun
  | [d] => { results := [.lit (.bool true)], args := [d] }
  | _ => none }
def fnExactTrueTurnRow : OpenClaim := { program := "ytcmjodmpahckmaa", sum := "3f59d5f9aca4b84646178e30f68ce53be372c3c830b664b6b364e979dc330faf", func := "loop.example/g01284/laws.FnExactTrueTurn", spec := "fnExactTrueTurn", inPlace := ["math.Float64bits", "math.Float64frombits", "math.sqrt", "math.archFloor", "math.archTrunc"], unfollowed := true, recurses := true, apart := false }
def FnExactTrueTurnSaid : Prop := fnExactTrueTurnRow.holds Try.pinned (OpenSpec.ofChange fnExactTrueTurnSpec)

/-- ITS FALSE NEIGHBOUR: 'it returns false'. Refute it at one input. -/
def fnExactTrueTurnWrong : ChangeSpec := { name := "fnExactTrueTurn", fn := fun _ => fun
  | [d] => { results := [.lit (.bool false)], args := [d] }
  | _ => none }
def FnExactTrueTurnWrongFalsely : Prop := fnExactTrueTurnRow.holds Try.pinned (OpenSpec.ofChange fnExactTrueTurnWrong)

/- THE SECOND FORM. 'bulk': how many values and letters a reading holds, each counted each time it is reached (what is shared counts as often as it is met; a slice's spare places count too). A statement '..UptoSaid' is the law's where the arguments, and the package variables that the reading takes, are together of bulk at most 1048576: NARROWER than '..Said'. Prove '..Said' where nothing that the law and all that it calls make is longer than what came in: it says more and counts as full. Else prove '..UptoSaid'. A law counts once. -/
mutual
def uptoBulk {H : Type} : DataW H → Nat
  | .lit (.string bytes) => bytes.length + 1
  | .lit _ => 1
  | .nil => 1
  | .ptr d => uptoBulk d + 1
  | .slice elems spare => uptoBulkAll elems + uptoBulkAll spare + 1
  | .agg parts => uptoBulkAll parts + 1
  | .iface _ d => uptoBulk d + 1
  | .map entries => uptoBulkEntries entries + 1
  | .held _ => 1
def uptoBulkAll {H : Type} : List (DataW H) → Nat
  | [] => 0
  | d :: r => uptoBulk d + uptoBulkAll r
def uptoBulkEntries {H : Type} : List (Lit × DataW H) → Nat
  | [] => 0
  | x :: r => uptoBulkEntry x + uptoBulkEntries r
def uptoBulkEntry {H : Type} : Lit × DataW H → Nat
  | (.string bytes, d) => bytes.length + uptoBulk d + 1
  | (_, d) => uptoBulk d + 1
 end
def uptoSmall : (H : Type) → List (DataW H) → Bool := fun _ ds => decide (uptoBulkAll ds ≤ 1048576)
def OpenSpec.upto (s : _root_.Go.ChangeSpec) : _root_.Go.OpenSpec := { _root_.Go.OpenSpec.ofChange s with cond := some uptoSmall }

/-- 'laws.FnExactIsShare', WHERE WHAT IT READS IS OF BULK AT MOST 1048576: true; the input reads as it did. -/
def fnExactIsShareUptoRow : OpenClaim := { program := "ytcmjodmpahckmaa", sum := "3f59d5f9aca4b84646178e30f68ce53be372c3c830b664b6b364e979dc330faf", func := "loop.example/g01284/laws.FnExactIsShare", spec := "fnExactIsShare", apart := false, narrowed := true }
def FnExactIsShareUptoSaid : Prop := fnExactIsShareUptoRow.holds Try.pinned (OpenSpec.upto fnExactIsShareSpec)

/-- 'laws.FnExactMassesAt', WHERE WHAT IT READS IS OF BULK AT MOST 1048576: true; the input reads as it did. -/
def fnExactMassesAtUptoRow : OpenClaim := { program := "ytcmjodmpahckmaa", sum := "3f59d5f9aca4b84646178e30f68ce53be372c3c830b664b6b364e979dc330faf", func := "loop.example/g01284/laws.FnExactMassesAt", spec := "fnExactMassesAt", apart := false, narrowed := true }
def FnExactMassesAtUptoSaid : Prop := fnExactMassesAtUptoRow.holds Try.pinned (OpenSpec.upto fnExactMassesAtSpec)

/-- 'laws.FnExactValidStage', WHERE WHAT IT READS IS OF BULK AT MOST 1048576: true; the input reads as it did. -/
def fnExactValidStageUptoRow : OpenClaim := { program := "ytcmjodmpahckmaa", sum := "3f59d5f9aca4b84646178e30f68ce53be372c3c830b664b6b364e979dc330faf", func := "loop.example/g01284/laws.FnExactValidStage", spec := "fnExactValidStage", inPlace := ["math.Float64bits", "math.Float64frombits"], apart := false, narrowed := true }
def FnExactValidStageUptoSaid : Prop := fnExactValidStageUptoRow.holds Try.pinned (OpenSpec.upto fnExactValidStageSpec)

/-- 'laws.FnRests', WHERE WHAT IT READS IS OF BULK AT MOST 1048576: true; the input reads as it did. -/
def fnRestsUptoRow : OpenClaim := { program := "ytcmjodmpahckmaa", sum := "3f59d5f9aca4b84646178e30f68ce53be372c3c830b664b6b364e979dc330faf", func := "loop.example/g01284/laws.FnRests", spec := "fnRests", inPlace := ["math.Float64bits", "math.Float64frombits", "math.sqrt"], unfollowed := true, recurses := true, apart := false, narrowed := true }
def FnRestsUptoSaid : Prop := fnRestsUptoRow.holds Try.pinned (OpenSpec.upto fnRestsSpec)

/-- 'laws.FnExactLeanOf', WHERE WHAT IT READS IS OF BULK AT MOST 1048576: true; the input reads as it did. -/
def fnExactLeanOfUptoRow : OpenClaim := { program := "ytcmjodmpahckmaa", sum := "3f59d5f9aca4b84646178e30f68ce53be372c3c830b664b6b364e979dc330faf", func := "loop.example/g01284/laws.FnExactLeanOf", spec := "fnExactLeanOf", inPlace := ["math.Float64frombits", "math.Float64bits"], unfollowed := true, recurses := true, apart := false, narrowed := true }
def FnExactLeanOfUptoSaid : Prop := fnExactLeanOfUptoRow.holds Try.pinned (OpenSpec.upto fnExactLeanOfSpec)

/-- 'laws.FnExactPhaseOfSwing', WHERE WHAT IT READS IS OF BULK AT MOST 1048576: true; the input reads as it did. -/
def fnExactPhaseOfSwingUptoRow : OpenClaim := { program := "ytcmjodmpahckmaa", sum := "3f59d5f9aca4b84646178e30f68ce53be372c3c830b664b6b364e979dc330faf", func := "loop.example/g01284/laws.FnExactPhaseOfSwing", spec := "fnExactPhaseOfSwing", inPlace := ["math.Float64frombits", "math.Float64bits", "math.archTrunc"], unfollowed := true, recurses := true, apart := false, narrowed := true }
def FnExactPhaseOfSwingUptoSaid : Prop := fnExactPhaseOfSwingUptoRow.holds Try.pinned (OpenSpec.upto fnExactPhaseOfSwingSpec)

/-- 'laws.FnExactLeadOf', WHERE WHAT IT READS IS OF BULK AT MOST 1048576: true; the input reads as it did. -/
def fnExactLeadOfUptoRow : OpenClaim := { program := "ytcmjodmpahckmaa", sum := "3f59d5f9aca4b84646178e30f68ce53be372c3c830b664b6b364e979dc330faf", func := "loop.example/g01284/laws.FnExactLeadOf", spec := "fnExactLeadOf", inPlace := ["math.sqrt", "math.archFloor", "math.Float64bits", "math.Float64frombits", "math.archTrunc"], apart := false, narrowed := true }
def FnExactLeadOfUptoSaid : Prop := fnExactLeadOfUptoRow.holds Try.pinned (OpenSpec.upto fnExactLeadOfSpec)

/-- 'laws.FnExactSwingOf', WHERE WHAT IT READS IS OF BULK AT MOST 1048576: true; the input reads as it did. -/
def fnExactSwingOfUptoRow : OpenClaim := { program := "ytcmjodmpahckmaa", sum := "3f59d5f9aca4b84646178e30f68ce53be372c3c830b664b6b364e979dc330faf", func := "loop.example/g01284/laws.FnExactSwingOf", spec := "fnExactSwingOf", inPlace := ["math.archFloor", "math.Float64bits", "math.Float64frombits", "math.archTrunc"], unfollowed := true, recurses := true, apart := false, narrowed := true }
def FnExactSwingOfUptoSaid : Prop := fnExactSwingOfUptoRow.holds Try.pinned (OpenSpec.upto fnExactSwingOfSpec)

/-- 'laws.FnExactFlybyTurn', WHERE WHAT IT READS IS OF BULK AT MOST 1048576: true; the input reads as it did. -/
def fnExactFlybyTurnUptoRow : OpenClaim := { program := "ytcmjodmpahckmaa", sum := "3f59d5f9aca4b84646178e30f68ce53be372c3c830b664b6b364e979dc330faf", func := "loop.example/g01284/laws.FnExactFlybyTurn", spec := "fnExactFlybyTurn", inPlace := ["math.sqrt", "math.Float64frombits", "math.Float64bits"], apart := false, narrowed := true }
def FnExactFlybyTurnUptoSaid : Prop := fnExactFlybyTurnUptoRow.holds Try.pinned (OpenSpec.upto fnExactFlybyTurnSpec)

/-- 'laws.FnExactPointsOf', WHERE WHAT IT READS IS OF BULK AT MOST 1048576: true; the input reads as it did. -/
def fnExactPointsOfUptoRow : OpenClaim := { program := "ytcmjodmpahckmaa", sum := "3f59d5f9aca4b84646178e30f68ce53be372c3c830b664b6b364e979dc330faf", func := "loop.example/g01284/laws.FnExactPointsOf", spec := "fnExactPointsOf", inPlace := ["math.sqrt", "math.Float64bits", "math.Float64frombits"], apart := false, narrowed := true }
def FnExactPointsOfUptoSaid : Prop := fnExactPointsOfUptoRow.holds Try.pinned (OpenSpec.upto fnExactPointsOfSpec)

/-- 'laws.FnExactGatesOf', WHERE WHAT IT READS IS OF BULK AT MOST 1048576: true; the input reads as it did. -/
def fnExactGatesOfUptoRow : OpenClaim := { program := "ytcmjodmpahckmaa", sum := "3f59d5f9aca4b84646178e30f68ce53be372c3c830b664b6b364e979dc330faf", func := "loop.example/g01284/laws.FnExactGatesOf", spec := "fnExactGatesOf", inPlace := ["math.sqrt", "math.Float64bits", "math.Float64frombits"], apart := false, narrowed := true }
def FnExactGatesOfUptoSaid : Prop := fnExactGatesOfUptoRow.holds Try.pinned (OpenSpec.upto fnExactGatesOfSpec)

/-- 'laws.FnExactTrueTurn', WHERE WHAT IT READS IS OF BULK AT MOST 1048576: true; the input reads as it did. -/
def fnExactTrueTurnUptoRow : OpenClaim := { program := "ytcmjodmpahckmaa", sum := "3f59d5f9aca4b84646178e30f68ce53be372c3c830b664b6b364e979dc330faf", func := "loop.example/g01284/laws.FnExactTrueTurn", spec := "fnExactTrueTurn", inPlace := ["math.Float64bits", "math.Float64frombits", "math.sqrt", "math.archFloor", "math.archTrunc"], unfollowed := true, recurses := true, apart := false, narrowed := true }
def FnExactTrueTurnUptoSaid : Prop := fnExactTrueTurnUptoRow.holds Try.pinned (OpenSpec.upto fnExactTrueTurnSpec)

end Rows
end Go.Proofs.Ytcmjodmpahckmaa
