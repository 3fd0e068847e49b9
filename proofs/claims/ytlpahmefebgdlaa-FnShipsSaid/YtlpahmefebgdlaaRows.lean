/-
  No cell of these rows narrows 'for every input' (looked for: loops, veiled, ifaces, maps, wideKeys, modest, calm, conditions, laid).
  DERIVED. THE GIVEN ROWS OF THIS SEAT. 6 by the template 'for every input the law returns true; each argument reads behind the call as it read before'; 0 by the template 'total and deterministic' (their statements: YtlpahmefebgdlaaTotals.lean).
  GIVEN WITH THE SEED: the statements are not yours to turn. If you find one false, say at which input.
  Laid BY PROGRAM, IN A SANDBOX (cutbox-rows.mjs): the forced cells as the released guide's own fill.sh prints them over the translation 52cd78b13e488d8d… (all of the seat's roots in one cut). By AI agents, Wed Nov 11 2026. No macro, syntax, notation, axiom, sorry.
-/
import Derived.Test.YtlpahmefebgdlaaChecked
import GoSem.Claim
import GoSem.ClaimJoined
import GoSem.ClaimMapViews
import Derived.JoinedTies
import Derived.KernelRfl
namespace Go.Proofs.Ytlpahmefebgdlaa
/- THE CELL 'sum', in the pinned program and in every row, IS THE sha256 OF THE DUMP (.gsa) THAT YtlpahmefebgdlaaProg.lean LOADS. Nothing in Lean hashes anything: it is a label: what it is worth is what the hold of that sum in a sandbox is worth. -/
noncomputable def Try.pinned : Pinned := { name := "ytlpahmefebgdlaa", sum := "52cd78b13e488d8d1c31a0eda14bd38059c587c11d8c5eb96c918e1d96364772", checked := Try.checked }
namespace Rows
def none {H : Type} : Left H := { results := [], args := [] }

/-- 'laws.FnRests': WHATEVER THE INPUT: true; the input reads as it did. -/
def fnRestsSpec : ChangeSpec := { name := "fnRests", fn := fun _ => fun
  | [d1, d2] => { results := [.lit (.bool true)], args := [d1, d2] }
  | _ => none }
def fnRestsRow : OpenClaim := { program := "ytlpahmefebgdlaa", sum := "52cd78b13e488d8d1c31a0eda14bd38059c587c11d8c5eb96c918e1d96364772", func := "loop.example/g01284/laws.FnRests", spec := "fnRests", inPlace := ["math.Float64bits", "math.Float64frombits", "math.sqrt"], unfollowed := true, recurses := true, apart := false }
def FnRestsSaid : Prop := fnRestsRow.holds Try.pinned (OpenSpec.ofChange fnRestsSpec)

/-- ITS FALSE NEIGHBOUR: 'it returns false'. Refute it at one input. -/
def fnRestsWrong : ChangeSpec := { name := "fnRests", fn := fun _ => fun
  | [d1, d2] => { results := [.lit (.bool false)], args := [d1, d2] }
  | _ => none }
def FnRestsWrongFalsely : Prop := fnRestsRow.holds Try.pinned (OpenSpec.ofChange fnRestsWrong)

/-- 'laws.FnBurns': WHATEVER THE INPUT: true; the input reads as it did. -/
def fnBurnsSpec : ChangeSpec := { name := "fnBurns", fn := fun _ => fun
  | [d1, d2] => { results := [.lit (.bool true)], args := [d1, d2] }
  | _ => none }
def fnBurnsRow : OpenClaim := { program := "ytlpahmefebgdlaa", sum := "52cd78b13e488d8d1c31a0eda14bd38059c587c11d8c5eb96c918e1d96364772", func := "loop.example/g01284/laws.FnBurns", spec := "fnBurns", inPlace := ["math.Float64bits", "math.Float64frombits"], apart := false }
def FnBurnsSaid : Prop := fnBurnsRow.holds Try.pinned (OpenSpec.ofChange fnBurnsSpec)

/-- ITS FALSE NEIGHBOUR: 'it returns false'. Refute it at one input. -/
def fnBurnsWrong : ChangeSpec := { name := "fnBurns", fn := fun _ => fun
  | [d1, d2] => { results := [.lit (.bool false)], args := [d1, d2] }
  | _ => none }
def FnBurnsWrongFalsely : Prop := fnBurnsRow.holds Try.pinned (OpenSpec.ofChange fnBurnsWrong)

/-- 'laws.FnWindows': WHATEVER THE INPUT: true; the input reads as it did. -/
def fnWindowsSpec : ChangeSpec := { name := "fnWindows", fn := fun _ => fun
  | [d1, d2] => { results := [.lit (.bool true)], args := [d1, d2] }
  | _ => none }
def fnWindowsRow : OpenClaim := { program := "ytlpahmefebgdlaa", sum := "52cd78b13e488d8d1c31a0eda14bd38059c587c11d8c5eb96c918e1d96364772", func := "loop.example/g01284/laws.FnWindows", spec := "fnWindows", inPlace := ["math.Float64bits", "math.Float64frombits", "math.sqrt", "math.archFloor", "math.archTrunc"], apart := false }
def FnWindowsSaid : Prop := fnWindowsRow.holds Try.pinned (OpenSpec.ofChange fnWindowsSpec)

/-- ITS FALSE NEIGHBOUR: 'it returns false'. Refute it at one input. -/
def fnWindowsWrong : ChangeSpec := { name := "fnWindows", fn := fun _ => fun
  | [d1, d2] => { results := [.lit (.bool false)], args := [d1, d2] }
  | _ => none }
def FnWindowsWrongFalsely : Prop := fnWindowsRow.holds Try.pinned (OpenSpec.ofChange fnWindowsWrong)

/-- 'laws.FnSwings': WHATEVER THE INPUT: true; the input reads as it did. -/
def fnSwingsSpec : ChangeSpec := { name := "fnSwings", fn := fun _ => fun
  | [d1, d2] => { results := [.lit (.bool true)], args := [d1, d2] }
  | _ => none }
def fnSwingsRow : OpenClaim := { program := "ytlpahmefebgdlaa", sum := "52cd78b13e488d8d1c31a0eda14bd38059c587c11d8c5eb96c918e1d96364772", func := "loop.example/g01284/laws.FnSwings", spec := "fnSwings", inPlace := ["math.Float64bits", "math.Float64frombits", "math.archFloor", "math.archTrunc"], unfollowed := true, recurses := true, apart := false }
def FnSwingsSaid : Prop := fnSwingsRow.holds Try.pinned (OpenSpec.ofChange fnSwingsSpec)

/-- ITS FALSE NEIGHBOUR: 'it returns false'. Refute it at one input. -/
def fnSwingsWrong : ChangeSpec := { name := "fnSwings", fn := fun _ => fun
  | [d1, d2] => { results := [.lit (.bool false)], args := [d1, d2] }
  | _ => none }
def FnSwingsWrongFalsely : Prop := fnSwingsRow.holds Try.pinned (OpenSpec.ofChange fnSwingsWrong)

/-- 'laws.FnSections': WHATEVER THE INPUT: true; the input reads as it did. -/
def fnSectionsSpec : ChangeSpec := { name := "fnSections", fn := fun _ => fun
  | [d1, d2] => { results := [.lit (.bool true)], args := [d1, d2] }
  | _ => none }
def fnSectionsRow : OpenClaim := { program := "ytlpahmefebgdlaa", sum := "52cd78b13e488d8d1c31a0eda14bd38059c587c11d8c5eb96c918e1d96364772", func := "loop.example/g01284/laws.FnSections", spec := "fnSections", inPlace := ["math.Float64bits", "math.Float64frombits", "math.sqrt"], unfollowed := true, recurses := true, apart := false }
def FnSectionsSaid : Prop := fnSectionsRow.holds Try.pinned (OpenSpec.ofChange fnSectionsSpec)

/-- ITS FALSE NEIGHBOUR: 'it returns false'. Refute it at one input. -/
def fnSectionsWrong : ChangeSpec := { name := "fnSections", fn := fun _ => fun
  | [d1, d2] => { results := [.lit (.bool false)], args := [d1, d2] }
  | _ => none }
def FnSectionsWrongFalsely : Prop := fnSectionsRow.holds Try.pinned (OpenSpec.ofChange fnSectionsWrong)

/-- 'laws.FnShips': WHATEVER THE INPUT: true; the input reads as it did. -/
def fnShipsSpec : ChangeSpec := { name := "fnShips", fn := fun _ => fun
  | [d1, d2] => { results := [.lit (.bool true)], args := [d1, d2] }
  | _ => none }
def fnShipsRow : OpenClaim := { program := "ytlpahmefebgdlaa", sum := "52cd78b13e488d8d1c31a0eda14bd38059c587c11d8c5eb96c918e1d96364772", func := "loop.example/g01284/laws.FnShips", spec := "fnShips", inPlace := ["math.Float64bits", "math.Float64frombits", "math.archTrunc", "math.sqrt"], apart := false }
def FnShipsSaid : Prop := fnShipsRow.holds Try.pinned (OpenSpec.ofChange fnShipsSpec)

/-- ITS FALSE NEIGHBOUR: 'it returns false'. Refute it at one input. -/
def fnShipsWrong : ChangeSpec := { name := "fnShips", fn := fun _ => fun
  | [d1, d2] => { results := [.lit (.bool false)], args := [d1, d2] }
  | _ => none }
def FnShipsWrongFalsely : Prop := fnShipsRow.holds Try.pinned (OpenSpec.ofChange fnShipsWrong)

/- THE SECOND FORM. 'bulk': how many values and letters a reading holds, each counted each time it is reached (what is shared counts as often as it is met; a slice's spare places count too). A statement '..UptoSaid' is the law's where the arguments, and the package variables that the reading takes, are together of bulk at most 1048576: NARROWER than '..Said'. Prove '..Said' where nothing that the law and all that it calls make is longer than what came in: it says more and counts as full. Else prove '..UptoSaid'. A law counts once. -/
mutual
def uptoBulk {H : Type} : DataW H → Nat
  | .lit (.string bytes) => bytes.length + 1
  | .lit _ => 1
  | .nil => 1
  | .ptr d => uptoBulk d + 1
  | .slice elems spare => uptoBulkAll elems + uptoBulkAll spare + 1
  | .agg parts => uptoBulkAll parts + 1
  | .iface _ d => uptoBulk d + 1
  | .map entries => uptoBulkEntries entries + 1
  | .held _ => 1
def uptoBulkAll {H : Type} : List (DataW H) → Nat
  | [] => 0
  | d :: r => uptoBulk d + uptoBulkAll r
def uptoBulkEntries {H : Type} : List (Lit × DataW H) → Nat
  | [] => 0
  | x :: r => uptoBulkEntry x + uptoBulkEntries r
def uptoBulkEntry {H : Type} : Lit × DataW H → Nat
  | (.string bytes, d) => bytes.length + uptoBulk d + 1
  | (_, d) => uptoBulk d + 1
 end
def uptoSmall : (H : Type) → List (DataW H) → Bool := fun _ ds => decide (uptoBulkAll ds ≤ 1048576)
def OpenSpec.upto (s : _root_.Go.ChangeSpec) : _root_.Go.OpenSpec := { _root_.Go.OpenSpec.ofChange s with cond := some uptoSmall }

/-- 'laws.FnRests', WHERE WHAT IT READS IS OF BULK AT MOST 1048576: true; the input reads as it did. -/
def fnRestsUptoRow : OpenClaim := { program := "ytlpahmefebgdlaa", sum := "52cd78b13e488d8d1c31a0eda14bd38059c587c11d8c5eb96c918e1d96364772", func := "loop.example/g01284/laws.FnRests", spec := "fnRests", inPlace := ["math.Float64bits", "math.Float64frombits", "math.sqrt"], unfollowed := true, recurses := true, apart := false, narrowed := true }
def FnRestsUptoSaid : Prop := fnRestsUptoRow.holds Try.pinned (OpenSpec.upto fnRestsSpec)

/-- 'laws.FnBurns', WHERE WHAT IT READS IS OF BULK AT MOST 1048576: true; the input reads as it did. -/
def fnBurnsUptoRow : OpenClaim := { program := "ytlpahmefebgdlaa", sum := "52cd78b13e488d8d1c31a0eda14bd38059c587c11d8c5eb96c918e1d96364772", func := "loop.example/g01284/laws.FnBurns", spec := "fnBurns", inPlace := ["math.Float64bits", "math.Float64frombits"], apart := false, narrowed := true }
def FnBurnsUptoSaid : Prop := fnBurnsUptoRow.holds Try.pinned (OpenSpec.upto fnBurnsSpec)

/-- 'laws.FnWindows', WHERE WHAT IT READS IS OF BULK AT MOST 1048576: true; the input reads as it did. -/
def fnWindowsUptoRow : OpenClaim := { program := "ytlpahmefebgdlaa", sum := "52cd78b13e488d8d1c31a0eda14bd38059c587c11d8c5eb96c918e1d96364772", func := "loop.example/g01284/laws.FnWindows", spec := "fnWindows", inPlace := ["math.Float64bits", "math.Float64frombits", "math.sqrt", "math.archFloor", "math.archTrunc"], apart := false, narrowed := true }
def FnWindowsUptoSaid : Prop := fnWindowsUptoRow.holds Try.pinned (OpenSpec.upto fnWindowsSpec)

/-- 'laws.FnSwings', WHERE WHAT IT READS IS OF BULK AT MOST 1048576: true; the input reads as it did. -/
def fnSwingsUptoRow : OpenClaim := { program := "ytlpahmefebgdlaa", sum := "52cd78b13e488d8d1c31a0eda14bd38059c587c11d8c5eb96c918e1d96364772", func := "loop.example/g01284/laws.FnSwings", spec := "fnSwings", inPlace := ["math.Float64bits", "math.Float64frombits", "math.archFloor", "math.archTrunc"], unfollowed := true, recurses := true, apart := false, narrowed := true }
def FnSwingsUptoSaid : Prop := fnSwingsUptoRow.holds Try.pinned (OpenSpec.upto fnSwingsSpec)

/-- 'laws.FnSections', WHERE WHAT IT READS IS OF BULK AT MOST 1048576: true; the input reads as it did. -/
def fnSectionsUptoRow : OpenClaim := { program := "ytlpahmefebgdlaa", sum := "52cd78b13e488d8d1c31a0eda14bd38059c587c11d8c5eb96c918e1d96364772", func := "loop.example/g01284/laws.FnSections", spec := "fnSections", inPlace := ["math.Float64bits", "math.Float64frombits", "math.sqrt"], unfollowed := true, recurses := true, apart := false, narrowed := true }
def FnSectionsUptoSaid : Prop := fnSectionsUptoRow.holds Try.pinned (OpenSpec.upto fnSectionsSpec)

/-- 'laws.FnShips', WHERE WHAT IT READS IS OF BULK AT MOST 1048576: true; the input reads as it did. -/
def fnShipsUptoRow : OpenClaim := { program := "ytlpahmefebgdlaa", sum := "52cd78b13e488d8d1c31a0eda14bd38059c587c11d8c5eb96c918e1d96364772", func := "loop.example/g01284/laws.FnShips", spec := "fnShips", inPlace := ["math.Float64bits", "math.Float64frombits", "math.archTrunc", "math.sqrt"], apart := false, narrowed := true }
def FnShipsUptoSaid : Prop := fnShipsUptoRow.holds Try.pinned (OpenSpec.upto fnShipsSpec)

end Rows
end Go.Proofs.Ytlpahmefebgdlaa
