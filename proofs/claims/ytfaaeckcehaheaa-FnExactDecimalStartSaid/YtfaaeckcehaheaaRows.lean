/-
  No cell of these rows narrows 'for every input' (looked for: loops, veiled, ifaces, maps, wideKeys, modest, calm, conditions, laid).
  DERIVED. THE GIVEN ROWS OF THIS SEAT. 11 by the template 'for every input the law returns true; each argument reads behind the call as it read before'; 0 by the template 'total and deterministic' (their statements: YtfaaeckcehaheaaTotals.lean).
  GIVEN WITH THE SEED: the statements are not yours to turn. If you find one false, say at which input.
  Laid BY PROGRAM, IN A SANDBOX (cutbox-rows.mjs): the forced cells as the released guide's own fill.sh prints them over the translation e6dd2c597489c914… (all of the seat's roots in one cut). By AI agents, Wed Nov 11 2026. No macro, syntax, notation, axiom, sorry.
-/
import Derived.Test.YtfaaeckcehaheaaChecked
import GoSem.Claim
import GoSem.ClaimJoined
import GoSem.ClaimMapViews
import Derived.JoinedTies
import Derived.KernelRfl
namespace Go.Proofs.Ytfaaeckcehaheaa
/- THE CELL 'sum', in the pinned program and in every row, IS THE sha256 OF THE DUMP (.gsa) THAT YtfaaeckcehaheaaProg.lean LOADS. Nothing in Lean hashes anything: it is a label: what it is worth is what the hold of that sum in a sandbox is worth. -/
noncomputable def Try.pinned : Pinned := { name := "ytfaaeckcehaheaa", sum := "e6dd2c597489c9147c93808407932140a7fdaebaaea4574b386ffba765bd7620", checked := Try.checked }
namespace Rows
def none {H : Type} : Left H := { results := [], args := [] }

/-- 'laws.FnExactValidRack': WHATEVER THE INPUT: true; the input reads as it did. -/
def fnExactValidRackSpec : ChangeSpec := { name := "fnExactValidRack", fn := fun _ => fun
  | [d] => { results := [.lit (.bool true)], args := [d] }
  | _ => none }
def fnExactValidRackRow : OpenClaim := { program := "ytfaaeckcehaheaa", sum := "e6dd2c597489c9147c93808407932140a7fdaebaaea4574b386ffba765bd7620", func := "loop.example/g01045/laws.FnExactValidRack", spec := "fnExactValidRack", apart := false }
def FnExactValidRackSaid : Prop := fnExactValidRackRow.holds Try.pinned (OpenSpec.ofChange fnExactValidRackSpec)

/-- ITS FALSE NEIGHBOUR: 'it returns false'. Refute it at one input. -/
def fnExactValidRackWrong : ChangeSpec := { name := "fnExactValidRack", fn := fun _ => fun
  | [d] => { results := [.lit (.bool false)], args := [d] }
  | _ => none }
def FnExactValidRackWrongFalsely : Prop := fnExactValidRackRow.holds Try.pinned (OpenSpec.ofChange fnExactValidRackWrong)

/-- 'laws.FnExactWidestGap': WHATEVER THE INPUT: true; the input reads as it did. -/
def fnExactWidestGapSpec : ChangeSpec := { name := "fnExactWidestGap", fn := fun _ => fun
  | [d1, d2, d3] => { results := [.lit (.bool true)], args := [d1, d2, d3] }
  | _ => none }
def fnExactWidestGapRow : OpenClaim := { program := "ytfaaeckcehaheaa", sum := "e6dd2c597489c9147c93808407932140a7fdaebaaea4574b386ffba765bd7620", func := "loop.example/g01045/laws.FnExactWidestGap", spec := "fnExactWidestGap", apart := false }
def FnExactWidestGapSaid : Prop := fnExactWidestGapRow.holds Try.pinned (OpenSpec.ofChange fnExactWidestGapSpec)

/-- ITS FALSE NEIGHBOUR: 'it returns false'. Refute it at one input. -/
def fnExactWidestGapWrong : ChangeSpec := { name := "fnExactWidestGap", fn := fun _ => fun
  | [d1, d2, d3] => { results := [.lit (.bool false)], args := [d1, d2, d3] }
  | _ => none }
def FnExactWidestGapWrongFalsely : Prop := fnExactWidestGapRow.holds Try.pinned (OpenSpec.ofChange fnExactWidestGapWrong)

/-- 'laws.FnExactRackText': WHATEVER THE INPUT: true; the input reads as it did. -/
def fnExactRackTextSpec : ChangeSpec := { name := "fnExactRackText", fn := fun _ => fun
  | [d] => { results := [.lit (.bool true)], args := [d] }
  | _ => none }
def fnExactRackTextRow : OpenClaim := { program := "ytfaaeckcehaheaa", sum := "e6dd2c597489c9147c93808407932140a7fdaebaaea4574b386ffba765bd7620", func := "loop.example/g01045/laws.FnExactRackText", spec := "fnExactRackText", apart := false }
def FnExactRackTextSaid : Prop := fnExactRackTextRow.holds Try.pinned (OpenSpec.ofChange fnExactRackTextSpec)

/-- ITS FALSE NEIGHBOUR: 'it returns false'. Refute it at one input. -/
def fnExactRackTextWrong : ChangeSpec := { name := "fnExactRackText", fn := fun _ => fun
  | [d] => { results := [.lit (.bool false)], args := [d] }
  | _ => none }
def FnExactRackTextWrongFalsely : Prop := fnExactRackTextRow.holds Try.pinned (OpenSpec.ofChange fnExactRackTextWrong)

/-- 'laws.FnExactNextStop': WHATEVER THE INPUT: true; the input reads as it did. -/
def fnExactNextStopSpec : ChangeSpec := { name := "fnExactNextStop", fn := fun _ => fun
  | [d1, d2] => { results := [.lit (.bool true)], args := [d1, d2] }
  | _ => none }
def fnExactNextStopRow : OpenClaim := { program := "ytfaaeckcehaheaa", sum := "e6dd2c597489c9147c93808407932140a7fdaebaaea4574b386ffba765bd7620", func := "loop.example/g01045/laws.FnExactNextStop", spec := "fnExactNextStop", apart := false }
def FnExactNextStopSaid : Prop := fnExactNextStopRow.holds Try.pinned (OpenSpec.ofChange fnExactNextStopSpec)

/-- ITS FALSE NEIGHBOUR: 'it returns false'. Refute it at one input. -/
def fnExactNextStopWrong : ChangeSpec := { name := "fnExactNextStop", fn := fun _ => fun
  | [d1, d2] => { results := [.lit (.bool false)], args := [d1, d2] }
  | _ => none }
def FnExactNextStopWrongFalsely : Prop := fnExactNextStopRow.holds Try.pinned (OpenSpec.ofChange fnExactNextStopWrong)

/-- 'laws.FnExactDecimalStart': WHATEVER THE INPUT: true; the input reads as it did. -/
def fnExactDecimalStartSpec : ChangeSpec := { name := "fnExactDecimalStart", fn := fun _ => fun
  | [d1, d2] => { results := [.lit (.bool true)], args := [d1, d2] }
  | _ => none }
def fnExactDecimalStartRow : OpenClaim := { program := "ytfaaeckcehaheaa", sum := "e6dd2c597489c9147c93808407932140a7fdaebaaea4574b386ffba765bd7620", func := "loop.example/g01045/laws.FnExactDecimalStart", spec := "fnExactDecimalStart", apart := false }
def FnExactDecimalStartSaid : Prop := fnExactDecimalStartRow.holds Try.pinned (OpenSpec.ofChange fnExactDecimalStartSpec)

/-- ITS FALSE NEIGHBOUR: 'it returns false'. Refute it at one input. -/
def fnExactDecimalStartWrong : ChangeSpec := { name := "fnExactDecimalStart", fn := fun _ => fun
  | [d1, d2] => { results := [.lit (.bool false)], args := [d1, d2] }
  | _ => none }
def FnExactDecimalStartWrongFalsely : Prop := fnExactDecimalStartRow.holds Try.pinned (OpenSpec.ofChange fnExactDecimalStartWrong)

/-- 'laws.FnExactStopsFor': WHATEVER THE INPUT: true; the input reads as it did. -/
def fnExactStopsForSpec : ChangeSpec := { name := "fnExactStopsFor", fn := fun _ => fun
  | [d1, d2, d3] => { results := [.lit (.bool true)], args := [d1, d2, d3] }
  | _ => none }
def fnExactStopsForRow : OpenClaim := { program := "ytfaaeckcehaheaa", sum := "e6dd2c597489c9147c93808407932140a7fdaebaaea4574b386ffba765bd7620", func := "loop.example/g01045/laws.FnExactStopsFor", spec := "fnExactStopsFor", apart := false }
def FnExactStopsForSaid : Prop := fnExactStopsForRow.holds Try.pinned (OpenSpec.ofChange fnExactStopsForSpec)

/-- ITS FALSE NEIGHBOUR: 'it returns false'. Refute it at one input. -/
def fnExactStopsForWrong : ChangeSpec := { name := "fnExactStopsFor", fn := fun _ => fun
  | [d1, d2, d3] => { results := [.lit (.bool false)], args := [d1, d2, d3] }
  | _ => none }
def FnExactStopsForWrongFalsely : Prop := fnExactStopsForRow.holds Try.pinned (OpenSpec.ofChange fnExactStopsForWrong)

/-- 'laws.FnExactClearStop': WHATEVER THE INPUT: true; the input reads as it did. -/
def fnExactClearStopSpec : ChangeSpec := { name := "fnExactClearStop", fn := fun _ => fun
  | [d1, d2] => { results := [.lit (.bool true)], args := [d1, d2] }
  | _ => none }
def fnExactClearStopRow : OpenClaim := { program := "ytfaaeckcehaheaa", sum := "e6dd2c597489c9147c93808407932140a7fdaebaaea4574b386ffba765bd7620", func := "loop.example/g01045/laws.FnExactClearStop", spec := "fnExactClearStop", apart := false }
def FnExactClearStopSaid : Prop := fnExactClearStopRow.holds Try.pinned (OpenSpec.ofChange fnExactClearStopSpec)

/-- ITS FALSE NEIGHBOUR: 'it returns false'. Refute it at one input. -/
def fnExactClearStopWrong : ChangeSpec := { name := "fnExactClearStop", fn := fun _ => fun
  | [d1, d2] => { results := [.lit (.bool false)], args := [d1, d2] }
  | _ => none }
def FnExactClearStopWrongFalsely : Prop := fnExactClearStopRow.holds Try.pinned (OpenSpec.ofChange fnExactClearStopWrong)

/-- 'laws.FnExactSetStop': WHATEVER THE INPUT: true; the input reads as it did. -/
def fnExactSetStopSpec : ChangeSpec := { name := "fnExactSetStop", fn := fun _ => fun
  | [d1, d2] => { results := [.lit (.bool true)], args := [d1, d2] }
  | _ => none }
def fnExactSetStopRow : OpenClaim := { program := "ytfaaeckcehaheaa", sum := "e6dd2c597489c9147c93808407932140a7fdaebaaea4574b386ffba765bd7620", func := "loop.example/g01045/laws.FnExactSetStop", spec := "fnExactSetStop", apart := false }
def FnExactSetStopSaid : Prop := fnExactSetStopRow.holds Try.pinned (OpenSpec.ofChange fnExactSetStopSpec)

/-- ITS FALSE NEIGHBOUR: 'it returns false'. Refute it at one input. -/
def fnExactSetStopWrong : ChangeSpec := { name := "fnExactSetStop", fn := fun _ => fun
  | [d1, d2] => { results := [.lit (.bool false)], args := [d1, d2] }
  | _ => none }
def FnExactSetStopWrongFalsely : Prop := fnExactSetStopRow.holds Try.pinned (OpenSpec.ofChange fnExactSetStopWrong)

/-- 'laws.FnExactAlignNumbers': WHATEVER THE INPUT: true; the input reads as it did. -/
def fnExactAlignNumbersSpec : ChangeSpec := { name := "fnExactAlignNumbers", fn := fun _ => fun
  | [d] => { results := [.lit (.bool true)], args := [d] }
  | _ => none }
def fnExactAlignNumbersRow : OpenClaim := { program := "ytfaaeckcehaheaa", sum := "e6dd2c597489c9147c93808407932140a7fdaebaaea4574b386ffba765bd7620", func := "loop.example/g01045/laws.FnExactAlignNumbers", spec := "fnExactAlignNumbers", apart := false }
def FnExactAlignNumbersSaid : Prop := fnExactAlignNumbersRow.holds Try.pinned (OpenSpec.ofChange fnExactAlignNumbersSpec)

/-- ITS FALSE NEIGHBOUR: 'it returns false'. Refute it at one input. -/
def fnExactAlignNumbersWrong : ChangeSpec := { name := "fnExactAlignNumbers", fn := fun _ => fun
  | [d] => { results := [.lit (.bool false)], args := [d] }
  | _ => none }
def FnExactAlignNumbersWrongFalsely : Prop := fnExactAlignNumbersRow.holds Try.pinned (OpenSpec.ofChange fnExactAlignNumbersWrong)

/-- 'laws.FnExactColumnWidths': WHATEVER THE INPUT: true; the input reads as it did. -/
def fnExactColumnWidthsSpec : ChangeSpec := { name := "fnExactColumnWidths", fn := fun _ => fun
  | [d] => { results := [.lit (.bool true)], args := [d] }
  | _ => none }
def fnExactColumnWidthsRow : OpenClaim := { program := "ytfaaeckcehaheaa", sum := "e6dd2c597489c9147c93808407932140a7fdaebaaea4574b386ffba765bd7620", func := "loop.example/g01045/laws.FnExactColumnWidths", spec := "fnExactColumnWidths", apart := false }
def FnExactColumnWidthsSaid : Prop := fnExactColumnWidthsRow.holds Try.pinned (OpenSpec.ofChange fnExactColumnWidthsSpec)

/-- ITS FALSE NEIGHBOUR: 'it returns false'. Refute it at one input. -/
def fnExactColumnWidthsWrong : ChangeSpec := { name := "fnExactColumnWidths", fn := fun _ => fun
  | [d] => { results := [.lit (.bool false)], args := [d] }
  | _ => none }
def FnExactColumnWidthsWrongFalsely : Prop := fnExactColumnWidthsRow.holds Try.pinned (OpenSpec.ofChange fnExactColumnWidthsWrong)

/-- 'laws.FnExactTableLines': WHATEVER THE INPUT: true; the input reads as it did. -/
def fnExactTableLinesSpec : ChangeSpec := { name := "fnExactTableLines", fn := fun _ => fun
  | [d1, d2, d3] => { results := [.lit (.bool true)], args := [d1, d2, d3] }
  | _ => none }
def fnExactTableLinesRow : OpenClaim := { program := "ytfaaeckcehaheaa", sum := "e6dd2c597489c9147c93808407932140a7fdaebaaea4574b386ffba765bd7620", func := "loop.example/g01045/laws.FnExactTableLines", spec := "fnExactTableLines", apart := false }
def FnExactTableLinesSaid : Prop := fnExactTableLinesRow.holds Try.pinned (OpenSpec.ofChange fnExactTableLinesSpec)

/-- ITS FALSE NEIGHBOUR: 'it returns false'. Refute it at one input. -/
def fnExactTableLinesWrong : ChangeSpec := { name := "fnExactTableLines", fn := fun _ => fun
  | [d1, d2, d3] => { results := [.lit (.bool false)], args := [d1, d2, d3] }
  | _ => none }
def FnExactTableLinesWrongFalsely : Prop := fnExactTableLinesRow.holds Try.pinned (OpenSpec.ofChange fnExactTableLinesWrong)

/- THE SECOND FORM. 'bulk': how many values and letters a reading holds, each counted each time it is reached (what is shared counts as often as it is met; a slice's spare places count too). A statement '..UptoSaid' is the law's where the arguments, and the package variables that the reading takes, are together of bulk at most 1048576: NARROWER than '..Said'. Prove '..Said' where nothing that the law and all that it calls make is longer than what came in: it says more and counts as full. Else prove '..UptoSaid'. A law counts once. -/
mutual
def uptoBulk {H : Type} : DataW H → Nat
  | .lit (.string bytes) => bytes.length + 1
  | .lit _ => 1
  | .nil => 1
  | .ptr d => uptoBulk d + 1
  | .slice elems spare => uptoBulkAll elems + uptoBulkAll spare + 1
  | .agg parts => uptoBulkAll parts + 1
  | .iface _ d => uptoBulk d + 1
  | .map entries => uptoBulkEntries entries + 1
  | .held _ => 1
def uptoBulkAll {H : Type} : List (DataW H) → Nat
  | [] => 0
  | d :: r => uptoBulk d + uptoBulkAll r
def uptoBulkEntries {H : Type} : List (Lit × DataW H) → Nat
  | [] => 0
  | x :: r => uptoBulkEntry x + uptoBulkEntries r
def uptoBulkEntry {H : Type} : Lit × DataW H → Nat
  | (.string bytes, d) => bytes.length + uptoBulk d + 1
  | (_, d) => uptoBulk d + 1
 end
def uptoSmall : (H : Type) → List (DataW H) → Bool := fun _ ds => decide (uptoBulkAll ds ≤ 1048576)
def OpenSpec.upto (s : _root_.Go.ChangeSpec) : _root_.Go.OpenSpec := { _root_.Go.OpenSpec.ofChange s with cond := some uptoSmall }

/-- 'laws.FnExactValidRack', WHERE WHAT IT READS IS OF BULK AT MOST 1048576: true; the input reads as it did. -/
def fnExactValidRackUptoRow : OpenClaim := { program := "ytfaaeckcehaheaa", sum := "e6dd2c597489c9147c93808407932140a7fdaebaaea4574b386ffba765bd7620", func := "loop.example/g01045/laws.FnExactValidRack", spec := "fnExactValidRack", apart := false, narrowed := true }
def FnExactValidRackUptoSaid : Prop := fnExactValidRackUptoRow.holds Try.pinned (OpenSpec.upto fnExactValidRackSpec)

/-- 'laws.FnExactWidestGap', WHERE WHAT IT READS IS OF BULK AT MOST 1048576: true; the input reads as it did. -/
def fnExactWidestGapUptoRow : OpenClaim := { program := "ytfaaeckcehaheaa", sum := "e6dd2c597489c9147c93808407932140a7fdaebaaea4574b386ffba765bd7620", func := "loop.example/g01045/laws.FnExactWidestGap", spec := "fnExactWidestGap", apart := false, narrowed := true }
def FnExactWidestGapUptoSaid : Prop := fnExactWidestGapUptoRow.holds Try.pinned (OpenSpec.upto fnExactWidestGapSpec)

/-- 'laws.FnExactRackText', WHERE WHAT IT READS IS OF BULK AT MOST 1048576: true; the input reads as it did. -/
def fnExactRackTextUptoRow : OpenClaim := { program := "ytfaaeckcehaheaa", sum := "e6dd2c597489c9147c93808407932140a7fdaebaaea4574b386ffba765bd7620", func := "loop.example/g01045/laws.FnExactRackText", spec := "fnExactRackText", apart := false, narrowed := true }
def FnExactRackTextUptoSaid : Prop := fnExactRackTextUptoRow.holds Try.pinned (OpenSpec.upto fnExactRackTextSpec)

/-- 'laws.FnExactNextStop', WHERE WHAT IT READS IS OF BULK AT MOST 1048576: true; the input reads as it did. -/
def fnExactNextStopUptoRow : OpenClaim := { program := "ytfaaeckcehaheaa", sum := "e6dd2c597489c9147c93808407932140a7fdaebaaea4574b386ffba765bd7620", func := "loop.example/g01045/laws.FnExactNextStop", spec := "fnExactNextStop", apart := false, narrowed := true }
def FnExactNextStopUptoSaid : Prop := fnExactNextStopUptoRow.holds Try.pinned (OpenSpec.upto fnExactNextStopSpec)

/-- 'laws.FnExactDecimalStart', WHERE WHAT IT READS IS OF BULK AT MOST 1048576: true; the input reads as it did. -/
def fnExactDecimalStartUptoRow : OpenClaim := { program := "ytfaaeckcehaheaa", sum := "e6dd2c597489c9147c93808407932140a7fdaebaaea4574b386ffba765bd7620", func := "loop.example/g01045/laws.FnExactDecimalStart", spec := "fnExactDecimalStart", apart := false, narrowed := true }
def FnExactDecimalStartUptoSaid : Prop := fnExactDecimalStartUptoRow.holds Try.pinned (OpenSpec.upto fnExactDecimalStartSpec)

/-- 'laws.FnExactStopsFor', WHERE WHAT IT READS IS OF BULK AT MOST 1048576: true; the input reads as it did. -/
def fnExactStopsForUptoRow : OpenClaim := { program := "ytfaaeckcehaheaa", sum := "e6dd2c597489c9147c93808407932140a7fdaebaaea4574b386ffba765bd7620", func := "loop.example/g01045/laws.FnExactStopsFor", spec := "fnExactStopsFor", apart := false, narrowed := true }
def FnExactStopsForUptoSaid : Prop := fnExactStopsForUptoRow.holds Try.pinned (OpenSpec.upto fnExactStopsForSpec)

/-- 'laws.FnExactClearStop', WHERE WHAT IT READS IS OF BULK AT MOST 1048576: true; the input reads as it did. -/
def fnExactClearStopUptoRow : OpenClaim := { program := "ytfaaeckcehaheaa", sum := "e6dd2c597489c9147c93808407932140a7fdaebaaea4574b386ffba765bd7620", func := "loop.example/g01045/laws.FnExactClearStop", spec := "fnExactClearStop", apart := false, narrowed := true }
def FnExactClearStopUptoSaid : Prop := fnExactClearStopUptoRow.holds Try.pinned (OpenSpec.upto fnExactClearStopSpec)

/-- 'laws.FnExactSetStop', WHERE WHAT IT READS IS OF BULK AT MOST 1048576: true; the input reads as it did. -/
def fnExactSetStopUptoRow : OpenClaim := { program := "ytfaaeckcehaheaa", sum := "e6dd2c597489c9147c93808407932140a7fdaebaaea4574b386ffba765bd7620", func := "loop.example/g01045/laws.FnExactSetStop", spec := "fnExactSetStop", apart := false, narrowed := true }
def FnExactSetStopUptoSaid : Prop := fnExactSetStopUptoRow.holds Try.pinned (OpenSpec.upto fnExactSetStopSpec)

/-- 'laws.FnExactAlignNumbers', WHERE WHAT IT READS IS OF BULK AT MOST 1048576: true; the input reads as it did. -/
def fnExactAlignNumbersUptoRow : OpenClaim := { program := "ytfaaeckcehaheaa", sum := "e6dd2c597489c9147c93808407932140a7fdaebaaea4574b386ffba765bd7620", func := "loop.example/g01045/laws.FnExactAlignNumbers", spec := "fnExactAlignNumbers", apart := false, narrowed := true }
def FnExactAlignNumbersUptoSaid : Prop := fnExactAlignNumbersUptoRow.holds Try.pinned (OpenSpec.upto fnExactAlignNumbersSpec)

/-- 'laws.FnExactColumnWidths', WHERE WHAT IT READS IS OF BULK AT MOST 1048576: true; the input reads as it did. -/
def fnExactColumnWidthsUptoRow : OpenClaim := { program := "ytfaaeckcehaheaa", sum := "e6dd2c597489c9147c93808407932140a7fdaebaaea4574b386ffba765bd7620", func := "loop.example/g01045/laws.FnExactColumnWidths", spec := "fnExactColumnWidths", apart := false, narrowed := true }
def FnExactColumnWidthsUptoSaid : Prop := fnExactColumnWidthsUptoRow.holds Try.pinned (OpenSpec.upto fnExactColumnWidthsSpec)

/-- 'laws.FnExactTableLines', WHERE WHAT IT READS IS OF BULK AT MOST 1048576: true; the input reads as it did. -/
def fnExactTableLinesUptoRow : OpenClaim := { program := "ytfaaeckcehaheaa", sum := "e6dd2c597489c9147c93808407932140a7fdaebaaea4574b386ffba765bd7620", func := "loop.example/g01045/laws.FnExactTableLines", spec := "fnExactTableLines", apart := false, narrowed := true }
def FnExactTableLinesUptoSaid : Prop := fnExactTableLinesUptoRow.holds Try.pinned (OpenSpec.upto fnExactTableLinesSpec)

end Rows
end Go.Proofs.Ytfaaeckcehaheaa
