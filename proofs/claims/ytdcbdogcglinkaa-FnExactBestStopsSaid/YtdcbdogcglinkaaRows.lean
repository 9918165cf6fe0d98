/-
  No cell of these rows narrows 'for every input' (looked for: loops, veiled, ifaces, maps, wideKeys, modest, calm, conditions, laid).
  DERIVED. THE GIVEN ROWS OF THIS SEAT. 9 by the template 'for every input the law returns true; each argument reads behind the call as it read before'; 0 by the template 'total and deterministic' (their statements: YtdcbdogcglinkaaTotals.lean).
  GIVEN WITH THE SEED: the statements are not yours to turn. If you find one false, say at which input.
  Laid BY PROGRAM, IN A SANDBOX (cutbox-rows.mjs): the forced cells as the released guide's own fill.sh prints them over the translation 03a926bf499cba99… (all of the seat's roots in one cut). By AI agents, Wed Nov 11 2026. No macro, syntax, notation, axiom, sorry.
-/
import Derived.Test.YtdcbdogcglinkaaChecked
import GoSem.Claim
import GoSem.ClaimJoined
import GoSem.ClaimMapViews
import Derived.JoinedTies
import Derived.KernelRfl
namespace Go.Proofs.Ytdcbdogcglinkaa
/- THE CELL 'sum', in the pinned program and in every row, IS THE sha256 OF THE DUMP (.gsa) THAT YtdcbdogcglinkaaProg.lean LOADS. Nothing in Lean hashes anything: it is a label: what it is worth is what the hold of that sum in a sandbox is worth. -/
noncomputable def Try.pinned : Pinned := { name := "ytdcbdogcglinkaa", sum := "03a926bf499cba99d1596c9e46e1b5efd4b85d896e1b1ef2cde07bc1466c6c86", checked := Try.checked }
namespace Rows
def none {H : Type} : Left H := { results := [], args := [] }

/-- 'laws.FnExactBestStops': WHATEVER THE INPUT: true; the input reads as it did. -/
def fnExactBestStopsSpec : ChangeSpec := { name := "fnExactBestStops", fn := fun _ => fun
  | [d1, d2] => { results := [.lit (.bool true)], args := [d1, d2] }
  | _ => none }
def fnExactBestStopsRow : OpenClaim := { program := "ytdcbdogcglinkaa", sum := "03a926bf499cba99d1596c9e46e1b5efd4b85d896e1b1ef2cde07bc1466c6c86", func := "loop.example/g01045/laws.FnExactBestStops", spec := "fnExactBestStops", recurses := true, apart := false }
def FnExactBestStopsSaid : Prop := fnExactBestStopsRow.holds Try.pinned (OpenSpec.ofChange fnExactBestStopsSpec)

/-- ITS FALSE NEIGHBOUR: 'it returns false'. Refute it at one input. -/
def fnExactBestStopsWrong : ChangeSpec := { name := "fnExactBestStops", fn := fun _ => fun
  | [d1, d2] => { results := [.lit (.bool false)], args := [d1, d2] }
  | _ => none }
def FnExactBestStopsWrongFalsely : Prop := fnExactBestStopsRow.holds Try.pinned (OpenSpec.ofChange fnExactBestStopsWrong)

/-- 'laws.FnExactValidStops': WHATEVER THE INPUT: true; the input reads as it did. -/
def fnExactValidStopsSpec : ChangeSpec := { name := "fnExactValidStops", fn := fun _ => fun
  | [d] => { results := [.lit (.bool true)], args := [d] }
  | _ => none }
def fnExactValidStopsRow : OpenClaim := { program := "ytdcbdogcglinkaa", sum := "03a926bf499cba99d1596c9e46e1b5efd4b85d896e1b1ef2cde07bc1466c6c86", func := "loop.example/g01045/laws.FnExactValidStops", spec := "fnExactValidStops", apart := false }
def FnExactValidStopsSaid : Prop := fnExactValidStopsRow.holds Try.pinned (OpenSpec.ofChange fnExactValidStopsSpec)

/-- ITS FALSE NEIGHBOUR: 'it returns false'. Refute it at one input. -/
def fnExactValidStopsWrong : ChangeSpec := { name := "fnExactValidStops", fn := fun _ => fun
  | [d] => { results := [.lit (.bool false)], args := [d] }
  | _ => none }
def FnExactValidStopsWrongFalsely : Prop := fnExactValidStopsRow.holds Try.pinned (OpenSpec.ofChange fnExactValidStopsWrong)

/-- 'laws.FnExactPlanMoves': WHATEVER THE INPUT: true; the input reads as it did. -/
def fnExactPlanMovesSpec : ChangeSpec := { name := "fnExactPlanMoves", fn := fun _ => fun
  | [d] => { results := [.lit (.bool true)], args := [d] }
  | _ => none }
def fnExactPlanMovesRow : OpenClaim := { program := "ytdcbdogcglinkaa", sum := "03a926bf499cba99d1596c9e46e1b5efd4b85d896e1b1ef2cde07bc1466c6c86", func := "loop.example/g01045/laws.FnExactPlanMoves", spec := "fnExactPlanMoves", apart := false }
def FnExactPlanMovesSaid : Prop := fnExactPlanMovesRow.holds Try.pinned (OpenSpec.ofChange fnExactPlanMovesSpec)

/-- ITS FALSE NEIGHBOUR: 'it returns false'. Refute it at one input. -/
def fnExactPlanMovesWrong : ChangeSpec := { name := "fnExactPlanMoves", fn := fun _ => fun
  | [d] => { results := [.lit (.bool false)], args := [d] }
  | _ => none }
def FnExactPlanMovesWrongFalsely : Prop := fnExactPlanMovesRow.holds Try.pinned (OpenSpec.ofChange fnExactPlanMovesWrong)

/-- 'laws.FnExactMovesBetween': WHATEVER THE INPUT: true; the input reads as it did. -/
def fnExactMovesBetweenSpec : ChangeSpec := { name := "fnExactMovesBetween", fn := fun _ => fun
  | [d1, d2, d3] => { results := [.lit (.bool true)], args := [d1, d2, d3] }
  | _ => none }
def fnExactMovesBetweenRow : OpenClaim := { program := "ytdcbdogcglinkaa", sum := "03a926bf499cba99d1596c9e46e1b5efd4b85d896e1b1ef2cde07bc1466c6c86", func := "loop.example/g01045/laws.FnExactMovesBetween", spec := "fnExactMovesBetween", apart := false }
def FnExactMovesBetweenSaid : Prop := fnExactMovesBetweenRow.holds Try.pinned (OpenSpec.ofChange fnExactMovesBetweenSpec)

/-- ITS FALSE NEIGHBOUR: 'it returns false'. Refute it at one input. -/
def fnExactMovesBetweenWrong : ChangeSpec := { name := "fnExactMovesBetween", fn := fun _ => fun
  | [d1, d2, d3] => { results := [.lit (.bool false)], args := [d1, d2, d3] }
  | _ => none }
def FnExactMovesBetweenWrongFalsely : Prop := fnExactMovesBetweenRow.holds Try.pinned (OpenSpec.ofChange fnExactMovesBetweenWrong)

/-- 'laws.FnExactRunPlan': WHATEVER THE INPUT: true; the input reads as it did. -/
def fnExactRunPlanSpec : ChangeSpec := { name := "fnExactRunPlan", fn := fun _ => fun
  | [d1, d2] => { results := [.lit (.bool true)], args := [d1, d2] }
  | _ => none }
def fnExactRunPlanRow : OpenClaim := { program := "ytdcbdogcglinkaa", sum := "03a926bf499cba99d1596c9e46e1b5efd4b85d896e1b1ef2cde07bc1466c6c86", func := "loop.example/g01045/laws.FnExactRunPlan", spec := "fnExactRunPlan", apart := false }
def FnExactRunPlanSaid : Prop := fnExactRunPlanRow.holds Try.pinned (OpenSpec.ofChange fnExactRunPlanSpec)

/-- ITS FALSE NEIGHBOUR: 'it returns false'. Refute it at one input. -/
def fnExactRunPlanWrong : ChangeSpec := { name := "fnExactRunPlan", fn := fun _ => fun
  | [d1, d2] => { results := [.lit (.bool false)], args := [d1, d2] }
  | _ => none }
def FnExactRunPlanWrongFalsely : Prop := fnExactRunPlanRow.holds Try.pinned (OpenSpec.ofChange fnExactRunPlanWrong)

/-- 'laws.FnExactStartsOf': WHATEVER THE INPUT: true; the input reads as it did. -/
def fnExactStartsOfSpec : ChangeSpec := { name := "fnExactStartsOf", fn := fun _ => fun
  | [d] => { results := [.lit (.bool true)], args := [d] }
  | _ => none }
def fnExactStartsOfRow : OpenClaim := { program := "ytdcbdogcglinkaa", sum := "03a926bf499cba99d1596c9e46e1b5efd4b85d896e1b1ef2cde07bc1466c6c86", func := "loop.example/g01045/laws.FnExactStartsOf", spec := "fnExactStartsOf", apart := false }
def FnExactStartsOfSaid : Prop := fnExactStartsOfRow.holds Try.pinned (OpenSpec.ofChange fnExactStartsOfSpec)

/-- ITS FALSE NEIGHBOUR: 'it returns false'. Refute it at one input. -/
def fnExactStartsOfWrong : ChangeSpec := { name := "fnExactStartsOf", fn := fun _ => fun
  | [d] => { results := [.lit (.bool false)], args := [d] }
  | _ => none }
def FnExactStartsOfWrongFalsely : Prop := fnExactStartsOfRow.holds Try.pinned (OpenSpec.ofChange fnExactStartsOfWrong)

/-- 'laws.FnExactPlanBetween': WHATEVER THE INPUT: true; the input reads as it did. -/
def fnExactPlanBetweenSpec : ChangeSpec := { name := "fnExactPlanBetween", fn := fun _ => fun
  | [d1, d2, d3] => { results := [.lit (.bool true)], args := [d1, d2, d3] }
  | _ => none }
def fnExactPlanBetweenRow : OpenClaim := { program := "ytdcbdogcglinkaa", sum := "03a926bf499cba99d1596c9e46e1b5efd4b85d896e1b1ef2cde07bc1466c6c86", func := "loop.example/g01045/laws.FnExactPlanBetween", spec := "fnExactPlanBetween", apart := false }
def FnExactPlanBetweenSaid : Prop := fnExactPlanBetweenRow.holds Try.pinned (OpenSpec.ofChange fnExactPlanBetweenSpec)

/-- ITS FALSE NEIGHBOUR: 'it returns false'. Refute it at one input. -/
def fnExactPlanBetweenWrong : ChangeSpec := { name := "fnExactPlanBetween", fn := fun _ => fun
  | [d1, d2, d3] => { results := [.lit (.bool false)], args := [d1, d2, d3] }
  | _ => none }
def FnExactPlanBetweenWrongFalsely : Prop := fnExactPlanBetweenRow.holds Try.pinned (OpenSpec.ofChange fnExactPlanBetweenWrong)

/-- 'laws.FnExactRowPlan': WHATEVER THE INPUT: true; the input reads as it did. -/
def fnExactRowPlanSpec : ChangeSpec := { name := "fnExactRowPlan", fn := fun _ => fun
  | [d1, d2] => { results := [.lit (.bool true)], args := [d1, d2] }
  | _ => none }
def fnExactRowPlanRow : OpenClaim := { program := "ytdcbdogcglinkaa", sum := "03a926bf499cba99d1596c9e46e1b5efd4b85d896e1b1ef2cde07bc1466c6c86", func := "loop.example/g01045/laws.FnExactRowPlan", spec := "fnExactRowPlan", apart := false }
def FnExactRowPlanSaid : Prop := fnExactRowPlanRow.holds Try.pinned (OpenSpec.ofChange fnExactRowPlanSpec)

/-- ITS FALSE NEIGHBOUR: 'it returns false'. Refute it at one input. -/
def fnExactRowPlanWrong : ChangeSpec := { name := "fnExactRowPlan", fn := fun _ => fun
  | [d1, d2] => { results := [.lit (.bool false)], args := [d1, d2] }
  | _ => none }
def FnExactRowPlanWrongFalsely : Prop := fnExactRowPlanRow.holds Try.pinned (OpenSpec.ofChange fnExactRowPlanWrong)

/-- 'laws.FnExactPageMoves': WHATEVER THE INPUT: true; the input reads as it did. -/
def fnExactPageMovesSpec : ChangeSpec := { name := "fnExactPageMoves", fn := fun _ => fun
  | [d1, d2] => { results := [.lit (.bool true)], args := [d1, d2] }
  | _ => none }
def fnExactPageMovesRow : OpenClaim := { program := "ytdcbdogcglinkaa", sum := "03a926bf499cba99d1596c9e46e1b5efd4b85d896e1b1ef2cde07bc1466c6c86", func := "loop.example/g01045/laws.FnExactPageMoves", spec := "fnExactPageMoves", apart := false }
def FnExactPageMovesSaid : Prop := fnExactPageMovesRow.holds Try.pinned (OpenSpec.ofChange fnExactPageMovesSpec)

/-- ITS FALSE NEIGHBOUR: 'it returns false'. Refute it at one input. -/
def fnExactPageMovesWrong : ChangeSpec := { name := "fnExactPageMoves", fn := fun _ => fun
  | [d1, d2] => { results := [.lit (.bool false)], args := [d1, d2] }
  | _ => none }
def FnExactPageMovesWrongFalsely : Prop := fnExactPageMovesRow.holds Try.pinned (OpenSpec.ofChange fnExactPageMovesWrong)

/- THE SECOND FORM. 'bulk': how many values and letters a reading holds, each counted each time it is reached (what is shared counts as often as it is met; a slice's spare places count too). A statement '..UptoSaid' is the law's where the arguments, and the package variables that the reading takes, are together of bulk at most 1048576: NARROWER than '..Said'. Prove '..Said' where nothing that the law and all that it calls make is longer than what came in: it says more and counts as full. Else prove '..UptoSaid'. A law counts once. -/
mutual
def uptoBulk {H : Type} : DataW H → Nat
  | .lit (.string bytes) => bytes.length + 1
  | .lit _ => 1
  | .nil => 1
  | .ptr d => uptoBulk d + 1
  | .slice elems spare => uptoBulkAll elems + uptoBulkAll spare + 1
  | .agg parts => uptoBulkAll parts + 1
  | .iface _ d => uptoBulk d + 1
  | .map entries => uptoBulkEntries entries + 1
  | .held _ => 1
def uptoBulkAll {H : Type} : List (DataW H) → Nat
  | [] => 0
  | d :: r => uptoBulk d + uptoBulkAll r
def uptoBulkEntries {H : Type} : List (Lit × DataW H) → Nat
  | [] => 0
  | x :: r => uptoBulkEntry x + uptoBulkEntries r
def uptoBulkEntry {H : Type} : Lit × DataW H → Nat
  | (.string bytes, d) => bytes.length + uptoBulk d + 1
  | (_, d) => uptoBulk d + 1
 end
def uptoSmall : (H : Type) → List (DataW H) → Bool := fun _ ds => decide (uptoBulkAll ds ≤ 1048576)
def OpenSpec.upto (s : _root_.Go.ChangeSpec) : _root_.Go.OpenSpec := { _root_.Go.OpenSpec.ofChange s with cond := some uptoSmall }

/-- 'laws.FnExactBestStops', WHERE WHAT IT READS IS OF BULK AT MOST 1048576: true; the input reads as it did. -/
def fnExactBestStopsUptoRow : OpenClaim := { program := "ytdcbdogcglinkaa", sum := "03a926bf499cba99d1596c9e46e1b5efd4b85d896e1b1ef2cde07bc1466c6c86", func := "loop.example/g01045/laws.FnExactBestStops", spec := "fnExactBestStops", recurses := true, apart := false, narrowed := true }
def FnExactBestStopsUptoSaid : Prop := fnExactBestStopsUptoRow.holds Try.pinned (OpenSpec.upto fnExactBestStopsSpec)

/-- 'laws.FnExactValidStops', WHERE WHAT IT READS IS OF BULK AT MOST 1048576: true; the input reads as it did. -/
def fnExactValidStopsUptoRow : OpenClaim := { program := "ytdcbdogcglinkaa", sum := "03a926bf499cba99d1596c9e46e1b5efd4b85d896e1b1ef2cde07bc1466c6c86", func := "loop.example/g01045/laws.FnExactValidStops", spec := "fnExactValidStops", apart := false, narrowed := true }
def FnExactValidStopsUptoSaid : Prop := fnExactValidStopsUptoRow.holds Try.pinned (OpenSpec.upto fnExactValidStopsSpec)

/-- 'laws.FnExactPlanMoves', WHERE WHAT IT READS IS OF BULK AT MOST 1048576: true; the input reads as it did. -/
def fnExactPlanMovesUptoRow : OpenClaim := { program := "ytdcbdogcglinkaa", sum := "03a926bf499cba99d1596c9e46e1b5efd4b85d896e1b1ef2cde07bc1466c6c86", func := "loop.example/g01045/laws.FnExactPlanMoves", spec := "fnExactPlanMoves", apart := false, narrowed := true }
def FnExactPlanMovesUptoSaid : Prop := fnExactPlanMovesUptoRow.holds Try.pinned (OpenSpec.upto fnExactPlanMovesSpec)

/-- 'laws.FnExactMovesBetween', WHERE WHAT IT READS IS OF BULK AT MOST 1048576: true; the input reads as it did. -/
def fnExactMovesBetweenUptoRow : OpenClaim := { program := "ytdcbdogcglinkaa", sum := "03a926bf499cba99d1596c9e46e1b5efd4b85d896e1b1ef2cde07bc1466c6c86", func := "loop.example/g01045/laws.FnExactMovesBetween", spec := "fnExactMovesBetween", apart := false, narrowed := true }
def FnExactMovesBetweenUptoSaid : Prop := fnExactMovesBetweenUptoRow.holds Try.pinned (OpenSpec.upto fnExactMovesBetweenSpec)

/-- 'laws.FnExactRunPlan', WHERE WHAT IT READS IS OF BULK AT MOST 1048576: true; the input reads as it did. -/
def fnExactRunPlanUptoRow : OpenClaim := { program := "ytdcbdogcglinkaa", sum := "03a926bf499cba99d1596c9e46e1b5efd4b85d896e1b1ef2cde07bc1466c6c86", func := "loop.example/g01045/laws.FnExactRunPlan", spec := "fnExactRunPlan", apart := false, narrowed := true }
def FnExactRunPlanUptoSaid : Prop := fnExactRunPlanUptoRow.holds Try.pinned (OpenSpec.upto fnExactRunPlanSpec)

/-- 'laws.FnExactStartsOf', WHERE WHAT IT READS IS OF BULK AT MOST 1048576: true; the input reads as it did. -/
def fnExactStartsOfUptoRow : OpenClaim := { program := "ytdcbdogcglinkaa", sum := "03a926bf499cba99d1596c9e46e1b5efd4b85d896e1b1ef2cde07bc1466c6c86", func := "loop.example/g01045/laws.FnExactStartsOf", spec := "fnExactStartsOf", apart := false, narrowed := true }
def FnExactStartsOfUptoSaid : Prop := fnExactStartsOfUptoRow.holds Try.pinned (OpenSpec.upto fnExactStartsOfSpec)

/-- 'laws.FnExactPlanBetween', WHERE WHAT IT READS IS OF BULK AT MOST 1048576: true; the input reads as it did. -/
def fnExactPlanBetweenUptoRow : OpenClaim := { program := "ytdcbdogcglinkaa", sum := "03a926bf499cba99d1596c9e46e1b5efd4b85d896e1b1ef2cde07bc1466c6c86", func := "loop.example/g01045/laws.FnExactPlanBetween", spec := "fnExactPlanBetween", apart := false, narrowed := true }
def FnExactPlanBetweenUptoSaid : Prop := fnExactPlanBetweenUptoRow.holds Try.pinned (OpenSpec.upto fnExactPlanBetweenSpec)

/-- 'laws.FnExactRowPlan', WHERE WHAT IT READS IS OF BULK AT MOST 1048576: true; the input reads as it did. -/
def fnExactRowPlanUptoRow : OpenClaim := { program := "ytdcbdogcglinkaa", sum := "03a926bf499cba99d1596c9e46e1b5efd4b85d896e1b1ef2cde07bc1466c6c86", func := "loop.example/g01045/laws.FnExactRowPlan", spec := "fnExactRowPlan", apart := false, narrowed := true }
def FnExactRowPlanUptoSaid : Prop := fnExactRowPlanUptoRow.holds Try.pinned (OpenSpec.upto fnExactRowPlanSpec)

/-- 'laws.FnExactPageMoves', WHERE WHAT IT READS IS OF BULK AT MOST 1048576: true; the input reads as it did. -/
def fnExactPageMovesUptoRow : OpenClaim := { program := "ytdcbdogcglinkaa", sum := "03a926bf499cba99d1596c9e46e1b5efd4b85d896e1b1ef2cde07bc1466c6c86", func := "loop.example/g01045/laws.FnExactPageMoves", spec := "fnExactPageMoves", apart := false, narrowed := true }
def FnExactPageMovesUptoSaid : Prop := fnExactPageMovesUptoRow.holds Try.pinned (OpenSpec.upto fnExactPageMovesSpec)

end Rows
end Go.Proofs.Ytdcbdogcglinkaa
