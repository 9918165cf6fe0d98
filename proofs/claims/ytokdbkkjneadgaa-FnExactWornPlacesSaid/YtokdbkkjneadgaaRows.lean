/-
  No cell of these rows narrows 'for every input' (looked for: loops, veiled, ifaces, maps, wideKeys, modest, calm, conditions, laid).
  DERIVED. THE GIVEN ROWS OF THIS SEAT. 12 by the template 'for every input the law returns true; each argument reads behind the call as it read before'; 0 by the template 'total and deterministic' (their statements: YtokdbkkjneadgaaTotals.lean).
  GIVEN WITH THE SEED: the statements are not yours to turn. If you find one false, say at which input.
  Laid BY PROGRAM, IN A SANDBOX (cutbox-rows.mjs): the forced cells as the released guide's own fill.sh prints them over the translation 7c07f4ba2d8665b7… (all of the seat's roots in one cut). By AI agents, Wed Nov 11 2026. No macro, syntax, notation, axiom, sorry.
-/
import Derived.Test.YtokdbkkjneadgaaChecked
import GoSem.Claim
import GoSem.ClaimJoined
import GoSem.ClaimMapViews
import Derived.JoinedTies
import Derived.KernelRfl
namespace Go.Proofs.Ytokdbkkjneadgaa
/- THE CELL 'sum', in the pinned program and in every row, IS THE sha256 OF THE DUMP (.gsa) THAT YtokdbkkjneadgaaProg.lean LOADS. Nothing in Lean hashes anything: it is a label: what it is worth is what the hold of that sum in a sandbox is worth. -/
noncomputable def Try.pinned : Pinned := { name := "ytokdbkkjneadgaa", sum := "7c07f4ba2d8665b75107ddd535447090aada9b2ae23879117f47372919def27d", checked := Try.checked }
namespace Rows
def none {H : Type} : Left H := { results := [], args := [] }

/-- 'laws.FnExactErasedIn': WHATEVER THE INPUT: true; the input reads as it did. -/
def fnExactErasedInSpec : ChangeSpec := { name := "fnExactErasedIn", fn := fun _ => fun
  | [d] => { results := [.lit (.bool true)], args := [d] }
  | _ => none }
def fnExactErasedInRow : OpenClaim := { program := "ytokdbkkjneadgaa", sum := "7c07f4ba2d8665b75107ddd535447090aada9b2ae23879117f47372919def27d", func := "loop.example/g01045/laws.FnExactErasedIn", spec := "fnExactErasedIn", apart := false }
def FnExactErasedInSaid : Prop := fnExactErasedInRow.holds Try.pinned (OpenSpec.ofChange fnExactErasedInSpec)

/-- ITS FALSE NEIGHBOUR: 'it returns false'. Refute it at one input. -/
def fnExactErasedInWrong : ChangeSpec := { name := "fnExactErasedIn", fn := fun _ => fun
  | [d] => { results := [.lit (.bool false)], args := [d] }
  | _ => none }
def FnExactErasedInWrongFalsely : Prop := fnExactErasedInRow.holds Try.pinned (OpenSpec.ofChange fnExactErasedInWrong)

/-- 'laws.FnExactReadOver': WHATEVER THE INPUT: true; the input reads as it did. -/
def fnExactReadOverSpec : ChangeSpec := { name := "fnExactReadOver", fn := fun _ => fun
  | [d] => { results := [.lit (.bool true)], args := [d] }
  | _ => none }
def fnExactReadOverRow : OpenClaim := { program := "ytokdbkkjneadgaa", sum := "7c07f4ba2d8665b75107ddd535447090aada9b2ae23879117f47372919def27d", func := "loop.example/g01045/laws.FnExactReadOver", spec := "fnExactReadOver", apart := false }
def FnExactReadOverSaid : Prop := fnExactReadOverRow.holds Try.pinned (OpenSpec.ofChange fnExactReadOverSpec)

/-- ITS FALSE NEIGHBOUR: 'it returns false'. Refute it at one input. -/
def fnExactReadOverWrong : ChangeSpec := { name := "fnExactReadOver", fn := fun _ => fun
  | [d] => { results := [.lit (.bool false)], args := [d] }
  | _ => none }
def FnExactReadOverWrongFalsely : Prop := fnExactReadOverRow.holds Try.pinned (OpenSpec.ofChange fnExactReadOverWrong)

/-- 'laws.FnExactOverText': WHATEVER THE INPUT: true; the input reads as it did. -/
def fnExactOverTextSpec : ChangeSpec := { name := "fnExactOverText", fn := fun _ => fun
  | [d] => { results := [.lit (.bool true)], args := [d] }
  | _ => none }
def fnExactOverTextRow : OpenClaim := { program := "ytokdbkkjneadgaa", sum := "7c07f4ba2d8665b75107ddd535447090aada9b2ae23879117f47372919def27d", func := "loop.example/g01045/laws.FnExactOverText", spec := "fnExactOverText", apart := false }
def FnExactOverTextSaid : Prop := fnExactOverTextRow.holds Try.pinned (OpenSpec.ofChange fnExactOverTextSpec)

/-- ITS FALSE NEIGHBOUR: 'it returns false'. Refute it at one input. -/
def fnExactOverTextWrong : ChangeSpec := { name := "fnExactOverText", fn := fun _ => fun
  | [d] => { results := [.lit (.bool false)], args := [d] }
  | _ => none }
def FnExactOverTextWrongFalsely : Prop := fnExactOverTextRow.holds Try.pinned (OpenSpec.ofChange fnExactOverTextWrong)

/-- 'laws.FnExactShiftedMatch': WHATEVER THE INPUT: true; the input reads as it did. -/
def fnExactShiftedMatchSpec : ChangeSpec := { name := "fnExactShiftedMatch", fn := fun _ => fun
  | [d1, d2, d3] => { results := [.lit (.bool true)], args := [d1, d2, d3] }
  | _ => none }
def fnExactShiftedMatchRow : OpenClaim := { program := "ytokdbkkjneadgaa", sum := "7c07f4ba2d8665b75107ddd535447090aada9b2ae23879117f47372919def27d", func := "loop.example/g01045/laws.FnExactShiftedMatch", spec := "fnExactShiftedMatch", apart := false }
def FnExactShiftedMatchSaid : Prop := fnExactShiftedMatchRow.holds Try.pinned (OpenSpec.ofChange fnExactShiftedMatchSpec)

/-- ITS FALSE NEIGHBOUR: 'it returns false'. Refute it at one input. -/
def fnExactShiftedMatchWrong : ChangeSpec := { name := "fnExactShiftedMatch", fn := fun _ => fun
  | [d1, d2, d3] => { results := [.lit (.bool false)], args := [d1, d2, d3] }
  | _ => none }
def FnExactShiftedMatchWrongFalsely : Prop := fnExactShiftedMatchRow.holds Try.pinned (OpenSpec.ofChange fnExactShiftedMatchWrong)

/-- 'laws.FnExactWrongPlaces': WHATEVER THE INPUT: true; the input reads as it did. -/
def fnExactWrongPlacesSpec : ChangeSpec := { name := "fnExactWrongPlaces", fn := fun _ => fun
  | [d1, d2] => { results := [.lit (.bool true)], args := [d1, d2] }
  | _ => none }
def fnExactWrongPlacesRow : OpenClaim := { program := "ytokdbkkjneadgaa", sum := "7c07f4ba2d8665b75107ddd535447090aada9b2ae23879117f47372919def27d", func := "loop.example/g01045/laws.FnExactWrongPlaces", spec := "fnExactWrongPlaces", apart := false }
def FnExactWrongPlacesSaid : Prop := fnExactWrongPlacesRow.holds Try.pinned (OpenSpec.ofChange fnExactWrongPlacesSpec)

/-- ITS FALSE NEIGHBOUR: 'it returns false'. Refute it at one input. -/
def fnExactWrongPlacesWrong : ChangeSpec := { name := "fnExactWrongPlaces", fn := fun _ => fun
  | [d1, d2] => { results := [.lit (.bool false)], args := [d1, d2] }
  | _ => none }
def FnExactWrongPlacesWrongFalsely : Prop := fnExactWrongPlacesRow.holds Try.pinned (OpenSpec.ofChange fnExactWrongPlacesWrong)

/-- 'laws.FnExactValidOvers': WHATEVER THE INPUT: true; the input reads as it did. -/
def fnExactValidOversSpec : ChangeSpec := { name := "fnExactValidOvers", fn := fun _ => fun
  | [d] => { results := [.lit (.bool true)], args := [d] }
  | _ => none }
def fnExactValidOversRow : OpenClaim := { program := "ytokdbkkjneadgaa", sum := "7c07f4ba2d8665b75107ddd535447090aada9b2ae23879117f47372919def27d", func := "loop.example/g01045/laws.FnExactValidOvers", spec := "fnExactValidOvers", apart := false }
def FnExactValidOversSaid : Prop := fnExactValidOversRow.holds Try.pinned (OpenSpec.ofChange fnExactValidOversSpec)

/-- ITS FALSE NEIGHBOUR: 'it returns false'. Refute it at one input. -/
def fnExactValidOversWrong : ChangeSpec := { name := "fnExactValidOvers", fn := fun _ => fun
  | [d] => { results := [.lit (.bool false)], args := [d] }
  | _ => none }
def FnExactValidOversWrongFalsely : Prop := fnExactValidOversRow.holds Try.pinned (OpenSpec.ofChange fnExactValidOversWrong)

/-- 'laws.FnExactWornPlaces': WHATEVER THE INPUT: true; the input reads as it did. -/
def fnExactWornPlacesSpec : ChangeSpec := { name := "fnExactWornPlaces", fn := fun _ => fun
  | [d] => { results := [.lit (.bool true)], args := [d] }
  | _ => none }
def fnExactWornPlacesRow : OpenClaim := { program := "ytokdbkkjneadgaa", sum := "7c07f4ba2d8665b75107ddd535447090aada9b2ae23879117f47372919def27d", func := "loop.example/g01045/laws.FnExactWornPlaces", spec := "fnExactWornPlaces", apart := false }
def FnExactWornPlacesSaid : Prop := fnExactWornPlacesRow.holds Try.pinned (OpenSpec.ofChange fnExactWornPlacesSpec)

/-- ITS FALSE NEIGHBOUR: 'it returns false'. Refute it at one input. -/
def fnExactWornPlacesWrong : ChangeSpec := { name := "fnExactWornPlaces", fn := fun _ => fun
  | [d] => { results := [.lit (.bool false)], args := [d] }
  | _ => none }
def FnExactWornPlacesWrongFalsely : Prop := fnExactWornPlacesRow.holds Try.pinned (OpenSpec.ofChange fnExactWornPlacesWrong)

/-- 'laws.FnExactSeenOver': WHATEVER THE INPUT: true; the input reads as it did. -/
def fnExactSeenOverSpec : ChangeSpec := { name := "fnExactSeenOver", fn := fun _ => fun
  | [d1, d2, d3] => { results := [.lit (.bool true)], args := [d1, d2, d3] }
  | _ => none }
def fnExactSeenOverRow : OpenClaim := { program := "ytokdbkkjneadgaa", sum := "7c07f4ba2d8665b75107ddd535447090aada9b2ae23879117f47372919def27d", func := "loop.example/g01045/laws.FnExactSeenOver", spec := "fnExactSeenOver", apart := false }
def FnExactSeenOverSaid : Prop := fnExactSeenOverRow.holds Try.pinned (OpenSpec.ofChange fnExactSeenOverSpec)

/-- ITS FALSE NEIGHBOUR: 'it returns false'. Refute it at one input. -/
def fnExactSeenOverWrong : ChangeSpec := { name := "fnExactSeenOver", fn := fun _ => fun
  | [d1, d2, d3] => { results := [.lit (.bool false)], args := [d1, d2, d3] }
  | _ => none }
def FnExactSeenOverWrongFalsely : Prop := fnExactSeenOverRow.holds Try.pinned (OpenSpec.ofChange fnExactSeenOverWrong)

/-- 'laws.FnExactCorrectionPlan': WHATEVER THE INPUT: true; the input reads as it did. -/
def fnExactCorrectionPlanSpec : ChangeSpec := { name := "fnExactCorrectionPlan", fn := fun _ => fun
  | [d1, d2, d3] => { results := [.lit (.bool true)], args := [d1, d2, d3] }
  | _ => none }
def fnExactCorrectionPlanRow : OpenClaim := { program := "ytokdbkkjneadgaa", sum := "7c07f4ba2d8665b75107ddd535447090aada9b2ae23879117f47372919def27d", func := "loop.example/g01045/laws.FnExactCorrectionPlan", spec := "fnExactCorrectionPlan", apart := false }
def FnExactCorrectionPlanSaid : Prop := fnExactCorrectionPlanRow.holds Try.pinned (OpenSpec.ofChange fnExactCorrectionPlanSpec)

/-- ITS FALSE NEIGHBOUR: 'it returns false'. Refute it at one input. -/
def fnExactCorrectionPlanWrong : ChangeSpec := { name := "fnExactCorrectionPlan", fn := fun _ => fun
  | [d1, d2, d3] => { results := [.lit (.bool false)], args := [d1, d2, d3] }
  | _ => none }
def FnExactCorrectionPlanWrongFalsely : Prop := fnExactCorrectionPlanRow.holds Try.pinned (OpenSpec.ofChange fnExactCorrectionPlanWrong)

/-- 'laws.FnExactDearestPair': WHATEVER THE INPUT: true; the input reads as it did. -/
def fnExactDearestPairSpec : ChangeSpec := { name := "fnExactDearestPair", fn := fun _ => fun
  | [d1, d2, d3] => { results := [.lit (.bool true)], args := [d1, d2, d3] }
  | _ => none }
def fnExactDearestPairRow : OpenClaim := { program := "ytokdbkkjneadgaa", sum := "7c07f4ba2d8665b75107ddd535447090aada9b2ae23879117f47372919def27d", func := "loop.example/g01045/laws.FnExactDearestPair", spec := "fnExactDearestPair", apart := false }
def FnExactDearestPairSaid : Prop := fnExactDearestPairRow.holds Try.pinned (OpenSpec.ofChange fnExactDearestPairSpec)

/-- ITS FALSE NEIGHBOUR: 'it returns false'. Refute it at one input. -/
def fnExactDearestPairWrong : ChangeSpec := { name := "fnExactDearestPair", fn := fun _ => fun
  | [d1, d2, d3] => { results := [.lit (.bool false)], args := [d1, d2, d3] }
  | _ => none }
def FnExactDearestPairWrongFalsely : Prop := fnExactDearestPairRow.holds Try.pinned (OpenSpec.ofChange fnExactDearestPairWrong)

/-- 'laws.FnExactFewestErased': WHATEVER THE INPUT: true; the input reads as it did. -/
def fnExactFewestErasedSpec : ChangeSpec := { name := "fnExactFewestErased", fn := fun _ => fun
  | [d1, d2, d3] => { results := [.lit (.bool true)], args := [d1, d2, d3] }
  | _ => none }
def fnExactFewestErasedRow : OpenClaim := { program := "ytokdbkkjneadgaa", sum := "7c07f4ba2d8665b75107ddd535447090aada9b2ae23879117f47372919def27d", func := "loop.example/g01045/laws.FnExactFewestErased", spec := "fnExactFewestErased", apart := false }
def FnExactFewestErasedSaid : Prop := fnExactFewestErasedRow.holds Try.pinned (OpenSpec.ofChange fnExactFewestErasedSpec)

/-- ITS FALSE NEIGHBOUR: 'it returns false'. Refute it at one input. -/
def fnExactFewestErasedWrong : ChangeSpec := { name := "fnExactFewestErased", fn := fun _ => fun
  | [d1, d2, d3] => { results := [.lit (.bool false)], args := [d1, d2, d3] }
  | _ => none }
def FnExactFewestErasedWrongFalsely : Prop := fnExactFewestErasedRow.holds Try.pinned (OpenSpec.ofChange fnExactFewestErasedWrong)

/-- 'laws.FnExactApplyPlan': WHATEVER THE INPUT: true; the input reads as it did. -/
def fnExactApplyPlanSpec : ChangeSpec := { name := "fnExactApplyPlan", fn := fun _ => fun
  | [d1, d2, d3, d4] => { results := [.lit (.bool true)], args := [d1, d2, d3, d4] }
  | _ => none }
def fnExactApplyPlanRow : OpenClaim := { program := "ytokdbkkjneadgaa", sum := "7c07f4ba2d8665b75107ddd535447090aada9b2ae23879117f47372919def27d", func := "loop.example/g01045/laws.FnExactApplyPlan", spec := "fnExactApplyPlan", apart := false }
def FnExactApplyPlanSaid : Prop := fnExactApplyPlanRow.holds Try.pinned (OpenSpec.ofChange fnExactApplyPlanSpec)

/-- ITS FALSE NEIGHBOUR: 'it returns false'. Refute it at one input. -/
def fnExactApplyPlanWrong : ChangeSpec := { name := "fnExactApplyPlan", fn := fun _ => fun
  | [d1, d2, d3, d4] => { results := [.lit (.bool false)], args := [d1, d2, d3, d4] }
  | _ => none }
def FnExactApplyPlanWrongFalsely : Prop := fnExactApplyPlanRow.holds Try.pinned (OpenSpec.ofChange fnExactApplyPlanWrong)

/- THE SECOND FORM. 'bulk': how many values and letters a reading holds, each counted each time it is reached (what is shared counts as often as it is met; a slice's spare places count too). A statement '..UptoSaid' is the law's where the arguments, and the package variables that the reading takes, are together of bulk at most 1048576: NARROWER than '..Said'. Prove '..Said' where nothing that the law and all that it calls make is longer than what came in: it says more and counts as full. Else prove '..UptoSaid'. A law counts once. -/
mutual
def uptoBulk {H : Type} : DataW H → Nat
  | .lit (.string bytes) => bytes.length + 1
  | .lit _ => 1
  | .nil => 1
  | .ptr d => uptoBulk d + 1
  | .slice elems spare => uptoBulkAll elems + uptoBulkAll spare + 1
  | .agg parts => uptoBulkAll parts + 1
  | .iface _ d => uptoBulk d + 1
  | .map entries => uptoBulkEntries entries + 1
  | .held _ => 1
def uptoBulkAll {H : Type} : List (DataW H) → Nat
  | [] => 0
  | d :: r => uptoBulk d + uptoBulkAll r
def uptoBulkEntries {H : Type} : List (Lit × DataW H) → Nat
  | [] => 0
  | x :: r => uptoBulkEntry x + uptoBulkEntries r
def uptoBulkEntry {H : Type} : Lit × DataW H → Nat
  | (.string bytes, d) => bytes.length + uptoBulk d + 1
  | (_, d) => uptoBulk d + 1
 end
def uptoSmall : (H : Type) → List (DataW H) → Bool := fun _ ds => decide (uptoBulkAll ds ≤ 1048576)
def OpenSpec.upto (s : _root_.Go.ChangeSpec) : _root_.Go.OpenSpec := { _root_.Go.OpenSpec.ofChange s with cond := some uptoSmall }

/-- 'laws.FnExactErasedIn', WHERE WHAT IT READS IS OF BULK AT MOST 1048576: true; the input reads as it did. -/
def fnExactErasedInUptoRow : OpenClaim := { program := "ytokdbkkjneadgaa", sum := "7c07f4ba2d8665b75107ddd535447090aada9b2ae23879117f47372919def27d", func := "loop.example/g01045/laws.FnExactErasedIn", spec := "fnExactErasedIn", apart := false, narrowed := true }
def FnExactErasedInUptoSaid : Prop := fnExactErasedInUptoRow.holds Try.pinned (OpenSpec.upto fnExactErasedInSpec)

/-- 'laws.FnExactReadOver', WHERE WHAT IT READS IS OF BULK AT MOST 1048576: true; the input reads as it did. -/
def fnExactReadOverUptoRow : OpenClaim := { program := "ytokdbkkjneadgaa", sum := "7c07f4ba2d8665b75107ddd535447090aada9b2ae23879117f47372919def27d", func := "loop.example/g01045/laws.FnExactReadOver", spec := "fnExactReadOver", apart := false, narrowed := true }
def FnExactReadOverUptoSaid : Prop := fnExactReadOverUptoRow.holds Try.pinned (OpenSpec.upto fnExactReadOverSpec)

/-- 'laws.FnExactOverText', WHERE WHAT IT READS IS OF BULK AT MOST 1048576: true; the input reads as it did. -/
def fnExactOverTextUptoRow : OpenClaim := { program := "ytokdbkkjneadgaa", sum := "7c07f4ba2d8665b75107ddd535447090aada9b2ae23879117f47372919def27d", func := "loop.example/g01045/laws.FnExactOverText", spec := "fnExactOverText", apart := false, narrowed := true }
def FnExactOverTextUptoSaid : Prop := fnExactOverTextUptoRow.holds Try.pinned (OpenSpec.upto fnExactOverTextSpec)

/-- 'laws.FnExactShiftedMatch', WHERE WHAT IT READS IS OF BULK AT MOST 1048576: true; the input reads as it did. -/
def fnExactShiftedMatchUptoRow : OpenClaim := { program := "ytokdbkkjneadgaa", sum := "7c07f4ba2d8665b75107ddd535447090aada9b2ae23879117f47372919def27d", func := "loop.example/g01045/laws.FnExactShiftedMatch", spec := "fnExactShiftedMatch", apart := false, narrowed := true }
def FnExactShiftedMatchUptoSaid : Prop := fnExactShiftedMatchUptoRow.holds Try.pinned (OpenSpec.upto fnExactShiftedMatchSpec)

/-- 'laws.FnExactWrongPlaces', WHERE WHAT IT READS IS OF BULK AT MOST 1048576: true; the input reads as it did. -/
def fnExactWrongPlacesUptoRow : OpenClaim := { program := "ytokdbkkjneadgaa", sum := "7c07f4ba2d8665b75107ddd535447090aada9b2ae23879117f47372919def27d", func := "loop.example/g01045/laws.FnExactWrongPlaces", spec := "fnExactWrongPlaces", apart := false, narrowed := true }
def FnExactWrongPlacesUptoSaid : Prop := fnExactWrongPlacesUptoRow.holds Try.pinned (OpenSpec.upto fnExactWrongPlacesSpec)

/-- 'laws.FnExactValidOvers', WHERE WHAT IT READS IS OF BULK AT MOST 1048576: true; the input reads as it did. -/
def fnExactValidOversUptoRow : OpenClaim := { program := "ytokdbkkjneadgaa", sum := "7c07f4ba2d8665b75107ddd535447090aada9b2ae23879117f47372919def27d", func := "loop.example/g01045/laws.FnExactValidOvers", spec := "fnExactValidOvers", apart := false, narrowed := true }
def FnExactValidOversUptoSaid : Prop := fnExactValidOversUptoRow.holds Try.pinned (OpenSpec.upto fnExactValidOversSpec)

/-- 'laws.FnExactWornPlaces', WHERE WHAT IT READS IS OF BULK AT MOST 1048576: true; the input reads as it did. -/
def fnExactWornPlacesUptoRow : OpenClaim := { program := "ytokdbkkjneadgaa", sum := "7c07f4ba2d8665b75107ddd535447090aada9b2ae23879117f47372919def27d", func := "loop.example/g01045/laws.FnExactWornPlaces", spec := "fnExactWornPlaces", apart := false, narrowed := true }
def FnExactWornPlacesUptoSaid : Prop := fnExactWornPlacesUptoRow.holds Try.pinned (OpenSpec.upto fnExactWornPlacesSpec)

/-- 'laws.FnExactSeenOver', WHERE WHAT IT READS IS OF BULK AT MOST 1048576: true; the input reads as it did. -/
def fnExactSeenOverUptoRow : OpenClaim := { program := "ytokdbkkjneadgaa", sum := "7c07f4ba2d8665b75107ddd535447090aada9b2ae23879117f47372919def27d", func := "loop.example/g01045/laws.FnExactSeenOver", spec := "fnExactSeenOver", apart := false, narrowed := true }
def FnExactSeenOverUptoSaid : Prop := fnExactSeenOverUptoRow.holds Try.pinned (OpenSpec.upto fnExactSeenOverSpec)

/-- 'laws.FnExactCorrectionPlan', WHERE WHAT IT READS IS OF BULK AT MOST 1048576: true; the input reads as it did. -/
def fnExactCorrectionPlanUptoRow : OpenClaim := { program := "ytokdbkkjneadgaa", sum := "7c07f4ba2d8665b75107ddd535447090aada9b2ae23879117f47372919def27d", func := "loop.example/g01045/laws.FnExactCorrectionPlan", spec := "fnExactCorrectionPlan", apart := false, narrowed := true }
def FnExactCorrectionPlanUptoSaid : Prop := fnExactCorrectionPlanUptoRow.holds Try.pinned (OpenSpec.upto fnExactCorrectionPlanSpec)

/-- 'laws.FnExactDearestPair', WHERE WHAT IT READS IS OF BULK AT MOST 1048576: true; the input reads as it did. -/
def fnExactDearestPairUptoRow : OpenClaim := { program := "ytokdbkkjneadgaa", sum := "7c07f4ba2d8665b75107ddd535447090aada9b2ae23879117f47372919def27d", func := "loop.example/g01045/laws.FnExactDearestPair", spec := "fnExactDearestPair", apart := false, narrowed := true }
def FnExactDearestPairUptoSaid : Prop := fnExactDearestPairUptoRow.holds Try.pinned (OpenSpec.upto fnExactDearestPairSpec)

/-- 'laws.FnExactFewestErased', WHERE WHAT IT READS IS OF BULK AT MOST 1048576: true; the input reads as it did. -/
def fnExactFewestErasedUptoRow : OpenClaim := { program := "ytokdbkkjneadgaa", sum := "7c07f4ba2d8665b75107ddd535447090aada9b2ae23879117f47372919def27d", func := "loop.example/g01045/laws.FnExactFewestErased", spec := "fnExactFewestErased", apart := false, narrowed := true }
def FnExactFewestErasedUptoSaid : Prop := fnExactFewestErasedUptoRow.holds Try.pinned (OpenSpec.upto fnExactFewestErasedSpec)

/-- 'laws.FnExactApplyPlan', WHERE WHAT IT READS IS OF BULK AT MOST 1048576: true; the input reads as it did. -/
def fnExactApplyPlanUptoRow : OpenClaim := { program := "ytokdbkkjneadgaa", sum := "7c07f4ba2d8665b75107ddd535447090aada9b2ae23879117f47372919def27d", func := "loop.example/g01045/laws.FnExactApplyPlan", spec := "fnExactApplyPlan", apart := false, narrowed := true }
def FnExactApplyPlanUptoSaid : Prop := fnExactApplyPlanUptoRow.holds Try.pinned (OpenSpec.upto fnExactApplyPlanSpec)

end Rows
end Go.Proofs.Ytokdbkkjneadgaa
