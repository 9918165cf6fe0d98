/-
  No cell of these rows narrows 'for every input' (looked for: loops, veiled, ifaces, maps, wideKeys, modest, calm, conditions, laid).
  DERIVED. THE GIVEN ROWS OF THIS SEAT. 11 by the template 'for every input the law returns true; each argument reads behind the call as it read before'; 0 by the template 'total and deterministic' (their statements: YtdfopdjldlogeaaTotals.lean).
  GIVEN WITH THE SEED: the statements are not yours to turn. If you find one false, say at which input.
  Laid BY PROGRAM, IN A SANDBOX (cutbox-rows.mjs): the forced cells as the released guide's own fill.sh prints them over the translation 961b1510a49be52c… (all of the seat's roots in one cut). By AI agents, Wed Nov 11 2026. No macro, syntax, notation, axiom, sorry.
-/
import Derived.Test.YtdfopdjldlogeaaChecked
import GoSem.Claim
import GoSem.ClaimJoined
import GoSem.ClaimMapViews
import Derived.JoinedTies
import Derived.KernelRfl
namespace Go.Proofs.Ytdfopdjldlogeaa
/- THE CELL 'sum', in the pinned program and in every row, IS THE sha256 OF THE DUMP (.gsa) THAT YtdfopdjldlogeaaProg.lean LOADS. Nothing in Lean hashes anything: it is a label: what it is worth is what the hold of that sum in a sandbox is worth. -/
noncomputable def Try.pinned : Pinned := { name := "ytdfopdjldlogeaa", sum := "961b1510a49be52cbed5e87c03cb294579a4ec0be1451167ae39781ccb75c991", checked := Try.checked }
namespace Rows
def none {H : Type} : Left H := { results := [], args := [] }

/-- 'laws.FnExactBackSpaces': WHATEVER THE INPUT: true; the input reads as it did. -/
def fnExactBackSpacesSpec : ChangeSpec := { name := "fnExactBackSpaces", fn := fun _ => fun
  | [d] => { results := [.lit (.bool true)], args := [d] }
  | _ => none }
def fnExactBackSpacesRow : OpenClaim := { program := "ytdfopdjldlogeaa", sum := "961b1510a49be52cbed5e87c03cb294579a4ec0be1451167ae39781ccb75c991", func := "loop.example/g01045/laws.FnExactBackSpaces", spec := "fnExactBackSpaces", apart := false }
def FnExactBackSpacesSaid : Prop := fnExactBackSpacesRow.holds Try.pinned (OpenSpec.ofChange fnExactBackSpacesSpec)

/-- ITS FALSE NEIGHBOUR: 'it returns false'. Refute it at one input. -/
def fnExactBackSpacesWrong : ChangeSpec := { name := "fnExactBackSpaces", fn := fun _ => fun
  | [d] => { results := [.lit (.bool false)], args := [d] }
  | _ => none }
def FnExactBackSpacesWrongFalsely : Prop := fnExactBackSpacesRow.holds Try.pinned (OpenSpec.ofChange fnExactBackSpacesWrong)

/-- 'laws.FnExactRuleLine': WHATEVER THE INPUT: true; the input reads as it did. -/
def fnExactRuleLineSpec : ChangeSpec := { name := "fnExactRuleLine", fn := fun _ => fun
  | [d1, d2] => { results := [.lit (.bool true)], args := [d1, d2] }
  | _ => none }
def fnExactRuleLineRow : OpenClaim := { program := "ytdfopdjldlogeaa", sum := "961b1510a49be52cbed5e87c03cb294579a4ec0be1451167ae39781ccb75c991", func := "loop.example/g01045/laws.FnExactRuleLine", spec := "fnExactRuleLine", apart := false }
def FnExactRuleLineSaid : Prop := fnExactRuleLineRow.holds Try.pinned (OpenSpec.ofChange fnExactRuleLineSpec)

/-- ITS FALSE NEIGHBOUR: 'it returns false'. Refute it at one input. -/
def fnExactRuleLineWrong : ChangeSpec := { name := "fnExactRuleLine", fn := fun _ => fun
  | [d1, d2] => { results := [.lit (.bool false)], args := [d1, d2] }
  | _ => none }
def FnExactRuleLineWrongFalsely : Prop := fnExactRuleLineRow.holds Try.pinned (OpenSpec.ofChange fnExactRuleLineWrong)

/-- 'laws.FnExactUnderlineText': WHATEVER THE INPUT: true; the input reads as it did. -/
def fnExactUnderlineTextSpec : ChangeSpec := { name := "fnExactUnderlineText", fn := fun _ => fun
  | [d] => { results := [.lit (.bool true)], args := [d] }
  | _ => none }
def fnExactUnderlineTextRow : OpenClaim := { program := "ytdfopdjldlogeaa", sum := "961b1510a49be52cbed5e87c03cb294579a4ec0be1451167ae39781ccb75c991", func := "loop.example/g01045/laws.FnExactUnderlineText", spec := "fnExactUnderlineText", apart := false }
def FnExactUnderlineTextSaid : Prop := fnExactUnderlineTextRow.holds Try.pinned (OpenSpec.ofChange fnExactUnderlineTextSpec)

/-- ITS FALSE NEIGHBOUR: 'it returns false'. Refute it at one input. -/
def fnExactUnderlineTextWrong : ChangeSpec := { name := "fnExactUnderlineText", fn := fun _ => fun
  | [d] => { results := [.lit (.bool false)], args := [d] }
  | _ => none }
def FnExactUnderlineTextWrongFalsely : Prop := fnExactUnderlineTextRow.holds Try.pinned (OpenSpec.ofChange fnExactUnderlineTextWrong)

/-- 'laws.FnExactJoinSpread': WHATEVER THE INPUT: true; the input reads as it did. -/
def fnExactJoinSpreadSpec : ChangeSpec := { name := "fnExactJoinSpread", fn := fun _ => fun
  | [d] => { results := [.lit (.bool true)], args := [d] }
  | _ => none }
def fnExactJoinSpreadRow : OpenClaim := { program := "ytdfopdjldlogeaa", sum := "961b1510a49be52cbed5e87c03cb294579a4ec0be1451167ae39781ccb75c991", func := "loop.example/g01045/laws.FnExactJoinSpread", spec := "fnExactJoinSpread", apart := false }
def FnExactJoinSpreadSaid : Prop := fnExactJoinSpreadRow.holds Try.pinned (OpenSpec.ofChange fnExactJoinSpreadSpec)

/-- ITS FALSE NEIGHBOUR: 'it returns false'. Refute it at one input. -/
def fnExactJoinSpreadWrong : ChangeSpec := { name := "fnExactJoinSpread", fn := fun _ => fun
  | [d] => { results := [.lit (.bool false)], args := [d] }
  | _ => none }
def FnExactJoinSpreadWrongFalsely : Prop := fnExactJoinSpreadRow.holds Try.pinned (OpenSpec.ofChange fnExactJoinSpreadWrong)

/-- 'laws.FnExactSpreadText': WHATEVER THE INPUT: true; the input reads as it did. -/
def fnExactSpreadTextSpec : ChangeSpec := { name := "fnExactSpreadText", fn := fun _ => fun
  | [d] => { results := [.lit (.bool true)], args := [d] }
  | _ => none }
def fnExactSpreadTextRow : OpenClaim := { program := "ytdfopdjldlogeaa", sum := "961b1510a49be52cbed5e87c03cb294579a4ec0be1451167ae39781ccb75c991", func := "loop.example/g01045/laws.FnExactSpreadText", spec := "fnExactSpreadText", apart := false }
def FnExactSpreadTextSaid : Prop := fnExactSpreadTextRow.holds Try.pinned (OpenSpec.ofChange fnExactSpreadTextSpec)

/-- ITS FALSE NEIGHBOUR: 'it returns false'. Refute it at one input. -/
def fnExactSpreadTextWrong : ChangeSpec := { name := "fnExactSpreadText", fn := fun _ => fun
  | [d] => { results := [.lit (.bool false)], args := [d] }
  | _ => none }
def FnExactSpreadTextWrongFalsely : Prop := fnExactSpreadTextRow.holds Try.pinned (OpenSpec.ofChange fnExactSpreadTextWrong)

/-- 'laws.FnExactLeaderLine': WHATEVER THE INPUT: true; the input reads as it did. -/
def fnExactLeaderLineSpec : ChangeSpec := { name := "fnExactLeaderLine", fn := fun _ => fun
  | [d1, d2, d3] => { results := [.lit (.bool true)], args := [d1, d2, d3] }
  | _ => none }
def fnExactLeaderLineRow : OpenClaim := { program := "ytdfopdjldlogeaa", sum := "961b1510a49be52cbed5e87c03cb294579a4ec0be1451167ae39781ccb75c991", func := "loop.example/g01045/laws.FnExactLeaderLine", spec := "fnExactLeaderLine", apart := false }
def FnExactLeaderLineSaid : Prop := fnExactLeaderLineRow.holds Try.pinned (OpenSpec.ofChange fnExactLeaderLineSpec)

/-- ITS FALSE NEIGHBOUR: 'it returns false'. Refute it at one input. -/
def fnExactLeaderLineWrong : ChangeSpec := { name := "fnExactLeaderLine", fn := fun _ => fun
  | [d1, d2, d3] => { results := [.lit (.bool false)], args := [d1, d2, d3] }
  | _ => none }
def FnExactLeaderLineWrongFalsely : Prop := fnExactLeaderLineRow.holds Try.pinned (OpenSpec.ofChange fnExactLeaderLineWrong)

/-- 'laws.FnExactRightText': WHATEVER THE INPUT: true; the input reads as it did. -/
def fnExactRightTextSpec : ChangeSpec := { name := "fnExactRightText", fn := fun _ => fun
  | [d1, d2] => { results := [.lit (.bool true)], args := [d1, d2] }
  | _ => none }
def fnExactRightTextRow : OpenClaim := { program := "ytdfopdjldlogeaa", sum := "961b1510a49be52cbed5e87c03cb294579a4ec0be1451167ae39781ccb75c991", func := "loop.example/g01045/laws.FnExactRightText", spec := "fnExactRightText", apart := false }
def FnExactRightTextSaid : Prop := fnExactRightTextRow.holds Try.pinned (OpenSpec.ofChange fnExactRightTextSpec)

/-- ITS FALSE NEIGHBOUR: 'it returns false'. Refute it at one input. -/
def fnExactRightTextWrong : ChangeSpec := { name := "fnExactRightText", fn := fun _ => fun
  | [d1, d2] => { results := [.lit (.bool false)], args := [d1, d2] }
  | _ => none }
def FnExactRightTextWrongFalsely : Prop := fnExactRightTextRow.holds Try.pinned (OpenSpec.ofChange fnExactRightTextWrong)

/-- 'laws.FnExactCentreText': WHATEVER THE INPUT: true; the input reads as it did. -/
def fnExactCentreTextSpec : ChangeSpec := { name := "fnExactCentreText", fn := fun _ => fun
  | [d1, d2] => { results := [.lit (.bool true)], args := [d1, d2] }
  | _ => none }
def fnExactCentreTextRow : OpenClaim := { program := "ytdfopdjldlogeaa", sum := "961b1510a49be52cbed5e87c03cb294579a4ec0be1451167ae39781ccb75c991", func := "loop.example/g01045/laws.FnExactCentreText", spec := "fnExactCentreText", apart := false }
def FnExactCentreTextSaid : Prop := fnExactCentreTextRow.holds Try.pinned (OpenSpec.ofChange fnExactCentreTextSpec)

/-- ITS FALSE NEIGHBOUR: 'it returns false'. Refute it at one input. -/
def fnExactCentreTextWrong : ChangeSpec := { name := "fnExactCentreText", fn := fun _ => fun
  | [d1, d2] => { results := [.lit (.bool false)], args := [d1, d2] }
  | _ => none }
def FnExactCentreTextWrongFalsely : Prop := fnExactCentreTextRow.holds Try.pinned (OpenSpec.ofChange fnExactCentreTextWrong)

/-- 'laws.FnExactCentreBlock': WHATEVER THE INPUT: true; the input reads as it did. -/
def fnExactCentreBlockSpec : ChangeSpec := { name := "fnExactCentreBlock", fn := fun _ => fun
  | [d1, d2] => { results := [.lit (.bool true)], args := [d1, d2] }
  | _ => none }
def fnExactCentreBlockRow : OpenClaim := { program := "ytdfopdjldlogeaa", sum := "961b1510a49be52cbed5e87c03cb294579a4ec0be1451167ae39781ccb75c991", func := "loop.example/g01045/laws.FnExactCentreBlock", spec := "fnExactCentreBlock", apart := false }
def FnExactCentreBlockSaid : Prop := fnExactCentreBlockRow.holds Try.pinned (OpenSpec.ofChange fnExactCentreBlockSpec)

/-- ITS FALSE NEIGHBOUR: 'it returns false'. Refute it at one input. -/
def fnExactCentreBlockWrong : ChangeSpec := { name := "fnExactCentreBlock", fn := fun _ => fun
  | [d1, d2] => { results := [.lit (.bool false)], args := [d1, d2] }
  | _ => none }
def FnExactCentreBlockWrongFalsely : Prop := fnExactCentreBlockRow.holds Try.pinned (OpenSpec.ofChange fnExactCentreBlockWrong)

/-- 'laws.FnExactTitlePage': WHATEVER THE INPUT: true; the input reads as it did. -/
def fnExactTitlePageSpec : ChangeSpec := { name := "fnExactTitlePage", fn := fun _ => fun
  | [d1, d2, d3] => { results := [.lit (.bool true)], args := [d1, d2, d3] }
  | _ => none }
def fnExactTitlePageRow : OpenClaim := { program := "ytdfopdjldlogeaa", sum := "961b1510a49be52cbed5e87c03cb294579a4ec0be1451167ae39781ccb75c991", func := "loop.example/g01045/laws.FnExactTitlePage", spec := "fnExactTitlePage", apart := false }
def FnExactTitlePageSaid : Prop := fnExactTitlePageRow.holds Try.pinned (OpenSpec.ofChange fnExactTitlePageSpec)

/-- ITS FALSE NEIGHBOUR: 'it returns false'. Refute it at one input. -/
def fnExactTitlePageWrong : ChangeSpec := { name := "fnExactTitlePage", fn := fun _ => fun
  | [d1, d2, d3] => { results := [.lit (.bool false)], args := [d1, d2, d3] }
  | _ => none }
def FnExactTitlePageWrongFalsely : Prop := fnExactTitlePageRow.holds Try.pinned (OpenSpec.ofChange fnExactTitlePageWrong)

/-- 'laws.FnExactBoxLines': WHATEVER THE INPUT: true; the input reads as it did. -/
def fnExactBoxLinesSpec : ChangeSpec := { name := "fnExactBoxLines", fn := fun _ => fun
  | [d] => { results := [.lit (.bool true)], args := [d] }
  | _ => none }
def fnExactBoxLinesRow : OpenClaim := { program := "ytdfopdjldlogeaa", sum := "961b1510a49be52cbed5e87c03cb294579a4ec0be1451167ae39781ccb75c991", func := "loop.example/g01045/laws.FnExactBoxLines", spec := "fnExactBoxLines", apart := false }
def FnExactBoxLinesSaid : Prop := fnExactBoxLinesRow.holds Try.pinned (OpenSpec.ofChange fnExactBoxLinesSpec)

/-- ITS FALSE NEIGHBOUR: 'it returns false'. Refute it at one input. -/
def fnExactBoxLinesWrong : ChangeSpec := { name := "fnExactBoxLines", fn := fun _ => fun
  | [d] => { results := [.lit (.bool false)], args := [d] }
  | _ => none }
def FnExactBoxLinesWrongFalsely : Prop := fnExactBoxLinesRow.holds Try.pinned (OpenSpec.ofChange fnExactBoxLinesWrong)

/- THE SECOND FORM. 'bulk': how many values and letters a reading holds, each counted each time it is reached (what is shared counts as often as it is met; a slice's spare places count too). A statement '..UptoSaid' is the law's where the arguments, and the package variables that the reading takes, are together of bulk at most 1048576: NARROWER than '..Said'. Prove '..Said' where nothing that the law and all that it calls make is longer than what came in: it says more and counts as full. Else prove '..UptoSaid'. A law counts once. -/
mutual
def uptoBulk {H : Type} : DataW H → Nat
  | .lit (.string bytes) => bytes.length + 1
  | .lit _ => 1
  | .nil => 1
  | .ptr d => uptoBulk d + 1
  | .slice elems spare => uptoBulkAll elems + uptoBulkAll spare + 1
  | .agg parts => uptoBulkAll parts + 1
  | .iface _ d => uptoBulk d + 1
  | .map entries => uptoBulkEntries entries + 1
  | .held _ => 1
def uptoBulkAll {H : Type} : List (DataW H) → Nat
  | [] => 0
  | d :: r => uptoBulk d + uptoBulkAll r
def uptoBulkEntries {H : Type} : List (Lit × DataW H) → Nat
  | [] => 0
  | x :: r => uptoBulkEntry x + uptoBulkEntries r
def uptoBulkEntry {H : Type} : Lit × DataW H → Nat
  | (.string bytes, d) => bytes.length + uptoBulk d + 1
  | (_, d) => uptoBulk d + 1
 end
def uptoSmall : (H : Type) → List (DataW H) → Bool := fun _ ds => decide (uptoBulkAll ds ≤ 1048576)
def OpenSpec.upto (s : _root_.Go.ChangeSpec) : _root_.Go.OpenSpec := { _root_.Go.OpenSpec.ofChange s with cond := some uptoSmall }

/-- 'laws.FnExactBackSpaces', WHERE WHAT IT READS IS OF BULK AT MOST 1048576: true; the input reads as it did. -/
def fnExactBackSpacesUptoRow : OpenClaim := { program := "ytdfopdjldlogeaa", sum := "961b1510a49be52cbed5e87c03cb294579a4ec0be1451167ae39781ccb75c991", func := "loop.example/g01045/laws.FnExactBackSpaces", spec := "fnExactBackSpaces", apart := false, narrowed := true }
def FnExactBackSpacesUptoSaid : Prop := fnExactBackSpacesUptoRow.holds Try.pinned (OpenSpec.upto fnExactBackSpacesSpec)

/-- 'laws.FnExactRuleLine', WHERE WHAT IT READS IS OF BULK AT MOST 1048576: true; the input reads as it did. -/
def fnExactRuleLineUptoRow : OpenClaim := { program := "ytdfopdjldlogeaa", sum := "961b1510a49be52cbed5e87c03cb294579a4ec0be1451167ae39781ccb75c991", func := "loop.example/g01045/laws.FnExactRuleLine", spec := "fnExactRuleLine", apart := false, narrowed := true }
def FnExactRuleLineUptoSaid : Prop := fnExactRuleLineUptoRow.holds Try.pinned (OpenSpec.upto fnExactRuleLineSpec)

/-- 'laws.FnExactUnderlineText', WHERE WHAT IT READS IS OF BULK AT MOST 1048576: true; the input reads as it did. -/
def fnExactUnderlineTextUptoRow : OpenClaim := { program := "ytdfopdjldlogeaa", sum := "961b1510a49be52cbed5e87c03cb294579a4ec0be1451167ae39781ccb75c991", func := "loop.example/g01045/laws.FnExactUnderlineText", spec := "fnExactUnderlineText", apart := false, narrowed := true }
def FnExactUnderlineTextUptoSaid : Prop := fnExactUnderlineTextUptoRow.holds Try.pinned (OpenSpec.upto fnExactUnderlineTextSpec)

/-- 'laws.FnExactJoinSpread', WHERE WHAT IT READS IS OF BULK AT MOST 1048576: true; the input reads as it did. -/
def fnExactJoinSpreadUptoRow : OpenClaim := { program := "ytdfopdjldlogeaa", sum := "961b1510a49be52cbed5e87c03cb294579a4ec0be1451167ae39781ccb75c991", func := "loop.example/g01045/laws.FnExactJoinSpread", spec := "fnExactJoinSpread", apart := false, narrowed := true }
def FnExactJoinSpreadUptoSaid : Prop := fnExactJoinSpreadUptoRow.holds Try.pinned (OpenSpec.upto fnExactJoinSpreadSpec)

/-- 'laws.FnExactSpreadText', WHERE WHAT IT READS IS OF BULK AT MOST 1048576: true; the input reads as it did. -/
def fnExactSpreadTextUptoRow : OpenClaim := { program := "ytdfopdjldlogeaa", sum := "961b1510a49be52cbed5e87c03cb294579a4ec0be1451167ae39781ccb75c991", func := "loop.example/g01045/laws.FnExactSpreadText", spec := "fnExactSpreadText", apart := false, narrowed := true }
def FnExactSpreadTextUptoSaid : Prop := fnExactSpreadTextUptoRow.holds Try.pinned (OpenSpec.upto fnExactSpreadTextSpec)

/-- 'laws.FnExactLeaderLine', WHERE WHAT IT READS IS OF BULK AT MOST 1048576: true; the input reads as it did. -/
def fnExactLeaderLineUptoRow : OpenClaim := { program := "ytdfopdjldlogeaa", sum := "961b1510a49be52cbed5e87c03cb294579a4ec0be1451167ae39781ccb75c991", func := "loop.example/g01045/laws.FnExactLeaderLine", spec := "fnExactLeaderLine", apart := false, narrowed := true }
def FnExactLeaderLineUptoSaid : Prop := fnExactLeaderLineUptoRow.holds Try.pinned (OpenSpec.upto fnExactLeaderLineSpec)

/-- 'laws.FnExactRightText', WHERE WHAT IT READS IS OF BULK AT MOST 1048576: true; the input reads as it did. -/
def fnExactRightTextUptoRow : OpenClaim := { program := "ytdfopdjldlogeaa", sum := "961b1510a49be52cbed5e87c03cb294579a4ec0be1451167ae39781ccb75c991", func := "loop.example/g01045/laws.FnExactRightText", spec := "fnExactRightText", apart := false, narrowed := true }
def FnExactRightTextUptoSaid : Prop := fnExactRightTextUptoRow.holds Try.pinned (OpenSpec.upto fnExactRightTextSpec)

/-- 'laws.FnExactCentreText', WHERE WHAT IT READS IS OF BULK AT MOST 1048576: true; the input reads as it did. -/
def fnExactCentreTextUptoRow : OpenClaim := { program := "ytdfopdjldlogeaa", sum := "961b1510a49be52cbed5e87c03cb294579a4ec0be1451167ae39781ccb75c991", func := "loop.example/g01045/laws.FnExactCentreText", spec := "fnExactCentreText", apart := false, narrowed := true }
def FnExactCentreTextUptoSaid : Prop := fnExactCentreTextUptoRow.holds Try.pinned (OpenSpec.upto fnExactCentreTextSpec)

/-- 'laws.FnExactCentreBlock', WHERE WHAT IT READS IS OF BULK AT MOST 1048576: true; the input reads as it did. -/
def fnExactCentreBlockUptoRow : OpenClaim := { program := "ytdfopdjldlogeaa", sum := "961b1510a49be52cbed5e87c03cb294579a4ec0be1451167ae39781ccb75c991", func := "loop.example/g01045/laws.FnExactCentreBlock", spec := "fnExactCentreBlock", apart := false, narrowed := true }
def FnExactCentreBlockUptoSaid : Prop := fnExactCentreBlockUptoRow.holds Try.pinned (OpenSpec.upto fnExactCentreBlockSpec)

/-- 'laws.FnExactTitlePage', WHERE WHAT IT READS IS OF BULK AT MOST 1048576: true; the input reads as it did. -/
def fnExactTitlePageUptoRow : OpenClaim := { program := "ytdfopdjldlogeaa", sum := "961b1510a49be52cbed5e87c03cb294579a4ec0be1451167ae39781ccb75c991", func := "loop.example/g01045/laws.FnExactTitlePage", spec := "fnExactTitlePage", apart := false, narrowed := true }
def FnExactTitlePageUptoSaid : Prop := fnExactTitlePageUptoRow.holds Try.pinned (OpenSpec.upto fnExactTitlePageSpec)

/-- 'laws.FnExactBoxLines', WHERE WHAT IT READS IS OF BULK AT MOST 1048576: true; the input reads as it did. -/
def fnExactBoxLinesUptoRow : OpenClaim := { program := "ytdfopdjldlogeaa", sum := "961b1510a49be52cbed5e87c03cb294579a4ec0be1451167ae39781ccb75c991", func := "loop.example/g01045/laws.FnExactBoxLines", spec := "fnExactBoxLines", apart := false, narrowed := true }
def FnExactBoxLinesUptoSaid : Prop := fnExactBoxLinesUptoRow.holds Try.pinned (OpenSpec.upto fnExactBoxLinesSpec)

end Rows
end Go.Proofs.Ytdfopdjldlogeaa
