/-
  No cell of these rows narrows 'for every input' (looked for: loops, veiled, ifaces, maps, wideKeys, modest, calm, conditions, laid).
  DERIVED. THE GIVEN ROWS OF THIS SEAT. 9 by the template 'for every input the law returns true; each argument reads behind the call as it read before'; 0 by the template 'total and deterministic' (their statements: YtdfhibkennbliaaTotals.lean).
  GIVEN WITH THE SEED: the statements are not yours to turn. If you find one false, say at which input.
  Laid BY PROGRAM, IN A SANDBOX (cutbox-rows.mjs): the forced cells as the released guide's own fill.sh prints them over the translation 9b34672ba6cf1580… (all of the seat's roots in one cut). By AI agents, Wed Nov 11 2026. No macro, syntax, notation, axiom, sorry.
-/
import Derived.Test.YtdfhibkennbliaaChecked
import GoSem.Claim
import GoSem.ClaimJoined
import GoSem.ClaimMapViews
import Derived.JoinedTies
import Derived.KernelRfl
namespace Go.Proofs.Ytdfhibkennbliaa
/- THE CELL 'sum', in the pinned program and in every row, IS THE sha256 OF THE DUMP (.gsa) THAT YtdfhibkennbliaaProg.lean LOADS. Nothing in Lean hashes anything: it is a label: what it is worth is what the hold of that sum in a sandbox is worth. -/
noncomputable def Try.pinned : Pinned := { name := "ytdfhibkennbliaa", sum := "9b34672ba6cf15804c95a1298a496ab6f36d8fd298cfd9a5f216b12a1ce6f155", checked := Try.checked }
namespace Rows
def none {H : Type} : Left H := { results := [], args := [] }

/-- 'laws.FnExactSetText': WHATEVER THE INPUT: true; the input reads as it did. -/
def fnExactSetTextSpec : ChangeSpec := { name := "fnExactSetText", fn := fun _ => fun
  | [d1, d2, d3] => { results := [.lit (.bool true)], args := [d1, d2, d3] }
  | _ => none }
def fnExactSetTextRow : OpenClaim := { program := "ytdfhibkennbliaa", sum := "9b34672ba6cf15804c95a1298a496ab6f36d8fd298cfd9a5f216b12a1ce6f155", func := "loop.example/g01045/laws.FnExactSetText", spec := "fnExactSetText", inPlace := ["internal/abi.NoEscape", "internal/bytealg.MakeNoZero"], apart := false }
def FnExactSetTextSaid : Prop := fnExactSetTextRow.holds Try.pinned (OpenSpec.ofChange fnExactSetTextSpec)

/-- ITS FALSE NEIGHBOUR: 'it returns false'. Refute it at one input. -/
def fnExactSetTextWrong : ChangeSpec := { name := "fnExactSetText", fn := fun _ => fun
  | [d1, d2, d3] => { results := [.lit (.bool false)], args := [d1, d2, d3] }
  | _ => none }
def FnExactSetTextWrongFalsely : Prop := fnExactSetTextRow.holds Try.pinned (OpenSpec.ofChange fnExactSetTextWrong)

/-- 'laws.FnExactValidText': WHATEVER THE INPUT: true; the input reads as it did. -/
def fnExactValidTextSpec : ChangeSpec := { name := "fnExactValidText", fn := fun _ => fun
  | [d1, d2] => { results := [.lit (.bool true)], args := [d1, d2] }
  | _ => none }
def fnExactValidTextRow : OpenClaim := { program := "ytdfhibkennbliaa", sum := "9b34672ba6cf15804c95a1298a496ab6f36d8fd298cfd9a5f216b12a1ce6f155", func := "loop.example/g01045/laws.FnExactValidText", spec := "fnExactValidText", apart := false }
def FnExactValidTextSaid : Prop := fnExactValidTextRow.holds Try.pinned (OpenSpec.ofChange fnExactValidTextSpec)

/-- ITS FALSE NEIGHBOUR: 'it returns false'. Refute it at one input. -/
def fnExactValidTextWrong : ChangeSpec := { name := "fnExactValidText", fn := fun _ => fun
  | [d1, d2] => { results := [.lit (.bool false)], args := [d1, d2] }
  | _ => none }
def FnExactValidTextWrongFalsely : Prop := fnExactValidTextRow.holds Try.pinned (OpenSpec.ofChange fnExactValidTextWrong)

/-- 'laws.FnExactFewestLines': WHATEVER THE INPUT: true; the input reads as it did. -/
def fnExactFewestLinesSpec : ChangeSpec := { name := "fnExactFewestLines", fn := fun _ => fun
  | [d1, d2] => { results := [.lit (.bool true)], args := [d1, d2] }
  | _ => none }
def fnExactFewestLinesRow : OpenClaim := { program := "ytdfhibkennbliaa", sum := "9b34672ba6cf15804c95a1298a496ab6f36d8fd298cfd9a5f216b12a1ce6f155", func := "loop.example/g01045/laws.FnExactFewestLines", spec := "fnExactFewestLines", apart := false }
def FnExactFewestLinesSaid : Prop := fnExactFewestLinesRow.holds Try.pinned (OpenSpec.ofChange fnExactFewestLinesSpec)

/-- ITS FALSE NEIGHBOUR: 'it returns false'. Refute it at one input. -/
def fnExactFewestLinesWrong : ChangeSpec := { name := "fnExactFewestLines", fn := fun _ => fun
  | [d1, d2] => { results := [.lit (.bool false)], args := [d1, d2] }
  | _ => none }
def FnExactFewestLinesWrongFalsely : Prop := fnExactFewestLinesRow.holds Try.pinned (OpenSpec.ofChange fnExactFewestLinesWrong)

/-- 'laws.FnExactWordsOfLines': WHATEVER THE INPUT: true; the input reads as it did. -/
def fnExactWordsOfLinesSpec : ChangeSpec := { name := "fnExactWordsOfLines", fn := fun _ => fun
  | [d] => { results := [.lit (.bool true)], args := [d] }
  | _ => none }
def fnExactWordsOfLinesRow : OpenClaim := { program := "ytdfhibkennbliaa", sum := "9b34672ba6cf15804c95a1298a496ab6f36d8fd298cfd9a5f216b12a1ce6f155", func := "loop.example/g01045/laws.FnExactWordsOfLines", spec := "fnExactWordsOfLines", apart := false }
def FnExactWordsOfLinesSaid : Prop := fnExactWordsOfLinesRow.holds Try.pinned (OpenSpec.ofChange fnExactWordsOfLinesSpec)

/-- ITS FALSE NEIGHBOUR: 'it returns false'. Refute it at one input. -/
def fnExactWordsOfLinesWrong : ChangeSpec := { name := "fnExactWordsOfLines", fn := fun _ => fun
  | [d] => { results := [.lit (.bool false)], args := [d] }
  | _ => none }
def FnExactWordsOfLinesWrongFalsely : Prop := fnExactWordsOfLinesRow.holds Try.pinned (OpenSpec.ofChange fnExactWordsOfLinesWrong)

/-- 'laws.FnExactLeastWidth': WHATEVER THE INPUT: true; the input reads as it did. -/
def fnExactLeastWidthSpec : ChangeSpec := { name := "fnExactLeastWidth", fn := fun _ => fun
  | [d1, d2] => { results := [.lit (.bool true)], args := [d1, d2] }
  | _ => none }
def fnExactLeastWidthRow : OpenClaim := { program := "ytdfhibkennbliaa", sum := "9b34672ba6cf15804c95a1298a496ab6f36d8fd298cfd9a5f216b12a1ce6f155", func := "loop.example/g01045/laws.FnExactLeastWidth", spec := "fnExactLeastWidth", apart := false }
def FnExactLeastWidthSaid : Prop := fnExactLeastWidthRow.holds Try.pinned (OpenSpec.ofChange fnExactLeastWidthSpec)

/-- ITS FALSE NEIGHBOUR: 'it returns false'. Refute it at one input. -/
def fnExactLeastWidthWrong : ChangeSpec := { name := "fnExactLeastWidth", fn := fun _ => fun
  | [d1, d2] => { results := [.lit (.bool false)], args := [d1, d2] }
  | _ => none }
def FnExactLeastWidthWrongFalsely : Prop := fnExactLeastWidthRow.holds Try.pinned (OpenSpec.ofChange fnExactLeastWidthWrong)

/-- 'laws.FnExactSetLine': WHATEVER THE INPUT: true; the input reads as it did. -/
def fnExactSetLineSpec : ChangeSpec := { name := "fnExactSetLine", fn := fun _ => fun
  | [d1, d2] => { results := [.lit (.bool true)], args := [d1, d2] }
  | _ => none }
def fnExactSetLineRow : OpenClaim := { program := "ytdfhibkennbliaa", sum := "9b34672ba6cf15804c95a1298a496ab6f36d8fd298cfd9a5f216b12a1ce6f155", func := "loop.example/g01045/laws.FnExactSetLine", spec := "fnExactSetLine", apart := false }
def FnExactSetLineSaid : Prop := fnExactSetLineRow.holds Try.pinned (OpenSpec.ofChange fnExactSetLineSpec)

/-- ITS FALSE NEIGHBOUR: 'it returns false'. Refute it at one input. -/
def fnExactSetLineWrong : ChangeSpec := { name := "fnExactSetLine", fn := fun _ => fun
  | [d1, d2] => { results := [.lit (.bool false)], args := [d1, d2] }
  | _ => none }
def FnExactSetLineWrongFalsely : Prop := fnExactSetLineRow.holds Try.pinned (OpenSpec.ofChange fnExactSetLineWrong)

/-- 'laws.FnExactFirstBreaks': WHATEVER THE INPUT: true; the input reads as it did. -/
def fnExactFirstBreaksSpec : ChangeSpec := { name := "fnExactFirstBreaks", fn := fun _ => fun
  | [d1, d2] => { results := [.lit (.bool true)], args := [d1, d2] }
  | _ => none }
def fnExactFirstBreaksRow : OpenClaim := { program := "ytdfhibkennbliaa", sum := "9b34672ba6cf15804c95a1298a496ab6f36d8fd298cfd9a5f216b12a1ce6f155", func := "loop.example/g01045/laws.FnExactFirstBreaks", spec := "fnExactFirstBreaks", apart := false }
def FnExactFirstBreaksSaid : Prop := fnExactFirstBreaksRow.holds Try.pinned (OpenSpec.ofChange fnExactFirstBreaksSpec)

/-- ITS FALSE NEIGHBOUR: 'it returns false'. Refute it at one input. -/
def fnExactFirstBreaksWrong : ChangeSpec := { name := "fnExactFirstBreaks", fn := fun _ => fun
  | [d1, d2] => { results := [.lit (.bool false)], args := [d1, d2] }
  | _ => none }
def FnExactFirstBreaksWrongFalsely : Prop := fnExactFirstBreaksRow.holds Try.pinned (OpenSpec.ofChange fnExactFirstBreaksWrong)

/-- 'laws.FnExactBestBreaks': WHATEVER THE INPUT: true; the input reads as it did. -/
def fnExactBestBreaksSpec : ChangeSpec := { name := "fnExactBestBreaks", fn := fun _ => fun
  | [d1, d2] => { results := [.lit (.bool true)], args := [d1, d2] }
  | _ => none }
def fnExactBestBreaksRow : OpenClaim := { program := "ytdfhibkennbliaa", sum := "9b34672ba6cf15804c95a1298a496ab6f36d8fd298cfd9a5f216b12a1ce6f155", func := "loop.example/g01045/laws.FnExactBestBreaks", spec := "fnExactBestBreaks", apart := false }
def FnExactBestBreaksSaid : Prop := fnExactBestBreaksRow.holds Try.pinned (OpenSpec.ofChange fnExactBestBreaksSpec)

/-- ITS FALSE NEIGHBOUR: 'it returns false'. Refute it at one input. -/
def fnExactBestBreaksWrong : ChangeSpec := { name := "fnExactBestBreaks", fn := fun _ => fun
  | [d1, d2] => { results := [.lit (.bool false)], args := [d1, d2] }
  | _ => none }
def FnExactBestBreaksWrongFalsely : Prop := fnExactBestBreaksRow.holds Try.pinned (OpenSpec.ofChange fnExactBestBreaksWrong)

/-- 'laws.FnExactBadnessOf': WHATEVER THE INPUT: true; the input reads as it did. -/
def fnExactBadnessOfSpec : ChangeSpec := { name := "fnExactBadnessOf", fn := fun _ => fun
  | [d1, d2, d3] => { results := [.lit (.bool true)], args := [d1, d2, d3] }
  | _ => none }
def fnExactBadnessOfRow : OpenClaim := { program := "ytdfhibkennbliaa", sum := "9b34672ba6cf15804c95a1298a496ab6f36d8fd298cfd9a5f216b12a1ce6f155", func := "loop.example/g01045/laws.FnExactBadnessOf", spec := "fnExactBadnessOf", apart := false }
def FnExactBadnessOfSaid : Prop := fnExactBadnessOfRow.holds Try.pinned (OpenSpec.ofChange fnExactBadnessOfSpec)

/-- ITS FALSE NEIGHBOUR: 'it returns false'. Refute it at one input. -/
def fnExactBadnessOfWrong : ChangeSpec := { name := "fnExactBadnessOf", fn := fun _ => fun
  | [d1, d2, d3] => { results := [.lit (.bool false)], args := [d1, d2, d3] }
  | _ => none }
def FnExactBadnessOfWrongFalsely : Prop := fnExactBadnessOfRow.holds Try.pinned (OpenSpec.ofChange fnExactBadnessOfWrong)

/- THE SECOND FORM. 'bulk': how many values and letters a reading holds, each counted each time it is reached (what is shared counts as often as it is met; a slice's spare places count too). A statement '..UptoSaid' is the law's where the arguments, and the package variables that the reading takes, are together of bulk at most 1048576: NARROWER than '..Said'. Prove '..Said' where nothing that the law and all that it calls make is longer than what came in: it says more and counts as full. Else prove '..UptoSaid'. A law counts once. -/
mutual
def uptoBulk {H : Type} : DataW H → Nat
  | .lit (.string bytes) => bytes.length + 1
  | .lit _ => 1
  | .nil => 1
  | .ptr d => uptoBulk d + 1
  | .slice elems spare => uptoBulkAll elems + uptoBulkAll spare + 1
  | .agg parts => uptoBulkAll parts + 1
  | .iface _ d => uptoBulk d + 1
  | .map entries => uptoBulkEntries entries + 1
  | .held _ => 1
def uptoBulkAll {H : Type} : List (DataW H) → Nat
  | [] => 0
  | d :: r => uptoBulk d + uptoBulkAll r
def uptoBulkEntries {H : Type} : List (Lit × DataW H) → Nat
  | [] => 0
  | x :: r => uptoBulkEntry x + uptoBulkEntries r
def uptoBulkEntry {H : Type} : Lit × DataW H → Nat
  | (.string bytes, d) => bytes.length + uptoBulk d + 1
  | (_, d) => uptoBulk d + 1
 end
def uptoSmall : (H : Type) → List (DataW H) → Bool := fun _ ds => decide (uptoBulkAll ds ≤ 1048576)
def OpenSpec.upto (s : _root_.Go.ChangeSpec) : _root_.Go.OpenSpec := { _root_.Go.OpenSpec.ofChange s with cond := some uptoSmall }

/-- 'laws.FnExactSetText', WHERE WHAT IT READS IS OF BULK AT MOST 1048576: true; the input reads as it did. -/
def fnExactSetTextUptoRow : OpenClaim := { program := "ytdfhibkennbliaa", sum := "9b34672ba6cf15804c95a1298a496ab6f36d8fd298cfd9a5f216b12a1ce6f155", func := "loop.example/g01045/laws.FnExactSetText", spec := "fnExactSetText", inPlace := ["internal/abi.NoEscape", "internal/bytealg.MakeNoZero"], apart := false, narrowed := true }
def FnExactSetTextUptoSaid : Prop := fnExactSetTextUptoRow.holds Try.pinned (OpenSpec.upto fnExactSetTextSpec)

/-- 'laws.FnExactValidText', WHERE WHAT IT READS IS OF BULK AT MOST 1048576: true; the input reads as it did. -/
def fnExactValidTextUptoRow : OpenClaim := { program := "ytdfhibkennbliaa", sum := "9b34672ba6cf15804c95a1298a496ab6f36d8fd298cfd9a5f216b12a1ce6f155", func := "loop.example/g01045/laws.FnExactValidText", spec := "fnExactValidText", apart := false, narrowed := true }
def FnExactValidTextUptoSaid : Prop := fnExactValidTextUptoRow.holds Try.pinned (OpenSpec.upto fnExactValidTextSpec)

/-- 'laws.FnExactFewestLines', WHERE WHAT IT READS IS OF BULK AT MOST 1048576: true; the input reads as it did. -/
def fnExactFewestLinesUptoRow : OpenClaim := { program := "ytdfhibkennbliaa", sum := "9b34672ba6cf15804c95a1298a496ab6f36d8fd298cfd9a5f216b12a1ce6f155", func := "loop.example/g01045/laws.FnExactFewestLines", spec := "fnExactFewestLines", apart := false, narrowed := true }
def FnExactFewestLinesUptoSaid : Prop := fnExactFewestLinesUptoRow.holds Try.pinned (OpenSpec.upto fnExactFewestLinesSpec)

/-- 'laws.FnExactWordsOfLines', WHERE WHAT IT READS IS OF BULK AT MOST 1048576: true; the input reads as it did. -/
def fnExactWordsOfLinesUptoRow : OpenClaim := { program := "ytdfhibkennbliaa", sum := "9b34672ba6cf15804c95a1298a496ab6f36d8fd298cfd9a5f216b12a1ce6f155", func := "loop.example/g01045/laws.FnExactWordsOfLines", spec := "fnExactWordsOfLines", apart := false, narrowed := true }
def FnExactWordsOfLinesUptoSaid : Prop := fnExactWordsOfLinesUptoRow.holds Try.pinned (OpenSpec.upto fnExactWordsOfLinesSpec)

/-- 'laws.FnExactLeastWidth', WHERE WHAT IT READS IS OF BULK AT MOST 1048576: true; the input reads as it did. -/
def fnExactLeastWidthUptoRow : OpenClaim := { program := "ytdfhibkennbliaa", sum := "9b34672ba6cf15804c95a1298a496ab6f36d8fd298cfd9a5f216b12a1ce6f155", func := "loop.example/g01045/laws.FnExactLeastWidth", spec := "fnExactLeastWidth", apart := false, narrowed := true }
def FnExactLeastWidthUptoSaid : Prop := fnExactLeastWidthUptoRow.holds Try.pinned (OpenSpec.upto fnExactLeastWidthSpec)

/-- 'laws.FnExactSetLine', WHERE WHAT IT READS IS OF BULK AT MOST 1048576: true; the input reads as it did. -/
def fnExactSetLineUptoRow : OpenClaim := { program := "ytdfhibkennbliaa", sum := "9b34672ba6cf15804c95a1298a496ab6f36d8fd298cfd9a5f216b12a1ce6f155", func := "loop.example/g01045/laws.FnExactSetLine", spec := "fnExactSetLine", apart := false, narrowed := true }
def FnExactSetLineUptoSaid : Prop := fnExactSetLineUptoRow.holds Try.pinned (OpenSpec.upto fnExactSetLineSpec)

/-- 'laws.FnExactFirstBreaks', WHERE WHAT IT READS IS OF BULK AT MOST 1048576: true; the input reads as it did. -/
def fnExactFirstBreaksUptoRow : OpenClaim := { program := "ytdfhibkennbliaa", sum := "9b34672ba6cf15804c95a1298a496ab6f36d8fd298cfd9a5f216b12a1ce6f155", func := "loop.example/g01045/laws.FnExactFirstBreaks", spec := "fnExactFirstBreaks", apart := false, narrowed := true }
def FnExactFirstBreaksUptoSaid : Prop := fnExactFirstBreaksUptoRow.holds Try.pinned (OpenSpec.upto fnExactFirstBreaksSpec)

/-- 'laws.FnExactBestBreaks', WHERE WHAT IT READS IS OF BULK AT MOST 1048576: true; the input reads as it did. -/
def fnExactBestBreaksUptoRow : OpenClaim := { program := "ytdfhibkennbliaa", sum := "9b34672ba6cf15804c95a1298a496ab6f36d8fd298cfd9a5f216b12a1ce6f155", func := "loop.example/g01045/laws.FnExactBestBreaks", spec := "fnExactBestBreaks", apart := false, narrowed := true }
def FnExactBestBreaksUptoSaid : Prop := fnExactBestBreaksUptoRow.holds Try.pinned (OpenSpec.upto fnExactBestBreaksSpec)

/-- 'laws.FnExactBadnessOf', WHERE WHAT IT READS IS OF BULK AT MOST 1048576: true; the input reads as it did. -/
def fnExactBadnessOfUptoRow : OpenClaim := { program := "ytdfhibkennbliaa", sum := "9b34672ba6cf15804c95a1298a496ab6f36d8fd298cfd9a5f216b12a1ce6f155", func := "loop.example/g01045/laws.FnExactBadnessOf", spec := "fnExactBadnessOf", apart := false, narrowed := true }
def FnExactBadnessOfUptoSaid : Prop := fnExactBadnessOfUptoRow.holds Try.pinned (OpenSpec.upto fnExactBadnessOfSpec)

end Rows
end Go.Proofs.Ytdfhibkennbliaa
