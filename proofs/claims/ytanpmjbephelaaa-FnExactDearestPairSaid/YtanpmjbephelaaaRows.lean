/-
  No cell of these rows narrows 'for every input' (looked for: loops, veiled, ifaces, maps, wideKeys, modest, calm, conditions, laid).
  DERIVED. THE GIVEN ROWS OF THIS SEAT. 11 by the template 'for every input the law returns true; each argument reads behind the call as it read before'; 0 by the template 'total and deterministic' (their statements: YtanpmjbephelaaaTotals.lean).
  GIVEN WITH THE SEED: the statements are not yours to turn. If you find one false, say at which input.
  Laid BY PROGRAM, IN A SANDBOX (cutbox-rows.mjs): the forced cells as the released guide's own fill.sh prints them over the translation 3efb8fd776a2b6c7… (all of the seat's roots in one cut). By AI agents, Wed Nov 11 2026. No macro, syntax, notation, axiom, sorry.
-/
import Derived.Test.YtanpmjbephelaaaChecked
import GoSem.Claim
import GoSem.ClaimJoined
import GoSem.ClaimMapViews
import Derived.JoinedTies
import Derived.KernelRfl
namespace Go.Proofs.Ytanpmjbephelaaa
/- THE CELL 'sum', in the pinned program and in every row, IS THE sha256 OF THE DUMP (.gsa) THAT YtanpmjbephelaaaProg.lean LOADS. Nothing in Lean hashes anything: it is a label: what it is worth is what the hold of that sum in a sandbox is worth. -/
noncomputable def Try.pinned : Pinned := { name := "ytanpmjbephelaaa", sum := "3efb8fd776a2b6c7612b4dfa7ca2ea5689aae71927d3b445a2e59da95130845b", checked := Try.checked }
namespace Rows
def none {H : Type} : Left H := { results := [], args := [] }

/-- 'laws.FnExactSetText': WHATEVER THE INPUT: true; the input reads as it did. -/
def fnExactSetTextSpec : ChangeSpec := { name := "fnExactSetText", fn := fun _ => fun
  | [d1, d2, d3] => { results := [.lit (.bool true)], args := [d1, d2, d3] }
  | _ => none }
def fnExactSetTextRow : OpenClaim := { program := "ytanpmjbephelaaa", sum := "3efb8fd776a2b6c7612b4dfa7ca2ea5689aae71927d3b445a2e59da95130845b", func := "loop.example/g01045/laws.FnExactSetText", spec := "fnExactSetText", inPlace := ["internal/abi.NoEscape", "internal/bytealg.MakeNoZero"], apart := false }
def FnExactSetTextSaid : Prop := fnExactSetTextRow.holds Try.pinned (OpenSpec.ofChange fnExactSetTextSpec)

/-- ITS FALSE NEIGHBOUR: 'it returns false'. Refute it at one input. -/
def fnExactSetTextWrong : ChangeSpec := { name := "fnExactSetText", fn := fun _ => fun
  | [d1, d2, d3] => { results := [.lit (.bool false)], args := [d1, d2, d3] }
  | _ => none }
def FnExactSetTextWrongFalsely : Prop := fnExactSetTextRow.holds Try.pinned (OpenSpec.ofChange fnExactSetTextWrong)

/-- 'laws.FnExactWordsOfLines': WHATEVER THE INPUT: true; the input reads as it did. -/
def fnExactWordsOfLinesSpec : ChangeSpec := { name := "fnExactWordsOfLines", fn := fun _ => fun
  | [d] => { results := [.lit (.bool true)], args := [d] }
  | _ => none }
def fnExactWordsOfLinesRow : OpenClaim := { program := "ytanpmjbephelaaa", sum := "3efb8fd776a2b6c7612b4dfa7ca2ea5689aae71927d3b445a2e59da95130845b", func := "loop.example/g01045/laws.FnExactWordsOfLines", spec := "fnExactWordsOfLines", apart := false }
def FnExactWordsOfLinesSaid : Prop := fnExactWordsOfLinesRow.holds Try.pinned (OpenSpec.ofChange fnExactWordsOfLinesSpec)

/-- ITS FALSE NEIGHBOUR: 'it returns false'. Refute it at one input. -/
def fnExactWordsOfLinesWrong : ChangeSpec := { name := "fnExactWordsOfLines", fn := fun _ => fun
  | [d] => { results := [.lit (.bool false)], args := [d] }
  | _ => none }
def FnExactWordsOfLinesWrongFalsely : Prop := fnExactWordsOfLinesRow.holds Try.pinned (OpenSpec.ofChange fnExactWordsOfLinesWrong)

/-- 'laws.FnExactSetLine': WHATEVER THE INPUT: true; the input reads as it did. -/
def fnExactSetLineSpec : ChangeSpec := { name := "fnExactSetLine", fn := fun _ => fun
  | [d1, d2] => { results := [.lit (.bool true)], args := [d1, d2] }
  | _ => none }
def fnExactSetLineRow : OpenClaim := { program := "ytanpmjbephelaaa", sum := "3efb8fd776a2b6c7612b4dfa7ca2ea5689aae71927d3b445a2e59da95130845b", func := "loop.example/g01045/laws.FnExactSetLine", spec := "fnExactSetLine", apart := false }
def FnExactSetLineSaid : Prop := fnExactSetLineRow.holds Try.pinned (OpenSpec.ofChange fnExactSetLineSpec)

/-- ITS FALSE NEIGHBOUR: 'it returns false'. Refute it at one input. -/
def fnExactSetLineWrong : ChangeSpec := { name := "fnExactSetLine", fn := fun _ => fun
  | [d1, d2] => { results := [.lit (.bool false)], args := [d1, d2] }
  | _ => none }
def FnExactSetLineWrongFalsely : Prop := fnExactSetLineRow.holds Try.pinned (OpenSpec.ofChange fnExactSetLineWrong)

/-- 'laws.FnExactBestBreaks': WHATEVER THE INPUT: true; the input reads as it did. -/
def fnExactBestBreaksSpec : ChangeSpec := { name := "fnExactBestBreaks", fn := fun _ => fun
  | [d1, d2] => { results := [.lit (.bool true)], args := [d1, d2] }
  | _ => none }
def fnExactBestBreaksRow : OpenClaim := { program := "ytanpmjbephelaaa", sum := "3efb8fd776a2b6c7612b4dfa7ca2ea5689aae71927d3b445a2e59da95130845b", func := "loop.example/g01045/laws.FnExactBestBreaks", spec := "fnExactBestBreaks", apart := false }
def FnExactBestBreaksSaid : Prop := fnExactBestBreaksRow.holds Try.pinned (OpenSpec.ofChange fnExactBestBreaksSpec)

/-- ITS FALSE NEIGHBOUR: 'it returns false'. Refute it at one input. -/
def fnExactBestBreaksWrong : ChangeSpec := { name := "fnExactBestBreaks", fn := fun _ => fun
  | [d1, d2] => { results := [.lit (.bool false)], args := [d1, d2] }
  | _ => none }
def FnExactBestBreaksWrongFalsely : Prop := fnExactBestBreaksRow.holds Try.pinned (OpenSpec.ofChange fnExactBestBreaksWrong)

/-- 'laws.FnExactCentreBlock': WHATEVER THE INPUT: true; the input reads as it did. -/
def fnExactCentreBlockSpec : ChangeSpec := { name := "fnExactCentreBlock", fn := fun _ => fun
  | [d1, d2] => { results := [.lit (.bool true)], args := [d1, d2] }
  | _ => none }
def fnExactCentreBlockRow : OpenClaim := { program := "ytanpmjbephelaaa", sum := "3efb8fd776a2b6c7612b4dfa7ca2ea5689aae71927d3b445a2e59da95130845b", func := "loop.example/g01045/laws.FnExactCentreBlock", spec := "fnExactCentreBlock", apart := false }
def FnExactCentreBlockSaid : Prop := fnExactCentreBlockRow.holds Try.pinned (OpenSpec.ofChange fnExactCentreBlockSpec)

/-- ITS FALSE NEIGHBOUR: 'it returns false'. Refute it at one input. -/
def fnExactCentreBlockWrong : ChangeSpec := { name := "fnExactCentreBlock", fn := fun _ => fun
  | [d1, d2] => { results := [.lit (.bool false)], args := [d1, d2] }
  | _ => none }
def FnExactCentreBlockWrongFalsely : Prop := fnExactCentreBlockRow.holds Try.pinned (OpenSpec.ofChange fnExactCentreBlockWrong)

/-- 'laws.FnExactTitlePage': WHATEVER THE INPUT: true; the input reads as it did. -/
def fnExactTitlePageSpec : ChangeSpec := { name := "fnExactTitlePage", fn := fun _ => fun
  | [d1, d2, d3] => { results := [.lit (.bool true)], args := [d1, d2, d3] }
  | _ => none }
def fnExactTitlePageRow : OpenClaim := { program := "ytanpmjbephelaaa", sum := "3efb8fd776a2b6c7612b4dfa7ca2ea5689aae71927d3b445a2e59da95130845b", func := "loop.example/g01045/laws.FnExactTitlePage", spec := "fnExactTitlePage", apart := false }
def FnExactTitlePageSaid : Prop := fnExactTitlePageRow.holds Try.pinned (OpenSpec.ofChange fnExactTitlePageSpec)

/-- ITS FALSE NEIGHBOUR: 'it returns false'. Refute it at one input. -/
def fnExactTitlePageWrong : ChangeSpec := { name := "fnExactTitlePage", fn := fun _ => fun
  | [d1, d2, d3] => { results := [.lit (.bool false)], args := [d1, d2, d3] }
  | _ => none }
def FnExactTitlePageWrongFalsely : Prop := fnExactTitlePageRow.holds Try.pinned (OpenSpec.ofChange fnExactTitlePageWrong)

/-- 'laws.FnExactBoxLines': WHATEVER THE INPUT: true; the input reads as it did. -/
def fnExactBoxLinesSpec : ChangeSpec := { name := "fnExactBoxLines", fn := fun _ => fun
  | [d] => { results := [.lit (.bool true)], args := [d] }
  | _ => none }
def fnExactBoxLinesRow : OpenClaim := { program := "ytanpmjbephelaaa", sum := "3efb8fd776a2b6c7612b4dfa7ca2ea5689aae71927d3b445a2e59da95130845b", func := "loop.example/g01045/laws.FnExactBoxLines", spec := "fnExactBoxLines", apart := false }
def FnExactBoxLinesSaid : Prop := fnExactBoxLinesRow.holds Try.pinned (OpenSpec.ofChange fnExactBoxLinesSpec)

/-- ITS FALSE NEIGHBOUR: 'it returns false'. Refute it at one input. -/
def fnExactBoxLinesWrong : ChangeSpec := { name := "fnExactBoxLines", fn := fun _ => fun
  | [d] => { results := [.lit (.bool false)], args := [d] }
  | _ => none }
def FnExactBoxLinesWrongFalsely : Prop := fnExactBoxLinesRow.holds Try.pinned (OpenSpec.ofChange fnExactBoxLinesWrong)

/-- 'laws.FnExactAlignNumbers': WHATEVER THE INPUT: true; the input reads as it did. -/
def fnExactAlignNumbersSpec : ChangeSpec := { name := "fnExactAlignNumbers", fn := fun _ => fun
  | [d] => { results := [.lit (.bool true)], args := [d] }
  | _ => none }
def fnExactAlignNumbersRow : OpenClaim := { program := "ytanpmjbephelaaa", sum := "3efb8fd776a2b6c7612b4dfa7ca2ea5689aae71927d3b445a2e59da95130845b", func := "loop.example/g01045/laws.FnExactAlignNumbers", spec := "fnExactAlignNumbers", apart := false }
def FnExactAlignNumbersSaid : Prop := fnExactAlignNumbersRow.holds Try.pinned (OpenSpec.ofChange fnExactAlignNumbersSpec)

/-- ITS FALSE NEIGHBOUR: 'it returns false'. Refute it at one input. -/
def fnExactAlignNumbersWrong : ChangeSpec := { name := "fnExactAlignNumbers", fn := fun _ => fun
  | [d] => { results := [.lit (.bool false)], args := [d] }
  | _ => none }
def FnExactAlignNumbersWrongFalsely : Prop := fnExactAlignNumbersRow.holds Try.pinned (OpenSpec.ofChange fnExactAlignNumbersWrong)

/-- 'laws.FnExactColumnWidths': WHATEVER THE INPUT: true; the input reads as it did. -/
def fnExactColumnWidthsSpec : ChangeSpec := { name := "fnExactColumnWidths", fn := fun _ => fun
  | [d] => { results := [.lit (.bool true)], args := [d] }
  | _ => none }
def fnExactColumnWidthsRow : OpenClaim := { program := "ytanpmjbephelaaa", sum := "3efb8fd776a2b6c7612b4dfa7ca2ea5689aae71927d3b445a2e59da95130845b", func := "loop.example/g01045/laws.FnExactColumnWidths", spec := "fnExactColumnWidths", apart := false }
def FnExactColumnWidthsSaid : Prop := fnExactColumnWidthsRow.holds Try.pinned (OpenSpec.ofChange fnExactColumnWidthsSpec)

/-- ITS FALSE NEIGHBOUR: 'it returns false'. Refute it at one input. -/
def fnExactColumnWidthsWrong : ChangeSpec := { name := "fnExactColumnWidths", fn := fun _ => fun
  | [d] => { results := [.lit (.bool false)], args := [d] }
  | _ => none }
def FnExactColumnWidthsWrongFalsely : Prop := fnExactColumnWidthsRow.holds Try.pinned (OpenSpec.ofChange fnExactColumnWidthsWrong)

/-- 'laws.FnExactTableLines': WHATEVER THE INPUT: true; the input reads as it did. -/
def fnExactTableLinesSpec : ChangeSpec := { name := "fnExactTableLines", fn := fun _ => fun
  | [d1, d2, d3] => { results := [.lit (.bool true)], args := [d1, d2, d3] }
  | _ => none }
def fnExactTableLinesRow : OpenClaim := { program := "ytanpmjbephelaaa", sum := "3efb8fd776a2b6c7612b4dfa7ca2ea5689aae71927d3b445a2e59da95130845b", func := "loop.example/g01045/laws.FnExactTableLines", spec := "fnExactTableLines", apart := false }
def FnExactTableLinesSaid : Prop := fnExactTableLinesRow.holds Try.pinned (OpenSpec.ofChange fnExactTableLinesSpec)

/-- ITS FALSE NEIGHBOUR: 'it returns false'. Refute it at one input. -/
def fnExactTableLinesWrong : ChangeSpec := { name := "fnExactTableLines", fn := fun _ => fun
  | [d1, d2, d3] => { results := [.lit (.bool false)], args := [d1, d2, d3] }
  | _ => none }
def FnExactTableLinesWrongFalsely : Prop := fnExactTableLinesRow.holds Try.pinned (OpenSpec.ofChange fnExactTableLinesWrong)

/-- 'laws.FnExactDearestPair': WHATEVER THE INPUT: true; the input reads as it did. -/
def fnExactDearestPairSpec : ChangeSpec := { name := "fnExactDearestPair", fn := fun _ => fun
  | [d1, d2, d3] => { results := [.lit (.bool true)], args := [d1, d2, d3] }
  | _ => none }
def fnExactDearestPairRow : OpenClaim := { program := "ytanpmjbephelaaa", sum := "3efb8fd776a2b6c7612b4dfa7ca2ea5689aae71927d3b445a2e59da95130845b", func := "loop.example/g01045/laws.FnExactDearestPair", spec := "fnExactDearestPair", apart := false }
def FnExactDearestPairSaid : Prop := fnExactDearestPairRow.holds Try.pinned (OpenSpec.ofChange fnExactDearestPairSpec)

/-- ITS FALSE NEIGHBOUR: 'it returns false'. Refute it at one input. -/
def fnExactDearestPairWrong : ChangeSpec := { name := "fnExactDearestPair", fn := fun _ => fun
  | [d1, d2, d3] => { results := [.lit (.bool false)], args := [d1, d2, d3] }
  | _ => none }
def FnExactDearestPairWrongFalsely : Prop := fnExactDearestPairRow.holds Try.pinned (OpenSpec.ofChange fnExactDearestPairWrong)

/- THE SECOND FORM. 'bulk': how many values and letters a reading holds, each counted each time it is reached (what is shared counts as often as it is met; a slice's spare places count too). A statement '..UptoSaid' is the law's where the arguments, and the package variables that the reading takes, are together of bulk at most 1048576: NARROWER than '..Said'. Prove '..Said' where nothing that the law and all that it calls make is longer than what came in: it says more and counts as full. Else prove '..UptoSaid'. A law counts once. -/
mutual
def uptoBulk {H : Type} : DataW H → Nat
  | .lit (.string bytes) => bytes.length + 1
  | .lit _ => 1
  | .nil => 1
  | .ptr d => uptoBulk d + 1
  | .slice elems spare => uptoBulkAll elems + uptoBulkAll spare + 1
  | .agg parts => uptoBulkAll parts + 1
  | .iface _ d => uptoBulk d + 1
  | .map entries => uptoBulkEntries entries + 1
  | .held _ => 1
def uptoBulkAll {H : Type} : List (DataW H) → Nat
  | [] => 0
  | d :: r => uptoBulk d + uptoBulkAll r
def uptoBulkEntries {H : Type} : List (Lit × DataW H) → Nat
  | [] => 0
  | x :: r => uptoBulkEntry x + uptoBulkEntries r
def uptoBulkEntry {H : Type} : Lit × DataW H → Nat
  | (.string bytes, d) => bytes.length + uptoBulk d + 1
  | (_, d) => uptoBulk d + 1
 end
def uptoSmall : (H : Type) → List (DataW H) → Bool := fun _ ds => decide (uptoBulkAll ds ≤ 1048576)
def OpenSpec.upto (s : _root_.Go.ChangeSpec) : _root_.Go.OpenSpec := { _root_.Go.OpenSpec.ofChange s with cond := some uptoSmall }

/-- 'laws.FnExactSetText', WHERE WHAT IT READS IS OF BULK AT MOST 1048576: true; the input reads as it did. -/
def fnExactSetTextUptoRow : OpenClaim := { program := "ytanpmjbephelaaa", sum := "3efb8fd776a2b6c7612b4dfa7ca2ea5689aae71927d3b445a2e59da95130845b", func := "loop.example/g01045/laws.FnExactSetText", spec := "fnExactSetText", inPlace := ["internal/abi.NoEscape", "internal/bytealg.MakeNoZero"], apart := false, narrowed := true }
def FnExactSetTextUptoSaid : Prop := fnExactSetTextUptoRow.holds Try.pinned (OpenSpec.upto fnExactSetTextSpec)

/-- 'laws.FnExactWordsOfLines', WHERE WHAT IT READS IS OF BULK AT MOST 1048576: true; the input reads as it did. -/
def fnExactWordsOfLinesUptoRow : OpenClaim := { program := "ytanpmjbephelaaa", sum := "3efb8fd776a2b6c7612b4dfa7ca2ea5689aae71927d3b445a2e59da95130845b", func := "loop.example/g01045/laws.FnExactWordsOfLines", spec := "fnExactWordsOfLines", apart := false, narrowed := true }
def FnExactWordsOfLinesUptoSaid : Prop := fnExactWordsOfLinesUptoRow.holds Try.pinned (OpenSpec.upto fnExactWordsOfLinesSpec)

/-- 'laws.FnExactSetLine', WHERE WHAT IT READS IS OF BULK AT MOST 1048576: true; the input reads as it did. -/
def fnExactSetLineUptoRow : OpenClaim := { program := "ytanpmjbephelaaa", sum := "3efb8fd776a2b6c7612b4dfa7ca2ea5689aae71927d3b445a2e59da95130845b", func := "loop.example/g01045/laws.FnExactSetLine", spec := "fnExactSetLine", apart := false, narrowed := true }
def FnExactSetLineUptoSaid : Prop := fnExactSetLineUptoRow.holds Try.pinned (OpenSpec.upto fnExactSetLineSpec)

/-- 'laws.FnExactBestBreaks', WHERE WHAT IT READS IS OF BULK AT MOST 1048576: true; the input reads as it did. -/
def fnExactBestBreaksUptoRow : OpenClaim := { program := "ytanpmjbephelaaa", sum := "3efb8fd776a2b6c7612b4dfa7ca2ea5689aae71927d3b445a2e59da95130845b", func := "loop.example/g01045/laws.FnExactBestBreaks", spec := "fnExactBestBreaks", apart := false, narrowed := true }
def FnExactBestBreaksUptoSaid : Prop := fnExactBestBreaksUptoRow.holds Try.pinned (OpenSpec.upto fnExactBestBreaksSpec)

/-- 'laws.FnExactCentreBlock', WHERE WHAT IT READS IS OF BULK AT MOST 1048576: true; the input reads as it did. -/
def fnExactCentreBlockUptoRow : OpenClaim := { program := "ytanpmjbephelaaa", sum := "3efb8fd776a2b6c7612b4dfa7ca2ea5689aae71927d3b445a2e59da95130845b", func := "loop.example/g01045/laws.FnExactCentreBlock", spec := "fnExactCentreBlock", apart := false, narrowed := true }
def FnExactCentreBlockUptoSaid : Prop := fnExactCentreBlockUptoRow.holds Try.pinned (OpenSpec.upto fnExactCentreBlockSpec)

/-- 'laws.FnExactTitlePage', WHERE WHAT IT READS IS OF BULK AT MOST 1048576: true; the input reads as it did. -/
def fnExactTitlePageUptoRow : OpenClaim := { program := "ytanpmjbephelaaa", sum := "3efb8fd776a2b6c7612b4dfa7ca2ea5689aae71927d3b445a2e59da95130845b", func := "loop.example/g01045/laws.FnExactTitlePage", spec := "fnExactTitlePage", apart := false, narrowed := true }
def FnExactTitlePageUptoSaid : Prop := fnExactTitlePageUptoRow.holds Try.pinned (OpenSpec.upto fnExactTitlePageSpec)

/-- 'laws.FnExactBoxLines', WHERE WHAT IT READS IS OF BULK AT MOST 1048576: true; the input reads as it did. -/
def fnExactBoxLinesUptoRow : OpenClaim := { program := "ytanpmjbephelaaa", sum := "3efb8fd776a2b6c7612b4dfa7ca2ea5689aae71927d3b445a2e59da95130845b", func := "loop.example/g01045/laws.FnExactBoxLines", spec := "fnExactBoxLines", apart := false, narrowed := true }
def FnExactBoxLinesUptoSaid : Prop := fnExactBoxLinesUptoRow.holds Try.pinned (OpenSpec.upto fnExactBoxLinesSpec)

/-- 'laws.FnExactAlignNumbers', WHERE WHAT IT READS IS OF BULK AT MOST 1048576: true; the input reads as it did. -/
def fnExactAlignNumbersUptoRow : OpenClaim := { program := "ytanpmjbephelaaa", sum := "3efb8fd776a2b6c7612b4dfa7ca2ea5689aae71927d3b445a2e59da95130845b", func := "loop.example/g01045/laws.FnExactAlignNumbers", spec := "fnExactAlignNumbers", apart := false, narrowed := true }
def FnExactAlignNumbersUptoSaid : Prop := fnExactAlignNumbersUptoRow.holds Try.pinned (OpenSpec.upto fnExactAlignNumbersSpec)

/-- 'laws.FnExactColumnWidths', WHERE WHAT IT READS IS OF BULK AT MOST 1048576: true; the input reads as it did. -/
def fnExactColumnWidthsUptoRow : OpenClaim := { program := "ytanpmjbephelaaa", sum := "3efb8fd776a2b6c7612b4dfa7ca2ea5689aae71927d3b445a2e59da95130845b", func := "loop.example/g01045/laws.FnExactColumnWidths", spec := "fnExactColumnWidths", apart := false, narrowed := true }
def FnExactColumnWidthsUptoSaid : Prop := fnExactColumnWidthsUptoRow.holds Try.pinned (OpenSpec.upto fnExactColumnWidthsSpec)

/-- 'laws.FnExactTableLines', WHERE WHAT IT READS IS OF BULK AT MOST 1048576: true; the input reads as it did. -/
def fnExactTableLinesUptoRow : OpenClaim := { program := "ytanpmjbephelaaa", sum := "3efb8fd776a2b6c7612b4dfa7ca2ea5689aae71927d3b445a2e59da95130845b", func := "loop.example/g01045/laws.FnExactTableLines", spec := "fnExactTableLines", apart := false, narrowed := true }
def FnExactTableLinesUptoSaid : Prop := fnExactTableLinesUptoRow.holds Try.pinned (OpenSpec.upto fnExactTableLinesSpec)

/-- 'laws.FnExactDearestPair', WHERE WHAT IT READS IS OF BULK AT MOST 1048576: true; the input reads as it did. -/
def fnExactDearestPairUptoRow : OpenClaim := { program := "ytanpmjbephelaaa", sum := "3efb8fd776a2b6c7612b4dfa7ca2ea5689aae71927d3b445a2e59da95130845b", func := "loop.example/g01045/laws.FnExactDearestPair", spec := "fnExactDearestPair", apart := false, narrowed := true }
def FnExactDearestPairUptoSaid : Prop := fnExactDearestPairUptoRow.holds Try.pinned (OpenSpec.upto fnExactDearestPairSpec)

end Rows
end Go.Proofs.Ytanpmjbephelaaa
