/-
  No cell of these rows narrows 'for every input' (looked for: loops, veiled, ifaces, maps, wideKeys, modest, calm, conditions, laid).
  DERIVED. THE GIVEN ROWS OF THIS SEAT. 5 by the template 'for every input the law returns true; each argument reads behind the call as it read before'; 0 by the template 'total and deterministic' (their statements: YtogpplaccnlnmaaTotals.lean).
  GIVEN WITH THE SEED: the statements are not yours to turn. If you find one false, say at which input.
  Laid BY PROGRAM, IN A SANDBOX (cutbox-rows.mjs): the forced cells as the released guide's own fill.sh prints them over the translation 864ed7a2319f3a79… (all of the seat's roots in one cut). By AI agents, Wed Nov 11 2026. No macro, syntax, notation, axiom, sorry.
-/
import Derived.Test.YtogpplaccnlnmaaChecked
import GoSem.Claim
import GoSem.ClaimJoined
import GoSem.ClaimMapViews
import Derived.JoinedTies
import Derived.KernelRfl
namespace Go.Proofs.Ytogpplaccnlnmaa
/- THE CELL 'sum', in the pinned program and in every row, IS THE sha256 OF THE DUMP (.gsa) THAT YtogpplaccnlnmaaProg.lean LOADS. Nothing in Lean hashes anything: it is a label: what it is worth is what the hold of that sum in a sandbox is worth. -/
noncomputable def Try.pinned : Pinned := { name := "ytogpplaccnlnmaa", sum := "864ed7a2319f3a796706c72b781bf754e27af8ed0487b4b50bc01337f27d2c53", checked := Try.checked }
namespace Rows
def none {H : Type} : Left H := { results := [], args := [] }

/-- 'laws.FnExactValidCarbon': WHATEVER THE INPUT: true; the input reads as it did. -/
def fnExactValidCarbonSpec : ChangeSpec := { name := "fnExactValidCarbon", fn := fun _ => fun
  | [d] => { results := [.lit (.bool true)], args := [d] }
  | _ => none }
def fnExactValidCarbonRow : OpenClaim := { program := "ytogpplaccnlnmaa", sum := "864ed7a2319f3a796706c72b781bf754e27af8ed0487b4b50bc01337f27d2c53", func := "loop.example/g01045/laws.FnExactValidCarbon", spec := "fnExactValidCarbon", apart := false }
def FnExactValidCarbonSaid : Prop := fnExactValidCarbonRow.holds Try.pinned (OpenSpec.ofChange fnExactValidCarbonSpec)

/-- ITS FALSE NEIGHBOUR: 'it returns false'. Refute it at one input. -/
def fnExactValidCarbonWrong : ChangeSpec := { name := "fnExactValidCarbon", fn := fun _ => fun
  | [d] => { results := [.lit (.bool false)], args := [d] }
  | _ => none }
def FnExactValidCarbonWrongFalsely : Prop := fnExactValidCarbonRow.holds Try.pinned (OpenSpec.ofChange fnExactValidCarbonWrong)

/-- 'laws.FnExactValidWays': WHATEVER THE INPUT: true; the input reads as it did. -/
def fnExactValidWaysSpec : ChangeSpec := { name := "fnExactValidWays", fn := fun _ => fun
  | [d] => { results := [.lit (.bool true)], args := [d] }
  | _ => none }
def fnExactValidWaysRow : OpenClaim := { program := "ytogpplaccnlnmaa", sum := "864ed7a2319f3a796706c72b781bf754e27af8ed0487b4b50bc01337f27d2c53", func := "loop.example/g01045/laws.FnExactValidWays", spec := "fnExactValidWays", apart := false }
def FnExactValidWaysSaid : Prop := fnExactValidWaysRow.holds Try.pinned (OpenSpec.ofChange fnExactValidWaysSpec)

/-- ITS FALSE NEIGHBOUR: 'it returns false'. Refute it at one input. -/
def fnExactValidWaysWrong : ChangeSpec := { name := "fnExactValidWays", fn := fun _ => fun
  | [d] => { results := [.lit (.bool false)], args := [d] }
  | _ => none }
def FnExactValidWaysWrongFalsely : Prop := fnExactValidWaysRow.holds Try.pinned (OpenSpec.ofChange fnExactValidWaysWrong)

/-- 'laws.FnExactGoodCopies': WHATEVER THE INPUT: true; the input reads as it did. -/
def fnExactGoodCopiesSpec : ChangeSpec := { name := "fnExactGoodCopies", fn := fun _ => fun
  | [d] => { results := [.lit (.bool true)], args := [d] }
  | _ => none }
def fnExactGoodCopiesRow : OpenClaim := { program := "ytogpplaccnlnmaa", sum := "864ed7a2319f3a796706c72b781bf754e27af8ed0487b4b50bc01337f27d2c53", func := "loop.example/g01045/laws.FnExactGoodCopies", spec := "fnExactGoodCopies", apart := false }
def FnExactGoodCopiesSaid : Prop := fnExactGoodCopiesRow.holds Try.pinned (OpenSpec.ofChange fnExactGoodCopiesSpec)

/-- ITS FALSE NEIGHBOUR: 'it returns false'. Refute it at one input. -/
def fnExactGoodCopiesWrong : ChangeSpec := { name := "fnExactGoodCopies", fn := fun _ => fun
  | [d] => { results := [.lit (.bool false)], args := [d] }
  | _ => none }
def FnExactGoodCopiesWrongFalsely : Prop := fnExactGoodCopiesRow.holds Try.pinned (OpenSpec.ofChange fnExactGoodCopiesWrong)

/-- 'laws.FnExactStrengthAt': WHATEVER THE INPUT: true; the input reads as it did. -/
def fnExactStrengthAtSpec : ChangeSpec := { name := "fnExactStrengthAt", fn := fun _ => fun
  | [d1, d2] => { results := [.lit (.bool true)], args := [d1, d2] }
  | _ => none }
def fnExactStrengthAtRow : OpenClaim := { program := "ytogpplaccnlnmaa", sum := "864ed7a2319f3a796706c72b781bf754e27af8ed0487b4b50bc01337f27d2c53", func := "loop.example/g01045/laws.FnExactStrengthAt", spec := "fnExactStrengthAt", apart := false }
def FnExactStrengthAtSaid : Prop := fnExactStrengthAtRow.holds Try.pinned (OpenSpec.ofChange fnExactStrengthAtSpec)

/-- ITS FALSE NEIGHBOUR: 'it returns false'. Refute it at one input. -/
def fnExactStrengthAtWrong : ChangeSpec := { name := "fnExactStrengthAt", fn := fun _ => fun
  | [d1, d2] => { results := [.lit (.bool false)], args := [d1, d2] }
  | _ => none }
def FnExactStrengthAtWrongFalsely : Prop := fnExactStrengthAtRow.holds Try.pinned (OpenSpec.ofChange fnExactStrengthAtWrong)

/-- 'laws.FnExactForceFor': WHATEVER THE INPUT: true; the input reads as it did. -/
def fnExactForceForSpec : ChangeSpec := { name := "fnExactForceFor", fn := fun _ => fun
  | [d1, d2] => { results := [.lit (.bool true)], args := [d1, d2] }
  | _ => none }
def fnExactForceForRow : OpenClaim := { program := "ytogpplaccnlnmaa", sum := "864ed7a2319f3a796706c72b781bf754e27af8ed0487b4b50bc01337f27d2c53", func := "loop.example/g01045/laws.FnExactForceFor", spec := "fnExactForceFor", apart := false }
def FnExactForceForSaid : Prop := fnExactForceForRow.holds Try.pinned (OpenSpec.ofChange fnExactForceForSpec)

/-- ITS FALSE NEIGHBOUR: 'it returns false'. Refute it at one input. -/
def fnExactForceForWrong : ChangeSpec := { name := "fnExactForceFor", fn := fun _ => fun
  | [d1, d2] => { results := [.lit (.bool false)], args := [d1, d2] }
  | _ => none }
def FnExactForceForWrongFalsely : Prop := fnExactForceForRow.holds Try.pinned (OpenSpec.ofChange fnExactForceForWrong)

/- THE SECOND FORM. 'bulk': how many values and letters a reading holds, each counted each time it is reached (what is shared counts as often as it is met; a slice's spare places count too). A statement '..UptoSaid' is the law's where the arguments, and the package variables that the reading takes, are together of bulk at most 1048576: NARROWER than '..Said'. Prove '..Said' where nothing that the law and all that it calls make is longer than what came in: it says more and counts as full. Else prove '..UptoSaid'. A law counts once. -/
mutual
def uptoBulk {H : Type} : DataW H → Nat
  | .lit (.string bytes) => bytes.length + 1
  | .lit _ => 1
  | .nil => 1
  | .ptr d => uptoBulk d + 1
  | .slice elems spare => uptoBulkAll elems + uptoBulkAll spare + 1
  | .agg parts => uptoBulkAll parts + 1
  | .iface _ d => uptoBulk d + 1
  | .map entries => uptoBulkEntries entries + 1
  | .held _ => 1
def uptoBulkAll {H : Type} : List (DataW H) → Nat
  | [] => 0
  | d :: r => uptoBulk d + uptoBulkAll r
def uptoBulkEntries {H : Type} : List (Lit × DataW H) → Nat
  | [] => 0
  | x :: r => uptoBulkEntry x + uptoBulkEntries r
def uptoBulkEntry {H : Type} : Lit × DataW H → Nat
  | (.string bytes, d) => bytes.length + uptoBulk d + 1
  | (_, d) => uptoBulk d + 1
 end
def uptoSmall : (H : Type) → List (DataW H) → Bool := fun _ ds => decide (uptoBulkAll ds ≤ 1048576)
def OpenSpec.upto (s : _root_.Go.ChangeSpec) : _root_.Go.OpenSpec := { _root_.Go.OpenSpec.ofChange s with cond := some uptoSmall }

/-- 'laws.FnExactValidCarbon', WHERE WHAT IT READS IS OF BULK AT MOST 1048576: true; the input reads as it did. -/
def fnExactValidCarbonUptoRow : OpenClaim := { program := "ytogpplaccnlnmaa", sum := "864ed7a2319f3a796706c72b781bf754e27af8ed0487b4b50bc01337f27d2c53", func := "loop.example/g01045/laws.FnExactValidCarbon", spec := "fnExactValidCarbon", apart := false, narrowed := true }
def FnExactValidCarbonUptoSaid : Prop := fnExactValidCarbonUptoRow.holds Try.pinned (OpenSpec.upto fnExactValidCarbonSpec)

/-- 'laws.FnExactValidWays', WHERE WHAT IT READS IS OF BULK AT MOST 1048576: true; the input reads as it did. -/
def fnExactValidWaysUptoRow : OpenClaim := { program := "ytogpplaccnlnmaa", sum := "864ed7a2319f3a796706c72b781bf754e27af8ed0487b4b50bc01337f27d2c53", func := "loop.example/g01045/laws.FnExactValidWays", spec := "fnExactValidWays", apart := false, narrowed := true }
def FnExactValidWaysUptoSaid : Prop := fnExactValidWaysUptoRow.holds Try.pinned (OpenSpec.upto fnExactValidWaysSpec)

/-- 'laws.FnExactGoodCopies', WHERE WHAT IT READS IS OF BULK AT MOST 1048576: true; the input reads as it did. -/
def fnExactGoodCopiesUptoRow : OpenClaim := { program := "ytogpplaccnlnmaa", sum := "864ed7a2319f3a796706c72b781bf754e27af8ed0487b4b50bc01337f27d2c53", func := "loop.example/g01045/laws.FnExactGoodCopies", spec := "fnExactGoodCopies", apart := false, narrowed := true }
def FnExactGoodCopiesUptoSaid : Prop := fnExactGoodCopiesUptoRow.holds Try.pinned (OpenSpec.upto fnExactGoodCopiesSpec)

/-- 'laws.FnExactStrengthAt', WHERE WHAT IT READS IS OF BULK AT MOST 1048576: true; the input reads as it did. -/
def fnExactStrengthAtUptoRow : OpenClaim := { program := "ytogpplaccnlnmaa", sum := "864ed7a2319f3a796706c72b781bf754e27af8ed0487b4b50bc01337f27d2c53", func := "loop.example/g01045/laws.FnExactStrengthAt", spec := "fnExactStrengthAt", apart := false, narrowed := true }
def FnExactStrengthAtUptoSaid : Prop := fnExactStrengthAtUptoRow.holds Try.pinned (OpenSpec.upto fnExactStrengthAtSpec)

/-- 'laws.FnExactForceFor', WHERE WHAT IT READS IS OF BULK AT MOST 1048576: true; the input reads as it did. -/
def fnExactForceForUptoRow : OpenClaim := { program := "ytogpplaccnlnmaa", sum := "864ed7a2319f3a796706c72b781bf754e27af8ed0487b4b50bc01337f27d2c53", func := "loop.example/g01045/laws.FnExactForceFor", spec := "fnExactForceFor", apart := false, narrowed := true }
def FnExactForceForUptoSaid : Prop := fnExactForceForUptoRow.holds Try.pinned (OpenSpec.upto fnExactForceForSpec)

end Rows
end Go.Proofs.Ytogpplaccnlnmaa
