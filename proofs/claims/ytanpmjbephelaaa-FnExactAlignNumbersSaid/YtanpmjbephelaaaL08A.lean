/-
  Racks of stops: is a list a rack, and the code of a rack and a column.
-/
import Derived.Test.YtanpmjbephelaaaRises
namespace Go.Proofs.Ytanpmjbephelaaa
set_option maxRecDepth 100000
open Go.RowKit

theorem between_any (n lo hi : Int) (w : World) :
    Calls Try.prog 77 #[.int .i64 n, .int .i64 lo, .int .i64 hi] w fun e w' => e = .returned (.bool (inB n lo hi)) ∧ w = w' := by
  go_enter Try.func77, Try.ntmps77
  go_wp2
  all_goals go_ret
  all_goals (refine ⟨?_, rfl⟩; simp [inB]; try omega)
def okRack (xs : List Int) : Bool := decide (xs.length ≤ 12) && rises 0 119 none xs

def rackCode (xs : List Int) (col : Int) : Int := if okRack xs = true then (if inB col 0 119 = true then 0 else 2) else 1

end Go.Proofs.Ytanpmjbephelaaa
