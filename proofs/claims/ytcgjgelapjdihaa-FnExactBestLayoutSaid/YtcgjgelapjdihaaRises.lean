/-
  Do numbers rise, within bounds: the contract of the reference's l00Rises; and small leaves.
-/
import Derived.Test.YtcgjgelapjdihaaWords
namespace Go.Proofs.Ytcgjgelapjdihaa
set_option maxRecDepth 100000
open Go.RowKit

theorem quiet_left {P : Program} {f : FuncId} {args : Array Value} {w : World} {n : Nat} {v : Value}
    (h : Calls P f args (w.drewN n) fun e w' => e = .returned v ∧ w.drewN n = w') : Calls P f args (w.drewN n) fun e w'' => e = .returned v ∧ ∃ m, w'' = w.drewN m :=
  h.mono fun _ _ ⟨he, hm⟩ => ⟨he, n, hm.symm⟩
theorem l00In_any (n lo hi : Int) (w : World) :
    Calls Try.prog 32 #[.int .i64 n, .int .i64 lo, .int .i64 hi] w fun e w' => e = .returned (.bool (inB n lo hi)) ∧ w = w' := by
  go_enter Try.func32, Try.ntmps32
  go_wp2
  all_goals go_ret
  all_goals (refine ⟨?_, rfl⟩; simp [inB]; try omega)
def notAbove : Option Int → Int → Bool
  | none, _ => false
  | some y, x => decide (x ≤ y)
def rises (lo hi : Int) : Option Int → List Int → Bool
  | _, [] => true
  | p, x :: xs => if inB x lo hi = true then (if notAbove p x = true then false else rises lo hi (some x) xs) else false
def prev (xs : List Int) (k : Nat) : Option Int := if k = 0 then none else xs[k - 1]?

end Go.Proofs.Ytcgjgelapjdihaa
