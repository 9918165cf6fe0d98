/-
  The helpers of the laws over []int64: copy, compare, mark, hold.
-/
import Derived.Test.YtcgjgelapjdihaaWords
namespace Go.Proofs.Ytcgjgelapjdihaa
set_option maxRecDepth 100000
open Go.RowKit

theorem int64_info : (Try.prog.info? 2).map (fun i => (i.zero, i.size, i.bytes)) = some (some (.int .i64 0), 1, 8) := by kernel_rfl

/-! ### toInt64S -/
theorem part_step_i (xs : List Int) (k n : Nat) (x : Int) (hn : xs.length = n) (hx : xs[k]? = some x) :
    ((xs.take k).map (Value.int .i64) ++ List.replicate (n - k) (Value.int .i64 0)).set k (.int .i64 x) = (xs.take (k + 1)).map (Value.int .i64) ++ List.replicate (n - (k + 1)) (Value.int .i64 0) := by
  obtain ⟨h1, h2⟩ := List.getElem?_eq_some_iff.1 hx
  have hl : ((xs.take k).map (Value.int .i64)).length = k := by simp; omega
  rw [List.set_append_right _ _ (by omega), hl, Nat.sub_self, show n - k = (n - (k + 1)) + 1 from by omega, List.replicate_succ, List.set_cons_zero, List.take_succ_eq_append_getElem h1, h2]
  simp


/-! ### markInt64S, heldInt64S -/
def marksI (k0 : Int) (n : Nat) : List Value := (List.range n).map fun j : Nat => Value.int .i64 (k0 + (j : Int))
theorem marksI_length (k0 : Int) (n : Nat) : (marksI k0 n).length = n := by simp [marksI]
theorem marksI_get (k0 : Int) (n j : Nat) (h : j < n) : (marksI k0 n)[j]? = some (.int .i64 (k0 + j)) := by simp [marksI, h]
theorem marksI_succ (k0 : Int) (n : Nat) : marksI k0 (n + 1) = marksI k0 n ++ [.int .i64 (k0 + n)] := by simp [marksI, List.range_succ]
theorem marksI_step (k0 : Int) (j n : Nat) (xs : List Value) (hx : xs.length = n) (hj : j < n) : (marksI k0 j ++ xs.drop j).set j (.int .i64 (k0 + j)) = marksI k0 (j + 1) ++ xs.drop (j + 1) := by
  rw [List.set_append_right _ _ (by simp [marksI_length]), marksI_length, Nat.sub_self, List.drop_eq_getElem_cons (by omega), List.set_cons_zero, marksI_succ]
  simp

end Go.Proofs.Ytcgjgelapjdihaa
