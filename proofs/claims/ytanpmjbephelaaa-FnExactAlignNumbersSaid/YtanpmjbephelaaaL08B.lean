/-
  NextStop, ClearStop, SetStop: what each returns, for all arguments.
-/
import Derived.Test.YtanpmjbephelaaaL08A
import Derived.Test.YtanpmjbephelaaaInts
namespace Go.Proofs.Ytanpmjbephelaaa
set_option maxRecDepth 100000
open Go.RowKit

/-! ### NextStop -/
def nextStop (xs : List Int) (col : Int) : Int × Int :=
  if rackCode xs col = 0 then (match xs.find? (fun s => decide (col < s)) with | some s => (s, 0) | none => (0, 3)) else (0, rackCode xs col)
def nextGo (col : Int) (xs : List Int) : Int × Int := match xs.find? (fun s => decide (col < s)) with | some s => (s, 0) | none => (0, 3)
theorem nextGo_cons (col x : Int) (xs : List Int) : nextGo col (x :: xs) = if col < x then (x, 0) else nextGo col xs := by
  unfold nextGo; by_cases h : col < x <;> simp [h]


/-! ### ClearStop -/
def hasB : List Int → Int → Bool
  | [], _ => false
  | x :: xs, n => if x = n then true else hasB xs n
theorem hasB_iff (xs : List Int) (n : Int) : hasB xs n = true ↔ n ∈ xs := by
  induction xs with
  | nil => simp [hasB]
  | cons x xs ih =>
    by_cases h : x = n
    · simp [hasB, h]
    · simp [hasB, h, ih, show ¬ n = x from fun e => h e.symm]
def clearStop (xs : List Int) (col : Int) : List Int × Int :=
  if rackCode xs col = 0 then (if hasB xs col = true then (xs.filter (fun s => s != col), 0) else ([], 3)) else ([], rackCode xs col)
theorem filter_step {xs : List Int} {k : Nat} {x col : Int} (hx : xs[k]? = some x) (acc : List Int) (h : acc ++ (xs.drop k).filter (fun s => s != col) = xs.filter (fun s => s != col)) :
    (if x = col then acc else acc ++ [x]) ++ (xs.drop (k + 1)).filter (fun s => s != col) = xs.filter (fun s => s != col) := by
  rw [drop_get hx, List.filter_cons] at h
  by_cases hc : x = col
  · simp [hc] at h ⊢; exact h
  · simp [hc] at h ⊢; exact h
theorem filter_len (xs : List Int) (col : Int) : (xs.filter (fun s => s != col)).length = xs.length ↔ ¬ hasB xs col = true := by
  rw [hasB_iff, List.length_filter_eq_length_iff]
  constructor
  · intro h hm
    simpa using h col hm
  · intro h a ha
    simp only [bne_iff_ne, ne_eq]
    rintro rfl
    exact h ha
theorem clearStop_len (xs : List Int) (col : Int) : (clearStop xs col).1.length ≤ xs.length := by
  unfold clearStop
  split
  · split
    · exact List.length_filter_le _ _
    · simp
  · simp
end Go.Proofs.Ytanpmjbephelaaa
