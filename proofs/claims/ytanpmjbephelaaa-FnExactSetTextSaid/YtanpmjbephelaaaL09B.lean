/-
  Breaks that fill each line as far as possible.
-/
import Derived.Test.YtanpmjbephelaaaL09A
import Derived.Test.YtanpmjbephelaaaInts
namespace Go.Proofs.Ytanpmjbephelaaa
set_option maxRecDepth 100000
open Go.RowKit

/-- The breaks from word i on, the line begun at word fr; f words to come. -/
def fbGo (xs : List ByteArray) (m : Int) : Nat → Nat → Nat → List Int
  | 0, _, _ => []
  | f + 1, i, fr => if m < lineL ((xs.take (i + 1)).drop fr) then (i : Int) :: fbGo xs m f (i + 1) i else fbGo xs m f (i + 1) fr
def firstB (xs : List ByteArray) (m : Int) : List Int := fbGo xs m (xs.length - 1) 1 0
theorem fbGo_len (xs : List ByteArray) (m : Int) : ∀ f i fr, (fbGo xs m f i fr).length ≤ f := by
  intro f
  induction f with
  | zero => intro i fr; exact Nat.le_refl _
  | succ f ih =>
    intro i fr
    rw [fbGo]
    split
    · have := ih (i + 1) i; rw [List.length_cons]; omega
    · have := ih (i + 1) fr; omega
theorem firstB_len (xs : List ByteArray) (m : Int) : (firstB xs m).length ≤ xs.length - 1 := fbGo_len _ _ _ _ _
theorem fbGo_step {xs : List ByteArray} {m : Int} {n i fr : Nat} (h : i < n) : fbGo xs m (n - i) i fr = if m < lineL ((xs.take (i + 1)).drop fr) then (i : Int) :: fbGo xs m (n - (i + 1)) (i + 1) i else fbGo xs m (n - (i + 1)) (i + 1) fr := by
  rw [show n - i = (n - (i + 1)) + 1 from by omega, fbGo]
theorem mem_part {xs : List ByteArray} {a b : Nat} {s : ByteArray} (h : s ∈ (xs.take b).drop a) : s ∈ xs := List.mem_of_mem_take (List.mem_of_mem_drop h)


/-! ### FirstBreaks, FewestLines, LeastWidth -/
def firstR (xs : List ByteArray) (m : Int) : List Int × Int := if validT xs m = true then (firstB xs m, 0) else ([], 1)
theorem firstR_len (xs : List ByteArray) (m : Int) : (firstR xs m).1.length ≤ 40 := by
  unfold firstR
  split
  · rename_i h
    have h1 := firstB_len xs m
    have h2 := (validT_facts h).2.1
    simp only; omega
  · simp
end Go.Proofs.Ytanpmjbephelaaa
