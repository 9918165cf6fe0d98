/-
  Orders of at most six things: the chain of next permutations is the depth-first walk; a rising map keeps the chain.
-/
import Derived.Test.YtcgjgelapjdihaaBase
namespace Go.Proofs.Ytcgjgelapjdihaa
set_option maxRecDepth 100000

def pivotN (l : List Nat) : Nat → Option Nat
  | 0 => none
  | i + 1 => if l.getD (i + 1) 0 ≤ l.getD i 0 then pivotN l i else some i
def lastN (l : List Nat) (x : Nat) : Nat → Nat
  | 0 => 0
  | k + 1 => if l.getD (k + 1) 0 ≤ x then lastN l x k else k + 1
def swapN (l : List Nat) (i k : Nat) : List Nat := (l.set i (l.getD k 0)).set k (l.getD i 0)
def revN (l : List Nat) : Nat → Nat → Nat → List Nat
  | 0, _, _ => l
  | f + 1, a, b => if a < b then revN (swapN l a b) f (a + 1) (b - 1) else l
def nextN (l : List Nat) : Option (List Nat) :=
  match pivotN l (l.length - 1) with
  | none => none
  | some i => some (revN (swapN l i (lastN l (l.getD i 0) (l.length - 1))) l.length (i + 1) (l.length - 1))
def chainN : Nat → List Nat → List (List Nat)
  | 0, _ => []
  | f + 1, l => l :: match nextN l with | none => [] | some r => chainN f r
def dfsN (n : Nat) : Nat → List Nat → List (List Nat)
  | 0, now => [now]
  | f + 1, now => (List.range n).flatMap fun c => if now.contains c then [] else dfsN n f (now ++ [c])
set_option maxRecDepth 100000 in
theorem chain_dfs1 : chainN 800 (List.range 1) = dfsN 1 1 [] := by decide +kernel
set_option maxRecDepth 100000 in
theorem chain_dfs2 : chainN 800 (List.range 2) = dfsN 2 2 [] := by decide +kernel
set_option maxRecDepth 100000 in
theorem chain_dfs3 : chainN 800 (List.range 3) = dfsN 3 3 [] := by decide +kernel
set_option maxRecDepth 100000 in
theorem chain_dfs4 : chainN 800 (List.range 4) = dfsN 4 4 [] := by decide +kernel
set_option maxRecDepth 100000 in
theorem chain_dfs5 : chainN 800 (List.range 5) = dfsN 5 5 [] := by decide +kernel
set_option maxRecDepth 100000 in
theorem chain_dfs6 : chainN 800 (List.range 6) = dfsN 6 6 [] := by decide +kernel
theorem chain_dfs {n : Nat} (h0 : 1 ≤ n) (h1 : n ≤ 6) : chainN 800 (List.range n) = dfsN n n [] := by
  match n, h0, h1 with
  | 1, _, _ => exact chain_dfs1
  | 2, _, _ => exact chain_dfs2
  | 3, _, _ => exact chain_dfs3
  | 4, _, _ => exact chain_dfs4
  | 5, _, _ => exact chain_dfs5
  | 6, _, _ => exact chain_dfs6

/-! ### the same on numbers that a rising list gives -/
def pivotI (l : List Int) : Nat → Option Nat
  | 0 => none
  | i + 1 => if l.getD (i + 1) 0 ≤ l.getD i 0 then pivotI l i else some i
def lastI (l : List Int) (x : Int) : Nat → Nat
  | 0 => 0
  | k + 1 => if l.getD (k + 1) 0 ≤ x then lastI l x k else k + 1
def swapI (l : List Int) (i k : Nat) : List Int := (l.set i (l.getD k 0)).set k (l.getD i 0)
def revI (l : List Int) : Nat → Nat → Nat → List Int
  | 0, _, _ => l
  | f + 1, a, b => if a < b then revI (swapI l a b) f (a + 1) (b - 1) else l
def nextI (l : List Int) : Option (List Int) :=
  match pivotI l (l.length - 1) with
  | none => none
  | some i => some (revI (swapI l i (lastI l (l.getD i 0) (l.length - 1))) l.length (i + 1) (l.length - 1))
def chainI : Nat → List Int → List (List Int)
  | 0, _ => []
  | f + 1, l => l :: match nextI l with | none => [] | some r => chainI f r
section
variable {g : Nat → Int} {n : Nat}
def Up (g : Nat → Int) (n : Nat) : Prop := ∀ i j, i < n → j < n → (g i ≤ g j ↔ i ≤ j)
def In (n : Nat) (l : List Nat) : Prop := ∀ x ∈ l, x < n
theorem getD_map {l : List Nat} {i : Nat} (h : i < l.length) : (l.map g).getD i 0 = g (l.getD i 0) := by
  rw [List.getD_eq_getElem?_getD, List.getD_eq_getElem?_getD, List.getElem?_map, List.getElem?_eq_getElem h]; rfl
theorem getD_in {l : List Nat} {i : Nat} (hl : In n l) (h : i < l.length) : l.getD i 0 < n := by
  rw [List.getD_eq_getElem?_getD, List.getElem?_eq_getElem h]
  exact hl _ (List.getElem_mem h)
theorem pivot_map {l : List Nat} (hu : Up g n) (hl : In n l) : ∀ i, i < l.length ∨ i = 0 → pivotI (l.map g) i = pivotN l i := by
  intro i
  induction i with
  | zero => intro _; rfl
  | succ i ih =>
    intro h
    have h1 : i + 1 < l.length := by omega
    rw [pivotI, pivotN, getD_map h1, getD_map (by omega), ih (.inl (by omega))]
    have := hu (l.getD (i + 1) 0) (l.getD i 0) (getD_in hl h1) (getD_in hl (by omega))
    by_cases hc : l.getD (i + 1) 0 ≤ l.getD i 0
    · rw [if_pos hc, if_pos (this.2 hc)]
    · rw [if_neg hc, if_neg (fun e => hc (this.1 e))]
theorem last_map {l : List Nat} {x : Nat} (hu : Up g n) (hl : In n l) (hx : x < n) : ∀ i, i < l.length ∨ i = 0 → lastI (l.map g) (g x) i = lastN l x i := by
  intro i
  induction i with
  | zero => intro _; rfl
  | succ i ih =>
    intro h
    have h1 : i + 1 < l.length := by omega
    rw [lastI, lastN, getD_map h1, ih (.inl (by omega))]
    have := hu (l.getD (i + 1) 0) x (getD_in hl h1) hx
    by_cases hc : l.getD (i + 1) 0 ≤ x
    · rw [if_pos hc, if_pos (this.2 hc)]
    · rw [if_neg hc, if_neg (fun e => hc (this.1 e))]
theorem swap_map {l : List Nat} {i k : Nat} (hi : i < l.length) (hk : k < l.length) : swapI (l.map g) i k = (swapN l i k).map g := by
  unfold swapI swapN
  rw [getD_map hi, getD_map hk, List.map_set, List.map_set]
theorem swap_len {l : List Nat} {i k : Nat} : (swapN l i k).length = l.length := by simp [swapN]
theorem swap_in {l : List Nat} {i k : Nat} (hl : In n l) (hi : i < l.length) (hk : k < l.length) : In n (swapN l i k) := by
  intro x hx
  unfold swapN at hx
  rcases List.mem_or_eq_of_mem_set hx with hx | rfl
  · rcases List.mem_or_eq_of_mem_set hx with hx | rfl
    · exact hl x hx
    · exact getD_in hl hk
  · exact getD_in hl hi
theorem rev_map : ∀ f (l : List Nat) a b, (b < l.length ∨ b ≤ a) → revI (l.map g) f a b = (revN l f a b).map g := by
  intro f
  induction f with
  | zero => intro l a b _; rfl
  | succ f ih =>
    intro l a b h
    rw [revI, revN]
    split
    · rw [swap_map (by omega) (by omega)]
      exact ih _ _ _ (.inl (by rw [swap_len]; omega))
    · rfl
theorem rev_in : ∀ f (l : List Nat) a b, (b < l.length ∨ b ≤ a) → In n l → In n (revN l f a b) ∧ (revN l f a b).length = l.length := by
  intro f
  induction f with
  | zero => intro l a b _ hl; exact ⟨hl, rfl⟩
  | succ f ih =>
    intro l a b h hl
    rw [revN]
    split
    · have := ih (swapN l a b) (a + 1) (b - 1) (.inl (by rw [swap_len]; omega)) (swap_in hl (by omega) (by omega))
      exact ⟨this.1, by rw [this.2, swap_len]⟩
    · exact ⟨hl, rfl⟩
theorem pivot_lt {l : List Nat} : ∀ i {p}, pivotN l i = some p → p < i := by
  intro i
  induction i with
  | zero => intro p h; cases h
  | succ i ih =>
    intro p h
    rw [pivotN] at h
    split at h
    · have := ih h; omega
    · cases h; omega
theorem last_le {l : List Nat} {x : Nat} : ∀ i, lastN l x i ≤ i := by
  intro i
  induction i with
  | zero => exact Nat.le_refl _
  | succ i ih => rw [lastN]; split <;> omega
theorem next_map {l : List Nat} (hu : Up g n) (hl : In n l) : nextI (l.map g) = (nextN l).map (fun r => r.map g) ∧ ∀ r, nextN l = some r → In n r ∧ r.length = l.length := by
  unfold nextI nextN
  rw [List.length_map]
  by_cases h0 : l.length = 0
  · rw [h0]; exact ⟨rfl, fun r h => by cases h⟩
  · rw [pivot_map hu hl _ (by omega)]
    cases hp : pivotN l (l.length - 1) with
    | none => exact ⟨rfl, fun r h => by cases h⟩
    | some i =>
      have hi := pivot_lt _ hp
      have hk := last_le (l := l) (x := l.getD i 0) (l.length - 1)
      simp only
      rw [getD_map (by omega), last_map hu hl (getD_in hl (by omega)) _ (by omega), swap_map (by omega) (by omega), rev_map _ _ _ _ (by rw [swap_len]; omega)]
      refine ⟨rfl, fun r h => ?_⟩
      cases h
      have := rev_in (n := n) l.length (swapN l i (lastN l (l.getD i 0) (l.length - 1))) (i + 1) (l.length - 1) (by rw [swap_len]; omega) (swap_in hl (by omega) (by omega))
      exact ⟨this.1, by rw [this.2, swap_len]⟩
theorem chain_map (hu : Up g n) : ∀ f (l : List Nat), In n l → chainI f (l.map g) = (chainN f l).map (fun r => r.map g) := by
  intro f
  induction f with
  | zero => intro l _; rfl
  | succ f ih =>
    intro l hl
    obtain ⟨h1, h2⟩ := next_map hu hl
    rw [chainI, chainN, h1]
    cases hn : nextN l with
    | none => rfl
    | some r =>
      simp only [Option.map_some, List.map_cons]
      rw [ih r (h2 r hn).1]
end
end Go.Proofs.Ytcgjgelapjdihaa
