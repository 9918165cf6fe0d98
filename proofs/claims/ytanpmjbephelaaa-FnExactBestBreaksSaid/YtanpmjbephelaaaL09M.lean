/-
  Best breaks, the plain law: what a line costs from each word on, and where the next line begins.
-/
import Derived.Test.YtanpmjbephelaaaL09A
namespace Go.Proofs.Ytanpmjbephelaaa
set_option maxRecDepth 100000
open Go.RowKit

/-- The length of the words from i to k as a line. -/
def seg (xs : List ByteArray) (i k : Nat) : Int := lineL ((xs.take k).drop i)
/-- What it costs to break in front of word k. -/
def vv (xs : List ByteArray) (m : Int) (T : Nat → Int) (i k : Nat) : Int := (m - seg xs i k) * (m - seg xs i k) + T k
def scanF (xs : List ByteArray) (m : Int) (T : Nat → Int) (i : Nat) : Nat → Nat → Int × Nat → Int × Nat
  | 0, _, b => b
  | f + 1, k, b => if seg xs i k ≤ m then scanF xs m T i f (k + 1) (if b.1 < 0 ∨ vv xs m T i k < b.1 then (vv xs m T i k, k) else b) else b
/-- The entry of word i. -/
def entry (xs : List ByteArray) (m : Int) (T : Nat → Int) (i : Nat) : Int × Nat :=
  if lineL (xs.drop i) ≤ m then (0, xs.length) else scanF xs m T i (xs.length - (i + 1)) (i + 1) (-1, xs.length)
/-- The entries of the last f words. -/
def tabF (xs : List ByteArray) (m : Int) : Nat → Nat → Int × Nat
  | 0, _ => (0, xs.length)
  | f + 1, j => if j = xs.length - (f + 1) then entry xs m (fun k => (tabF xs m f k).1) (xs.length - (f + 1)) else tabF xs m f j
def tab (xs : List ByteArray) (m : Int) (j : Nat) : Int × Nat := tabF xs m xs.length j
def cst (xs : List ByteArray) (m : Int) (j : Nat) : Int := (tab xs m j).1
def nxt (xs : List ByteArray) (m : Int) (j : Nat) : Nat := (tab xs m j).2

theorem scanF_congr {xs : List ByteArray} {m : Int} {T U : Nat → Int} {i : Nat} : ∀ f k b, (∀ j, k ≤ j → j < k + f → T j = U j) → scanF xs m T i f k b = scanF xs m U i f k b := by
  intro f
  induction f with
  | zero => intro k b _; rfl
  | succ f ih =>
    intro k b h
    rw [scanF, scanF]
    have e : vv xs m T i k = vv xs m U i k := by unfold vv; rw [h k (Nat.le_refl _) (by omega)]
    rw [e]
    split
    · exact ih _ _ (fun j h1 h2 => h j (by omega) (by omega))
    · rfl
theorem tabF_more {xs : List ByteArray} {m : Int} {f g j : Nat} (hfg : f ≤ g) (hg : g ≤ xs.length) (hj : xs.length - f ≤ j) : tabF xs m g j = tabF xs m f j := by
  induction g with
  | zero => rw [show f = 0 from by omega]
  | succ g ih =>
    by_cases h : f = g + 1
    · rw [h]
    · rw [tabF, if_neg (by omega), ih (by omega) (by omega)]
theorem tab_eq {xs : List ByteArray} {m : Int} {i : Nat} (hi : i < xs.length) : tab xs m i = entry xs m (cst xs m) i := by
  have h1 : tab xs m i = tabF xs m (xs.length - i) i := tabF_more (by omega) (Nat.le_refl _) (by omega)
  rw [h1, show xs.length - i = (xs.length - (i + 1)) + 1 from by omega, tabF, show xs.length - (xs.length - (i + 1) + 1) = i from by omega, if_pos rfl]
  unfold entry
  split
  · rfl
  · apply scanF_congr
    intro j h2 h3
    show (tabF xs m (xs.length - (i + 1)) j).1 = (tab xs m j).1
    rw [show tab xs m j = tabF xs m xs.length j from rfl, tabF_more (f := xs.length - (i + 1)) (by omega) (Nat.le_refl _) (by omega)]
theorem tab_end {xs : List ByteArray} {m : Int} : tab xs m xs.length = (0, xs.length) := by
  have h1 : tab xs m xs.length = tabF xs m 0 xs.length := tabF_more (by omega) (Nat.le_refl _) (by omega)
  rw [h1]; rfl

theorem sumSz_append (a b : List ByteArray) : sumSz (a ++ b) = sumSz a + sumSz b := by
  induction a with
  | nil => simp [sumSz]
  | cons x a ih => simp only [List.cons_append, sumSz, ih]; omega
theorem seg_mono {xs : List ByteArray} {i k : Nat} (hi : i ≤ k) (hk : k < xs.length) : seg xs i k ≤ seg xs i (k + 1) := by
  unfold seg
  have e : (xs.take (k + 1)).drop i = (xs.take k).drop i ++ [xs[k]] := by
    rw [List.take_succ_eq_append_getElem hk, List.drop_append_of_le_length (by rw [List.length_take]; omega)]
  rw [e]
  unfold lineL
  rw [sumSz_append, List.length_append, List.length_singleton]
  omega
theorem seg_le {xs : List ByteArray} {i : Nat} : ∀ d k, i ≤ k → k + d ≤ xs.length → seg xs i k ≤ seg xs i (k + d) := by
  intro d
  induction d with
  | zero => intro k _ _; exact Int.le_refl _
  | succ d ih =>
    intro k h1 h2
    have := ih k h1 (by omega)
    have h3 := seg_mono (xs := xs) (i := i) (k := k + d) (by omega) (by omega)
    rw [Nat.add_succ] at *
    exact Int.le_trans this h3
theorem seg_nonneg (xs : List ByteArray) (i k : Nat) : 0 ≤ seg xs i k := by unfold seg lineL; omega
theorem seg_one {xs : List ByteArray} {i : Nat} (hi : i < xs.length) : seg xs i (i + 1) = ((xs[i]).size : Int) := by
  unfold seg
  have e : (xs.take (i + 1)).drop i = [xs[i]] := by
    rw [List.take_succ_eq_append_getElem hi, List.drop_append_of_le_length (by rw [List.length_take]; omega), List.drop_eq_nil_of_le (by rw [List.length_take]; omega)]; rfl
  rw [e]
  unfold lineL
  simp only [sumSz, List.length_cons, List.length_nil]
  omega
theorem sq_nonneg' (x : Int) : 0 ≤ x * x := by
  rcases Int.le_total 0 x with h | h
  · exact Int.mul_nonneg h h
  · have := Int.mul_nonneg (Int.neg_nonneg.2 h) (Int.neg_nonneg.2 h)
    rwa [Int.neg_mul_neg] at this

/-- What a scan finds. -/
theorem scan_spec {xs : List ByteArray} {m : Int} {T : Nat → Int} {i : Nat} (hT : ∀ j, j ≤ xs.length → 0 ≤ T j) : ∀ f k b, i ≤ k → k + f ≤ xs.length →
    (scanF xs m T i f k b = b ∧ ∀ j, k ≤ j → j < k + f → seg xs i j ≤ m → 0 ≤ b.1 ∧ b.1 ≤ vv xs m T i j) ∨
    (k ≤ (scanF xs m T i f k b).2 ∧ (scanF xs m T i f k b).2 < k + f ∧ seg xs i (scanF xs m T i f k b).2 ≤ m ∧ (scanF xs m T i f k b).1 = vv xs m T i (scanF xs m T i f k b).2 ∧
      (b.1 < 0 ∨ (scanF xs m T i f k b).1 < b.1) ∧ ∀ j, k ≤ j → j < (scanF xs m T i f k b).2 → (scanF xs m T i f k b).1 < vv xs m T i j) := by
  intro f
  induction f with
  | zero => intro k b _ _; left; exact ⟨rfl, fun j h1 h2 => by omega⟩
  | succ f ih =>
    intro k b hik hkf
    rw [scanF]
    by_cases hfit : seg xs i k ≤ m
    · rw [if_pos hfit]
      have hv0 : 0 ≤ vv xs m T i k := by
        unfold vv
        have := sq_nonneg' (m - seg xs i k)
        have := hT k (by omega)
        omega
      by_cases hb : b.1 < 0 ∨ vv xs m T i k < b.1
      · rw [if_pos hb]
        rcases ih (k + 1) (vv xs m T i k, k) (by omega) (by omega) with ⟨h1, h2⟩ | ⟨h1, h2, h3, h4, h5, h6⟩
        · right
          rw [h1]
          exact ⟨Nat.le_refl _, by simp only; omega, hfit, rfl, hb, fun j h3 h4 => by simp only at h4; omega⟩
        · right
          refine ⟨by omega, by omega, h3, h4, ?_, ?_⟩
          · simp only at h5
            rcases hb with hb | hb
            · exact .inl hb
            · right
              rcases h5 with h5 | h5
              · omega
              · omega
          · intro j hj1 hj2
            by_cases hjk : j = k
            · subst hjk
              simp only at h5
              rcases h5 with h5 | h5
              · omega
              · exact h5
            · exact h6 j (by omega) hj2
      · rw [if_neg hb]
        have hb' : 0 ≤ b.1 ∧ b.1 ≤ vv xs m T i k := by
          constructor
          · rcases Int.lt_or_le b.1 0 with h | h
            · exact absurd (.inl h) hb
            · exact h
          · rcases Int.lt_or_le (vv xs m T i k) b.1 with h | h
            · exact absurd (.inr h) hb
            · exact h
        rcases ih (k + 1) b (by omega) (by omega) with ⟨h1, h2⟩ | ⟨h1, h2, h3, h4, h5, h6⟩
        · left
          refine ⟨h1, fun j hj1 hj2 hj3 => ?_⟩
          by_cases hjk : j = k
          · subst hjk; exact hb'
          · exact h2 j (by omega) (by omega) hj3
        · right
          refine ⟨by omega, by omega, h3, h4, h5, ?_⟩
          intro j hj1 hj2
          by_cases hjk : j = k
          · subst hjk
            rcases h5 with h5 | h5
            · omega
            · omega
          · exact h6 j (by omega) hj2
    · rw [if_neg hfit]
      left
      refine ⟨rfl, fun j h1 h2 h3 => ?_⟩
      have := seg_le (xs := xs) (i := i) (j - k) k hik (by omega)
      rw [show k + (j - k) = j from by omega] at this
      omega
theorem scan_zero {xs : List ByteArray} {m : Int} {T : Nat → Int} {i : Nat} (hT : ∀ j, j ≤ xs.length → 0 ≤ T j) : ∀ f k z, k + f ≤ xs.length → scanF xs m T i f k (0, z) = (0, z) := by
  intro f
  induction f with
  | zero => intro k z _; rfl
  | succ f ih =>
    intro k z h
    have hv0 : 0 ≤ vv xs m T i k := by
      unfold vv
      have := sq_nonneg' (m - seg xs i k)
      have := hT k (by omega)
      omega
    have hn : ¬ ((0 : Int) < 0 ∨ vv xs m T i k < 0) := by omega
    rw [scanF]
    by_cases hfit : seg xs i k ≤ m
    · rw [if_pos hfit]
      exact (congrArg (scanF xs m T i f (k + 1)) (if_neg hn)).trans (ih (k + 1) z (by omega))
    · rw [if_neg hfit]

section
variable {xs : List ByteArray} {m : Int}
theorem fits_last (hs : ∀ s ∈ xs, (s.size : Int) ≤ m) {i : Nat} (hi : i < xs.length) (hf : ¬ lineL (xs.drop i) ≤ m) : i + 1 < xs.length := by
  rcases Nat.lt_or_ge (i + 1) xs.length with h | h
  · exact h
  · exfalso
    apply hf
    have h1 := seg_one hi
    unfold seg at h1
    rw [List.take_of_length_le h] at h1
    rw [h1]
    exact hs _ (List.getElem_mem hi)
/-- All costs are in bounds; where the rest does not fit, the next line begins at a later word, the first with that cost. -/
theorem cst_all (hs : ∀ s ∈ xs, (s.size : Int) ≤ m) (hm : m ≤ 80) : ∀ d i, i + d = xs.length → 0 ≤ cst xs m i ∧ cst xs m i ≤ 6400 * d ∧
    (i < xs.length → ((lineL (xs.drop i) ≤ m ∧ tab xs m i = (0, xs.length)) ∨
      (¬ lineL (xs.drop i) ≤ m ∧ i < nxt xs m i ∧ nxt xs m i < xs.length ∧ seg xs i (nxt xs m i) ≤ m ∧ cst xs m i = vv xs m (cst xs m) i (nxt xs m i) ∧ ∀ j, i < j → j < nxt xs m i → cst xs m i < vv xs m (cst xs m) i j))) := by
  intro d
  induction d using Nat.strongRecOn with
  | _ d ih =>
    intro i hid
    by_cases hi : i < xs.length
    · have hT : ∀ j, i < j → j ≤ xs.length → 0 ≤ cst xs m j ∧ cst xs m j ≤ 6400 * (xs.length - j : Nat) := fun j h1 h2 => by
        have := ih (xs.length - j) (by omega) j (by omega)
        exact ⟨this.1, this.2.1⟩
      have he := tab_eq (m := m) hi
      by_cases hf : lineL (xs.drop i) ≤ m
      · have h0 : tab xs m i = (0, xs.length) := by rw [he, entry, if_pos hf]
        have hc : cst xs m i = 0 := by unfold cst; rw [h0]
        exact ⟨by omega, by omega, fun _ => .inl ⟨hf, h0⟩⟩
      · rw [entry, if_neg hf] at he
        -- costs at i and below do not matter to the scan
        have hcg : scanF xs m (cst xs m) i (xs.length - (i + 1)) (i + 1) (-1, xs.length) = scanF xs m (fun j => if i < j then cst xs m j else 0) i (xs.length - (i + 1)) (i + 1) (-1, xs.length) :=
          scanF_congr _ _ _ (fun j h1 h2 => by rw [if_pos (by omega)])
        have hT2 : ∀ j, j ≤ xs.length → 0 ≤ (fun j => if i < j then cst xs m j else 0) j := fun j h2 => by
          simp only
          split
          · rename_i h1; exact (hT j h1 h2).1
          · exact Int.le_refl _
        have hi1 := fits_last hs hi hf
        have hsp := scan_spec (m := m) (i := i) hT2 (xs.length - (i + 1)) (i + 1) (-1, xs.length) (by omega) (by omega)
        rw [← hcg, ← he] at hsp
        rcases hsp with ⟨h1, h2⟩ | ⟨h1, h2, h3, h4, h5, h6⟩
        · exfalso
          have := h2 (i + 1) (Nat.le_refl _) (by omega) (by rw [seg_one hi]; exact hs _ (List.getElem_mem hi))
          simp only at this
          omega
        · have hn : nxt xs m i = (tab xs m i).2 := rfl
          have hc : cst xs m i = (tab xs m i).1 := rfl
          rw [← hn] at h1 h2 h3 h4 h6
          rw [← hc] at h4 h6
          have hvv : ∀ j, i < j → vv xs m (fun j => if i < j then cst xs m j else 0) i j = vv xs m (cst xs m) i j := fun j hj => by unfold vv; simp only; rw [if_pos hj]
          rw [hvv _ (by omega)] at h4
          have hb := hT (nxt xs m i) (by omega) (by omega)
          have hsn := seg_nonneg xs i (nxt xs m i)
          have hsq1 : (m - seg xs i (nxt xs m i)) * (m - seg xs i (nxt xs m i)) ≤ 6400 := by
            have h0 : 0 ≤ m - seg xs i (nxt xs m i) := by omega
            have h80 : m - seg xs i (nxt xs m i) ≤ 80 := by omega
            have := Int.mul_le_mul h80 h80 h0 (by decide : (0 : Int) ≤ 80)
            omega
          have hsq0 := sq_nonneg' (m - seg xs i (nxt xs m i))
          have hval : cst xs m i = (m - seg xs i (nxt xs m i)) * (m - seg xs i (nxt xs m i)) + cst xs m (nxt xs m i) := h4
          refine ⟨by omega, by omega, fun _ => .inr ⟨hf, by omega, by omega, h3, h4, fun j hj1 hj2 => ?_⟩⟩
          have := h6 j (by omega) hj2
          rw [hvv j hj1] at this
          exact this
    · have e : i = xs.length := by omega
      have h0 : cst xs m i = 0 := by unfold cst; rw [e, tab_end]
      exact ⟨by omega, by omega, fun h => absurd h hi⟩
end

/-- The breaks, from word i on. -/
def brk (xs : List ByteArray) (m : Int) : Nat → Nat → List Int
  | 0, _ => []
  | f + 1, i => if i < xs.length ∧ nxt xs m i < xs.length then (nxt xs m i : Int) :: brk xs m f (nxt xs m i) else []
theorem brk_len (xs : List ByteArray) (m : Int) : ∀ f i, (brk xs m f i).length ≤ f := by
  intro f
  induction f with
  | zero => intro i; exact Nat.le_refl _
  | succ f ih =>
    intro i
    rw [brk]
    split
    · have := ih (nxt xs m i); rw [List.length_cons]; omega
    · simp
theorem brk_more {xs : List ByteArray} {m : Int} (hs : ∀ s ∈ xs, (s.size : Int) ≤ m) (hm : m ≤ 80) : ∀ f i, xs.length ≤ i + f → brk xs m (f + 1) i = brk xs m f i := by
  intro f
  induction f with
  | zero =>
    intro i h
    show (if i < xs.length ∧ nxt xs m i < xs.length then (nxt xs m i : Int) :: brk xs m 0 (nxt xs m i) else []) = []
    rw [if_neg (by omega)]
  | succ f ih =>
    intro i h
    rw [brk]
    conv => rhs; rw [brk]
    split
    · rename_i hc
      have hh := (cst_all hs hm (xs.length - i) i (by omega)).2.2 hc.1
      have hlt : i < nxt xs m i := by
        rcases hh with ⟨_, h2⟩ | ⟨_, h2, _⟩
        · have : nxt xs m i = xs.length := by unfold nxt; rw [h2]
          omega
        · exact h2
      rw [ih (nxt xs m i) (by omega)]
    · rfl
def bestR (xs : List ByteArray) (m : Int) : List Int × Int × Int := if validT xs m = true then (brk xs m xs.length 0, cst xs m 0, 0) else ([], 0, 1)
theorem bestR_len (xs : List ByteArray) (m : Int) : (bestR xs m).1.length ≤ 40 := by
  unfold bestR
  split
  · rename_i h
    have := (validT_facts h).2.1
    have := brk_len xs m xs.length 0
    simp only; omega
  · simp
end Go.Proofs.Ytanpmjbephelaaa
