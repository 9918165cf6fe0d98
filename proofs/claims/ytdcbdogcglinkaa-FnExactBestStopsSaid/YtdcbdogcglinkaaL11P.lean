/-
  Least numbers of moves: plain law. A list of numbers that is stable under the moves and attained by them is the only one of its kind.
-/
import Derived.Test.YtdcbdogcglinkaaL11C
namespace Go.Proofs.Ytdcbdogcglinkaa
set_option maxRecDepth 100000
open Go.RowKit

/-- Column t is one move behind column c. -/
def Edge (xs : List Int) (c t : Nat) : Prop := mvTo xs c 35 = some (t : Int) ∨ mvTo xs c 60 = some (t : Int) ∨ mvTo xs c 62 = some (t : Int)
theorem edge_lt {xs : List Int} (h : ∀ x ∈ xs, 1 ≤ x ∧ x ≤ 30) {c t : Nat} (hc : c ≤ 30) (he : Edge xs c t) : t ≤ 30 := by
  rcases he with e | e | e
  all_goals
    have := mvTo_bd h ⟨by omega, by omega⟩ e
    omega
theorem edge_up {xs : List Int} {c : Nat} (hc : c < 30) : Edge xs c (c + 1) := by
  right; right
  unfold mvTo
  rw [if_pos rfl, if_pos (by omega)]
  rfl
theorem edge_down {xs : List Int} {c : Nat} (hc : 0 < c) : Edge xs c (c - 1) := by
  right; left
  unfold mvTo
  rw [if_neg (by decide), if_pos rfl, if_pos (by omega)]
  congr 1
  omega
/-- The least numbers of moves to a column. -/
structure Far (xs : List Int) (to : Nat) (f : Nat → Nat) : Prop where
  zero : f to = 0
  le : ∀ c t, c ≤ 30 → Edge xs c t → f c ≤ f t + 1
  has : ∀ c, c ≤ 30 → c ≠ to → ∃ t, Edge xs c t ∧ f c = f t + 1
theorem Far.le_of {xs : List Int} (h : ∀ x ∈ xs, 1 ≤ x ∧ x ≤ 30) {to : Nat} {f g : Nat → Nat} (hf : Far xs to f) (hg : Far xs to g) : ∀ n c, c ≤ 30 → g c = n → f c ≤ g c := by
  intro n
  induction n using Nat.strongRecOn with
  | _ n ih =>
    intro c hc hn
    by_cases e : c = to
    · rw [e, hf.zero]; exact Nat.zero_le _
    · obtain ⟨t, he, ht⟩ := hg.has c hc e
      have h1 := hf.le c t hc he
      have h2 := ih (g t) (by omega) t (edge_lt h hc he) rfl
      omega
theorem Far.unique {xs : List Int} (h : ∀ x ∈ xs, 1 ≤ x ∧ x ≤ 30) {to : Nat} {f g : Nat → Nat} (hf : Far xs to f) (hg : Far xs to g) {c : Nat} (hc : c ≤ 30) : f c = g c :=
  Nat.le_antisymm (hf.le_of h hg _ c hc rfl) (hg.le_of h hf _ c hc rfl)
/-- No number is greater than the way step by step. -/
theorem Far.bd {xs : List Int} {to : Nat} {f : Nat → Nat} (h0 : f to = 0) (hle : ∀ c t, c ≤ 30 → Edge xs c t → f c ≤ f t + 1) (hto : to ≤ 30) : ∀ d c, c ≤ 30 → (c + d = to ∨ to + d = c) → f c ≤ d := by
  intro d
  induction d with
  | zero =>
    intro c hc h
    have : c = to := by omega
    rw [this, h0]; exact Nat.le_refl _
  | succ d ih =>
    intro c hc h
    rcases h with h | h
    · have := hle c (c + 1) hc (edge_up (by omega))
      have := ih (c + 1) (by omega) (by omega)
      omega
    · have := hle c (c - 1) hc (edge_down (by omega))
      have := ih (c - 1) (by omega) (by omega)
      omega
theorem Far.le30 {xs : List Int} {to : Nat} {f : Nat → Nat} (h : Far xs to f) (hto : to ≤ 30) {c : Nat} (hc : c ≤ 30) : f c ≤ 30 := by
  by_cases hcc : c ≤ to
  · have := Far.bd h.zero h.le hto (to - c) c hc (by omega); omega
  · have := Far.bd h.zero h.le hto (c - to) c hc (by omega); omega

/-! ### relaxation until nothing turns -/
/-- What holds of the reference's numbers at all times. -/
structure Relax (xs : List Int) (to : Nat) (f : Nat → Nat) : Prop where
  zero : f to = 0
  top : ∀ c, c ≤ 30 → f c ≤ 31
  has : ∀ c, c ≤ 30 → c ≠ to → f c = 31 ∨ ∃ t, Edge xs c t ∧ f t + 1 ≤ f c
theorem Relax.start {xs : List Int} {to : Nat} : Relax xs to (fun c => if c = to then 0 else 31) :=
  ⟨by simp, fun c _ => by split <;> omega, fun c _ h => Or.inl (by simp [h])⟩
theorem Relax.step {xs : List Int} {to : Nat} {f : Nat → Nat} (h : Relax xs to f) {c t : Nat} (hc : c ≤ 30) (he : Edge xs c t) (hlt : f t + 1 < f c) : Relax xs to (fun q => if q = c then f t + 1 else f q) := by
  have hct : c ≠ to := fun e => by rw [e, h.zero] at hlt; omega
  refine ⟨by rw [if_neg (Ne.symm hct)]; exact h.zero, fun q hq => ?_, fun q hq hne => ?_⟩
  · split
    · have := h.top c hc; omega
    · exact h.top q hq
  · by_cases hqc : q = c
    · rw [if_pos hqc]
      right
      refine ⟨t, hqc ▸ he, ?_⟩
      split
      · rename_i e; rw [e] at hlt; omega
      · exact Nat.le_refl _
    · rw [if_neg hqc]
      rcases h.has q hq hne with e | ⟨r, hr, hrl⟩
      · exact Or.inl e
      · right
        refine ⟨r, hr, ?_⟩
        split
        · rename_i e; rw [e] at hrl; omega
        · exact hrl
theorem Relax.done {xs : List Int} {to : Nat} {f : Nat → Nat} (h : Relax xs to f) (hto : to ≤ 30) (hle : ∀ c t, c ≤ 30 → Edge xs c t → f c ≤ f t + 1) : Far xs to f := by
  refine ⟨h.zero, hle, fun c hc hne => ?_⟩
  rcases h.has c hc hne with e | ⟨t, ht, htl⟩
  · exfalso
    by_cases hcc : c ≤ to
    · have := Far.bd h.zero hle hto (to - c) c hc (by omega); omega
    · have := Far.bd h.zero hle hto (c - to) c hc (by omega); omega
  · have := hle c t hc ht
    exact ⟨t, ht, by omega⟩
end Go.Proofs.Ytdcbdogcglinkaa
