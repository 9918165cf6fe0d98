/-
  Least numbers of moves, found round by round: plain law.
-/
import Derived.Test.YtdcbdogcglinkaaL11P
namespace Go.Proofs.Ytdcbdogcglinkaa
set_option maxRecDepth 100000
open Go.RowKit

/-- What is known behind round r: all columns that are at most r moves off. -/
structure Known (xs : List Int) (to r : Nat) (f : Nat → Option Nat) : Prop where
  zero : f to = some 0
  le : ∀ c d, f c = some d → d ≤ r
  has : ∀ c d, c ≤ 30 → c ≠ to → f c = some d → ∃ t e, Edge xs c t ∧ f t = some e ∧ d = e + 1
  near : ∀ c t d, c ≤ 30 → Edge xs c t → f t = some d → d < r → ∃ e, f c = some e ∧ e ≤ d + 1
theorem Known.start {xs : List Int} {to : Nat} : Known xs to 0 (fun c => if c = to then some 0 else none) := by
  refine ⟨by simp, fun c d h => ?_, fun c d _ hne h => ?_, fun c t d _ _ _ hd => absurd hd (Nat.not_lt_zero _)⟩
  · by_cases e : c = to
    · rw [if_pos e] at h; cases h; exact Nat.le_refl _
    · rw [if_neg e] at h; cases h
  · rw [if_neg hne] at h; cases h
/-- Within a round: f before it, g now; the columns below k are done; b: has one been found? -/
structure Mid (xs : List Int) (to r : Nat) (f g : Nat → Option Nat) (k : Nat) (b : Bool) : Prop where
  old : ∀ c d, f c = some d → g c = some d
  new : ∀ c, f c = none → g c = none ∨ (g c = some (r + 1) ∧ ∃ t, Edge xs c t ∧ f t = some r)
  done : ∀ c, c < k → f c = none → g c = none → ∀ t, Edge xs c t → f t ≠ some r
  same : b = false → ∀ c, g c = f c
  rest : ∀ c, k ≤ c → g c = f c
theorem Mid.start {xs : List Int} {to r : Nat} {f : Nat → Option Nat} : Mid xs to r f f 0 false :=
  ⟨fun _ _ h => h, fun _ h => Or.inl h, fun _ hc => absurd hc (Nat.not_lt_zero _), fun _ _ => rfl, fun _ _ => rfl⟩
theorem Mid.finish {xs : List Int} {to r : Nat} {f g : Nat → Option Nat} {b : Bool} (hf : Known xs to r f) (h : Mid xs to r f g 31 b) : Known xs to (r + 1) g := by
  have back : ∀ t d, g t = some d → d ≤ r → f t = some d := fun t d hg hd => by
    cases hft : f t with
    | some e => rw [h.old t e hft] at hg; exact hg
    | none =>
      rcases h.new t hft with e | ⟨e, _⟩
      · rw [e] at hg; cases hg
      · rw [e] at hg; cases hg; omega
  refine ⟨h.old _ _ hf.zero, fun c d hg => ?_, fun c d hc hne hg => ?_, fun c t d hc he hg hd => ?_⟩
  · cases hfc : f c with
    | some e => rw [h.old c e hfc] at hg; cases hg; have := hf.le c d hfc; omega
    | none =>
      rcases h.new c hfc with e | ⟨e, _⟩
      · rw [e] at hg; cases hg
      · rw [e] at hg; cases hg; exact Nat.le_refl _
  · cases hfc : f c with
    | some e =>
      rw [h.old c e hfc] at hg
      cases hg
      obtain ⟨t, e, h1, h2, h3⟩ := hf.has c d hc hne hfc
      exact ⟨t, e, h1, h.old t e h2, h3⟩
    | none =>
      rcases h.new c hfc with e | ⟨e, t, h1, h2⟩
      · rw [e] at hg; cases hg
      · rw [e] at hg; cases hg
        exact ⟨t, r, h1, h.old t r h2, rfl⟩
  · have hft := back t d hg (by omega)
    by_cases hdr : d < r
    · obtain ⟨e, h1, h2⟩ := hf.near c t d hc he hft hdr
      exact ⟨e, h.old c e h1, h2⟩
    · have hdr2 : d = r := by omega
      subst hdr2
      cases hfc : f c with
      | some e => exact ⟨e, h.old c e hfc, by have := hf.le c e hfc; omega⟩
      | none =>
        rcases h.new c hfc with e | ⟨e, _⟩
        · exact absurd hft (h.done c (by omega) hfc e t he)
        · exact ⟨d + 1, e, Nat.le_refl _⟩
theorem Mid.stop {xs : List Int} {to r : Nat} {f g : Nat → Option Nat} (hto : to ≤ 30) (h0 : ∀ x ∈ xs, 1 ≤ x ∧ x ≤ 30) (hf : Known xs to r f) (h : Mid xs to r f g 31 false) : (∀ c, c ≤ 30 → ∃ d, g c = some d) ∧ Far xs to (fun c => (g c).getD 0) := by
  have hs := h.same rfl
  have step : ∀ c t d, c ≤ 30 → Edge xs c t → f t = some d → ∃ e, f c = some e ∧ e ≤ d + 1 := fun c t d hc he ht => by
    by_cases hdr : d < r
    · exact hf.near c t d hc he ht hdr
    · have hdr2 : d = r := by have := hf.le t d ht; omega
      subst hdr2
      cases hfc : f c with
      | some e => exact ⟨e, rfl, by have := hf.le c e hfc; omega⟩
      | none => exact absurd ht (h.done c (by omega) hfc (by rw [hs c]; exact hfc) t he)
  have all : ∀ n c, c ≤ 30 → (c + n = to ∨ to + n = c) → ∃ d, f c = some d := by
    intro n
    induction n with
    | zero =>
      intro c hc hh
      have : c = to := by omega
      rw [this]; exact ⟨0, hf.zero⟩
    | succ n ih =>
      intro c hc hh
      rcases hh with hh | hh
      · obtain ⟨d, hd⟩ := ih (c + 1) (by omega) (by omega)
        obtain ⟨e, he, _⟩ := step c (c + 1) d hc (edge_up (by omega)) hd
        exact ⟨e, he⟩
      · obtain ⟨d, hd⟩ := ih (c - 1) (by omega) (by omega)
        obtain ⟨e, he, _⟩ := step c (c - 1) d hc (edge_down (by omega)) hd
        exact ⟨e, he⟩
  have some_ : ∀ c, c ≤ 30 → ∃ d, f c = some d := fun c hc => by
    by_cases hcc : c ≤ to
    · exact all (to - c) c hc (by omega)
    · exact all (c - to) c hc (by omega)
  refine ⟨fun c hc => by rw [hs c]; exact some_ c hc, ?_, fun c t hc he => ?_, fun c hc hne => ?_⟩
  · rw [hs to, hf.zero]; rfl
  · rw [hs c, hs t]
    cases hft : f t with
    | some d =>
      obtain ⟨e, h1, h2⟩ := step c t d hc he hft
      rw [h1]; exact h2
    | none =>
      obtain ⟨d, hd⟩ := some_ t (edge_lt h0 hc he)
      rw [hd] at hft; cases hft
  · obtain ⟨d, hd⟩ := some_ c hc
    obtain ⟨t, e, h1, h2, h3⟩ := hf.has c d hc hne hd
    refine ⟨t, h1, ?_⟩
    rw [hs c, hs t, hd, h2]; exact h3
theorem Mid.read {xs : List Int} {to r k : Nat} {f g : Nat → Option Nat} {b : Bool} (h : Mid xs to r f g k b) (t : Nat) : g t = some r ↔ f t = some r := by
  constructor
  · intro hg
    cases hft : f t with
    | some e => rw [h.old t e hft] at hg; exact hg
    | none =>
      rcases h.new t hft with e | ⟨e, _⟩
      · rw [e] at hg; cases hg
      · rw [e] at hg; simp at hg
  · exact h.old t r
theorem Mid.known {xs : List Int} {to r k : Nat} {f g : Nat → Option Nat} {b : Bool} (h : Mid xs to r f g k b) {d : Nat} (hk : f k = some d) : Mid xs to r f g (k + 1) b :=
  ⟨h.old, h.new, fun c hc hfc hgc => by
    by_cases e : c = k
    · rw [e, hk] at hfc; cases hfc
    · exact h.done c (by omega) hfc hgc, h.same, fun c hc => h.rest c (by omega)⟩
theorem Mid.miss {xs : List Int} {to r k : Nat} {f g : Nat → Option Nat} {b : Bool} (h : Mid xs to r f g k b) (hno : ∀ t, Edge xs k t → f t ≠ some r) : Mid xs to r f g (k + 1) b :=
  ⟨h.old, h.new, fun c hc hfc hgc => by
    by_cases e : c = k
    · rw [e]; exact hno
    · exact h.done c (by omega) hfc hgc, h.same, fun c hc => h.rest c (by omega)⟩
theorem Mid.hit {xs : List Int} {to r k t : Nat} {f g : Nat → Option Nat} {b : Bool} (h : Mid xs to r f g k b) (hfk : f k = none) (he : Edge xs k t) (hft : f t = some r) : Mid xs to r f (fun q => if q = k then some (r + 1) else g q) (k + 1) true := by
  refine ⟨fun c d hc => ?_, fun c hc => ?_, fun c hc hfc hgc => ?_, fun e => ?_, fun c hc => ?_⟩
  · by_cases e : c = k
    · rw [e, hfk] at hc; cases hc
    · rw [if_neg e]; exact h.old c d hc
  · by_cases e : c = k
    · rw [if_pos e, e]; exact Or.inr ⟨rfl, t, he, hft⟩
    · rw [if_neg e]; exact h.new c hc
  · by_cases e : c = k
    · rw [if_pos e] at hgc; cases hgc
    · rw [if_neg e] at hgc; exact h.done c (by omega) hfc hgc
  · cases e
  · rw [if_neg (by omega)]; exact h.rest c (by omega)
/-- How many columns are not known. -/
def cntN (g : Nat → Option Nat) : Nat → Nat
  | 0 => 0
  | k + 1 => cntN g k + (if g k = none then 1 else 0)
theorem cntN_set {g : Nat → Option Nat} {q d : Nat} (hq : g q = none) : ∀ k, cntN (fun c => if c = q then some d else g c) k + (if q < k then 1 else 0) = cntN g k := by
  intro k
  induction k with
  | zero => simp [cntN]
  | succ k ih =>
    have e1 : cntN (fun c => if c = q then some d else g c) (k + 1) = cntN (fun c => if c = q then some d else g c) k + (if (if k = q then some d else g k) = none then 1 else 0) := rfl
    have e2 : cntN g (k + 1) = cntN g k + (if g k = none then 1 else 0) := rfl
    rw [e1, e2]
    by_cases h : k = q
    · subst h
      have e3 : (if (if k = k then some d else g k) = none then 1 else 0) = 0 := by simp
      rw [if_neg (Nat.lt_irrefl k)] at ih
      have e4 : (if k < k + 1 then 1 else 0) = 1 := if_pos (by omega)
      rw [e3, hq, if_pos rfl, e4]
      omega
    · have e3 : (if k = q then some d else g k) = g k := if_neg h
      rw [e3]
      by_cases h2 : q < k
      · rw [if_pos h2] at ih
        have e4 : (if q < k + 1 then 1 else 0) = 1 := if_pos (by omega)
        rw [e4]; omega
      · rw [if_neg h2] at ih
        have e4 : (if q < k + 1 then 1 else 0) = 0 := if_neg (by omega)
        rw [e4]; omega
end Go.Proofs.Ytdcbdogcglinkaa
