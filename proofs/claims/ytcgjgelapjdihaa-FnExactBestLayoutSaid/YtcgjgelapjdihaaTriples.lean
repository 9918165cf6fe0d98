/-
  Slices whose elements are structs of three one-cell fields: what is read of them.
-/
import Derived.Test.YtcgjgelapjdihaaWords
namespace Go.Proofs.Ytcgjgelapjdihaa
set_option maxRecDepth 100000
open Go.RowKit

/-- The slice value at A, of n elements, reads as the list of triples xs (f: the value of a field). -/
structure Sl3 {α : Type} (f : α → Value) (w : World) (A : Option Addr) (n : Nat) (xs : List (α × α × α)) : Prop where
  len : xs.length = n
  max : n ≤ 9223372036854775807
  rd : ∀ k x, xs[k]? = some x → ∃ b o, A = some ⟨b, o, none⟩ ∧ b < w.heap.size ∧ w.cell? ⟨b, o + k * 3, none⟩ = some (f x.1) ∧ w.cell? ⟨b, o + k * 3 + 1, none⟩ = some (f x.2.1) ∧ w.cell? ⟨b, o + k * 3 + 2, none⟩ = some (f x.2.2)

section
variable {α : Type} {f : α → Value} {w w1 : World} {A : Option Addr} {n : Nat} {xs : List (α × α × α)}
theorem Sl3.on (h : Sl3 f w A n xs) (hb : Below w.heap.size w w1) : Sl3 f w1 A n xs := ⟨h.len, h.max, fun k x hx => by
  obtain ⟨b, o, h1, h2, h3, h4, h5⟩ := h.rd k x hx
  have hs := hb.size
  exact ⟨b, o, h1, by omega, (hb.cell (p := ⟨b, _, none⟩) h2).trans h3, (hb.cell (p := ⟨b, _, none⟩) h2).trans h4, (hb.cell (p := ⟨b, _, none⟩) h2).trans h5⟩⟩
theorem Sl3.lay (h : Sl3 f w A n xs) (o : Obj) : Sl3 f (w.alloc o) A n xs := h.on ((Below.refl _ _).alloc (Nat.le_refl _) o)
theorem Sl3.draw1 (h : Sl3 f w A n xs) : Sl3 f w.drew A n xs := ⟨h.len, h.max, h.rd⟩
theorem Sl3.draw (h : Sl3 f w A n xs) (m : Nat) : Sl3 f (w.drewN m) A n xs := ⟨h.len, h.max, h.rd⟩
/-- Element k, asked for in a later world. -/
theorem Sl3.at_ (h : Sl3 f w A n xs) (hb : Below w.heap.size w w1) {k : Nat} (hk : k < n) : ∃ b o x y z, A = some ⟨b, o, none⟩ ∧ b < w.heap.size ∧ xs[k]? = some (x, y, z) ∧ w1.cell? ⟨b, o + k * 3, none⟩ = some (f x) ∧ w1.cell? ⟨b, o + k * 3 + 1, none⟩ = some (f y) ∧ w1.cell? ⟨b, o + k * 3 + 2, none⟩ = some (f z) := by
  have hl : k < xs.length := by rw [h.len]; exact hk
  obtain ⟨b, o, h1, h2, h3, h4, h5⟩ := (h.on hb).rd k xs[k] (List.getElem?_eq_getElem hl)
  obtain ⟨b', o', g1, g2, _⟩ := h.rd k xs[k] (List.getElem?_eq_getElem hl)
  rw [h1] at g1
  cases g1
  exact ⟨b, o, xs[k].1, xs[k].2.1, xs[k].2.2, h1, g2, List.getElem?_eq_getElem hl, h3, h4, h5⟩
theorem Sl3.nil_ (w : World) : Sl3 f w none 0 ([] : List (α × α × α)) := ⟨rfl, Nat.zero_le _, fun k x hx => by simp at hx⟩
theorem Sl3.end_ (h : Sl3 f w A n xs) {k : Nat} (hk : ¬ k < n) : xs.drop k = [] := List.drop_eq_nil_of_le (by have := h.len; omega)
/-- A second element, at the same address. -/
theorem Sl3.cells {b o : Nat} (h : Sl3 f w (some ⟨b, o, none⟩) n xs) (hb : Below w.heap.size w w1) {k : Nat} {x y z : α} (hx : xs[k]? = some (x, y, z)) :
    w1.cell? ⟨b, o + k * 3, none⟩ = some (f x) ∧ w1.cell? ⟨b, o + k * 3 + 1, none⟩ = some (f y) ∧ w1.cell? ⟨b, o + k * 3 + 2, none⟩ = some (f z) := by
  obtain ⟨b', o', h1, h2, h3, h4, h5⟩ := (h.on hb).rd k _ hx
  cases h1
  exact ⟨h3, h4, h5⟩
end

/-- The triples stand in a row, three cells an element. -/
def In3 {α : Type} (f : α → Value) (cs : List Value) (xs : List (α × α × α)) : Prop :=
  ∀ k x, xs[k]? = some x → cs[k * 3]? = some (f x.1) ∧ cs[k * 3 + 1]? = some (f x.2.1) ∧ cs[k * 3 + 2]? = some (f x.2.2)
theorem In3.step {α : Type} {f : α → Value} {cs : List Value} {xs : List (α × α × α)} {k : Nat} {x : α × α × α} (h : In3 f cs (xs.take k)) (hx : xs[k]? = some x) (hl : k * 3 + 2 < cs.length) :
    In3 f (((cs.set (k * 3) (f x.1)).set (k * 3 + 1) (f x.2.1)).set (k * 3 + 2) (f x.2.2)) (xs.take (k + 1)) := by
  intro j y hy
  rw [List.getElem?_take] at hy
  split at hy
  · rename_i hj
    by_cases hjk : j = k
    · subst hjk
      rw [hx] at hy
      cases hy
      simp only [List.getElem?_set, List.length_set]
      refine ⟨?_, ?_, ?_⟩
      · rw [if_neg (by omega), if_neg (by omega), if_pos trivial, if_pos (by omega)]
      · rw [if_neg (by omega), if_pos trivial, if_pos (by omega)]
      · rw [if_pos trivial, if_pos (by omega)]
    · obtain ⟨h1, h2, h3⟩ := h j y (by rw [List.getElem?_take, if_pos (by omega)]; exact hy)
      simp only [List.getElem?_set]
      refine ⟨?_, ?_, ?_⟩
      · rw [if_neg (by omega), if_neg (by omega), if_neg (by omega)]; exact h1
      · rw [if_neg (by omega), if_neg (by omega), if_neg (by omega)]; exact h2
      · rw [if_neg (by omega), if_neg (by omega), if_neg (by omega)]; exact h3
  · cases hy
theorem Sl3.of_own {α : Type} {f : α → Value} {w : World} {base g : Nat} {e : TypeId} {n c : Nat} {cs : List Value} {xs : List (α × α × α)} (h : w.ownsRow base e 3 (.slice (some ⟨g, 0, none⟩) n c) n cs) (hl : xs.length = n) (hm : n ≤ 9223372036854775807) (hi : In3 f cs xs) :
    Sl3 f w (some ⟨g, 0, none⟩) n xs := by
  refine ⟨hl, hm, fun k x hx => ?_⟩
  have hk := (List.getElem?_eq_some_iff.1 hx).1
  obtain ⟨h1, h2, h3⟩ := hi k x hx
  refine ⟨g, 0, rfl, (h.lt g rfl).2, ?_, ?_, ?_⟩
  · rw [Nat.zero_add, h.cellAt _ (by omega)]; exact h1
  · rw [Nat.zero_add, h.cellAt _ (by omega)]; exact h2
  · rw [Nat.zero_add, h.cellAt _ (by omega)]; exact h3
end Go.Proofs.Ytcgjgelapjdihaa
