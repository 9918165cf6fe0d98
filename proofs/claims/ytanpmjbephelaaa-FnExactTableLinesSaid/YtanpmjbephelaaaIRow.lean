/-
  A slice of numbers that the call itself made, read and written by its index.
-/
import Derived.Test.YtanpmjbephelaaaInts
namespace Go.Proofs.Ytanpmjbephelaaa
set_option maxRecDepth 100000
open Go.RowKit

structure IRow (W w : World) (e : TypeId) (g n : Nat) (l : List Int) : Prop where
  own : w.ownsRow W.heap.size e 1 (.slice (some ⟨g, 0, none⟩) n n) n (l.map (Value.int .i64))
  below : Below W.heap.size W w
section
variable {W w w1 : World} {e : TypeId} {g n : Nat} {l : List Int}
theorem IRow.len (h : IRow W w e g n l) : l.length = n := by have := h.own.1; simpa using this
theorem IRow.cell (h : IRow W w e g n l) {j : Nat} {x : Int} (hx : l[j]? = some x) : w.cell? ⟨g, j, none⟩ = some (.int .i64 x) := by
  have hj : j < n := by rw [← h.len]; exact (List.getElem?_eq_some_iff.1 hx).1
  rw [h.own.cellAt j (by omega), List.getElem?_map, hx]; rfl
theorem IRow.open_ (h : IRow W w e g n l) (j : Nat) : w.frozen? ⟨g, j, none⟩ = false := h.own.frozenAt j
theorem IRow.lt (h : IRow W w e g n l) : W.heap.size ≤ g ∧ g < w.heap.size := h.own.lt g rfl
theorem IRow.set (h : IRow W w e g n l) (j : Nat) (x : Int) : IRow W (w.setCell ⟨g, j, none⟩ (.int .i64 x)) e g n (l.set j x) := by
  have hs := h.own.stored j (.int .i64 x)
  refine ⟨?_, h.below.grown hs.2 h.below.size (fun k hk => (h.own.lt k hk).1)⟩
  rw [List.map_set]
  exact hs.1
theorem IRow.aside {W2 : World} {e2 : TypeId} {g2 n2 : Nat} {l2 : List Int} (h : IRow W w e g n l) (h2 : IRow W2 w e2 g2 n2 l2) (hne : g2 ≠ g) (hW : W.heap.size ≤ W2.heap.size) (j : Nat) (x : Int) : IRow W (w.setCell ⟨g2, j, none⟩ (.int .i64 x)) e g n l := by
  have hs := (h2.own.stored j (.int .i64 x)).2
  refine ⟨own_kept h.own hs (fun k hk => ?_), h.below.grown hs h.below.size (fun k hk => Nat.le_trans hW (h2.own.lt k hk).1)⟩
  simp at hk
  subst hk
  simp [Value.ownBlock]
  exact Ne.symm hne
theorem IRow.on (h : IRow W w e g n l) (hb : Below w.heap.size w w1) : IRow W w1 e g n l := ⟨own_below h.own hb, Below.step h.below hb⟩
theorem IRow.draw (h : IRow W w e g n l) (k : Nat) : IRow W (w.drewN k) e g n l := ⟨h.own, below_drewN h.below k⟩
theorem IRow.since {W0 : World} (h : IRow W w e g n l) (hb : Below W0.heap.size W0 W) : IRow W0 w e g n l := by
  refine ⟨⟨h.own.1, ?_⟩, Below.step hb h.below⟩
  rcases h.own.2 with h' | ⟨g, cap, cur, e1, e2, e3⟩
  · exact .inl h'
  · exact .inr ⟨g, cap, cur, e1, Nat.le_trans hb.size e2, e3⟩
theorem IRow.coll (h : IRow W w e g n l) : Coll W w e (.slice (some ⟨g, 0, none⟩) n n) (l.map (Value.int .i64)) := by
  refine ⟨?_, h.below⟩
  rw [List.length_map, h.len]
  exact h.own
theorem IRow.made (h : w1.ownsRow w.heap.size e 1 (.slice (some ⟨w.heap.size, 0, none⟩) n n) n (List.replicate n (.int .i64 0))) (hb : Below w.heap.size w w1) : IRow w w1 e w.heap.size n (List.replicate n 0) :=
  ⟨by rw [List.map_replicate]; exact h, hb⟩
end
end Go.Proofs.Ytanpmjbephelaaa
