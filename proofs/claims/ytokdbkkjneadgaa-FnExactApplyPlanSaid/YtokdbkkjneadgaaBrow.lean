/-
  []byte made of a text: its cells, a store, and the text that is made of it again.
-/
import Derived.Test.YtokdbkkjneadgaaTexts
namespace Go.Proofs.Ytokdbkkjneadgaa
set_option maxRecDepth 100000
open Go.RowKit

/-- Block g is a []byte made of a text; its first bytes are l now. -/
def BRow (w : World) (g : Nat) (l : List UInt8) : Prop :=
  ∃ cs : Array Value, w.heap[g]? = some (.cells cs 5 (cs.size, cs.size + 1)) ∧ l.length ≤ cs.size ∧ cs.toList.take l.length = l.map ub

theorem BRow.cell {w : World} {g : Nat} {l : List UInt8} (h : BRow w g l) {k : Nat} {b : UInt8} (hx : l[k]? = some b) : w.cell? ⟨g, k, none⟩ = some (.int .u8 (b.toNat : Int)) := by
  obtain ⟨cs, h1, h2, h3⟩ := h
  have hk := (List.getElem?_eq_some_iff.1 hx).1
  rw [cell_of_row w g k cs 5 _ h1, ← Array.getElem?_toList]
  have : (cs.toList.take l.length)[k]? = cs.toList[k]? := by rw [List.getElem?_take, if_pos hk]
  rw [← this, h3, List.getElem?_map, hx]; rfl
theorem BRow.open_ {w : World} {g : Nat} {l : List UInt8} (h : BRow w g l) {k : Nat} (hk : k < l.length) : w.frozen? ⟨g, k, none⟩ = false := by
  obtain ⟨cs, h1, h2, h3⟩ := h
  simp only [World.frozen?, h1]
  simp; intro e; omega
theorem BRow.set_ {w : World} {g : Nat} {l : List UInt8} (h : BRow w g l) (k : Nat) (b : UInt8) : BRow (w.setCell ⟨g, k, none⟩ (.int .u8 (b.toNat : Int))) g (l.set k b) := by
  obtain ⟨cs, h1, h2, h3⟩ := h
  refine ⟨cs.setIfInBounds k (.int .u8 (b.toNat : Int)), ?_, by simpa using h2, ?_⟩
  · simp [World.setCell, Array.getElem?_modify, h1]
  · rw [Array.toList_setIfInBounds, List.length_set, List.take_set, h3, List.map_set]; rfl
theorem BRow.lt {w : World} {g : Nat} {l : List UInt8} (h : BRow w g l) : g < w.heap.size := by
  obtain ⟨cs, h1, _⟩ := h
  exact (Array.getElem?_eq_some_iff.1 h1).1
theorem BRow.on {w w1 : World} {g : Nat} {l : List UInt8} (h : BRow w g l) (hb : Below w.heap.size w w1) : BRow w1 g l := by
  have hg := h.lt
  obtain ⟨cs, h1, h2, h3⟩ := h
  exact ⟨cs, (hb.block g hg).trans h1, h2, h3⟩
theorem BRow.str {w : World} {g c : Nat} {l : List UInt8} (h : BRow w g l) : (convert 83 9 (.slice (some ⟨g, 0, none⟩) l.length c)).run Try.prog w = .ok (.string ⟨l.toArray⟩) w := by
  have := run_convert_bytes_arg (P := Try.prog) w 83 5 Try.underlying83 Try.underlying5 g 0 l.length c (l.map fun b => (b.toNat : Int)) (by simp) (fun i hi => by
    rw [Nat.zero_add, h.cell (List.getElem?_eq_getElem hi), List.getD_eq_getElem?_getD, List.getElem?_map, List.getElem?_eq_getElem hi]; rfl) 9 Try.underlying9
  rw [this]
  congr 2
  simp [strOfNums, Function.comp_def]
/-- []byte(s). -/
theorem conv_bytes (w : World) (s : ByteArray) : ∃ c w1, (convert 9 83 (.string s)).run Try.prog w = .ok (.slice (some ⟨w.heap.size, 0, none⟩) s.size c) w1 ∧ BRow w1 w.heap.size (by_ s) ∧ Below w.heap.size w w1 ∧ s.size ≤ c := by
  have hr := run_bytes_of_string (P := Try.prog) w 9 83 5 s Try.underlying9 Try.underlying83 Try.underlying5
  have hge := grownCap_ge w s.size 0 5
  refine ⟨_, _, hr, ⟨bytesRow s (grownCap w s.size 0 5), heap_alloc_new w.drew _, ?_, ?_⟩, ?_, hge⟩
  · rw [by_len, bytesRow]; simp
  · simp only [bytesRow, Array.toList_append, Array.toList_map]
    have e : (by_ s).length = (List.map (fun b : UInt8 => Value.int .u8 (b.toNat : Int)) s.data.toList).length := by rw [List.length_map]; rfl
    rw [e, List.take_left]; rfl
  · exact ((Below.refl _ _).drew).alloc (Nat.le_refl _) _
end Go.Proofs.Ytokdbkkjneadgaa
