/-
  The arguments of a law, opened: what is read is what a walk is told.
-/
import Derived.Test.YtanpmjbephelaaaWords
import Derived.ProofKit
import Derived.OpenShut
import Derived.Lib.SmallJoins
namespace Go.Proofs.Ytanpmjbephelaaa
set_option maxRecDepth 100000
open Go.ChangeShapes Go.WideShapes Go.ChangeAt Go.RowKit Go.Joins
open Go.ChangeMaps (open_string shut_string)

theorem own : ownKnob Try.prog.godebug = none := by kernel_rfl
theorem laidOut : laidOutB Try.prog = true := by kernel_rfl

theorem spot_none {w : World} {a : Addr} {v : Value} (h : w.cell? a = some v) : ∃ b o, a = ⟨b, o, none⟩ := by
  obtain ⟨b, o, s⟩ := a
  cases s with
  | none => exact ⟨b, o, rfl⟩
  | some s =>
    unfold World.cell? at h
    split at h <;> simp at h

section
variable {H : Type} {enc : TypeId × Value → H} {W : World} {base : Nat} {v : Value} {d : DataW H} {p : List MemPlace}

theorem rd_of {α : Type} {f : α → Value} {a : Addr} {len : Nat} {zs : List α} {z0 : α} (hl : len ≤ zs.length) (hcell : ∀ i, i < zs.length → W.cell? (a.add i) = some (f (zs.getD i z0))) :
    Rd W W.heap.size (some a) ((zs.take len).map f) := by
  intro k x hx
  have hk : k < len := by
    have := (List.getElem?_eq_some_iff.1 hx).1
    simp at this; omega
  have h0 := hcell 0 (by omega)
  rw [show a.add 0 = a from rfl] at h0
  obtain ⟨b, o, rfl⟩ := spot_none h0
  have hb := World.block_lt_of_cell? W _ h0
  refine ⟨b, o, rfl, hb, ?_⟩
  have hc := hcell k (by omega)
  rw [Addr.add_lit] at hc
  rw [hc]
  rw [List.getElem?_map, List.getElem?_take, if_pos hk] at hx
  rw [List.getD_eq_getElem?_getD]
  rw [List.getElem?_eq_getElem (by omega)] at hx ⊢
  simpa using hx

theorem cells2 :  Try.prog.cellsOf 2 = 1 := by kernel_rfl
theorem arg_ints (hval : Value.okWide Try.prog W .any base 23 v) (h : DataW.Trod enc Try.prog W 0 (fun _ => true) true 23 v d p) :
    ∃ A n c xs, v = .slice A n c ∧ Sl (Value.int .i64) W A n xs ∧ ∀ x ∈ xs, -9223372036854775808 ≤ x ∧ x ≤ 9223372036854775807 := by
  obtain ⟨a0, len, cap, rfl⟩ := okWide_slice Try.underlying23 hval
  obtain ⟨fuel, hf⟩ := h
  rcases open_ints Try.underlying23 Try.underlying2 cells2 hf with ⟨hcs, _⟩ | ⟨a, l, c, zs, hcs, _, hl, hm, hz, _, hcell, hwz⟩
  · simp [Value.cells] at hcs
    obtain ⟨rfl, rfl, rfl⟩ := hcs
    exact ⟨none, 0, 0, [], rfl, Sl.nil_ _, by simp⟩
  · simp [Value.cells] at hcs
    obtain ⟨rfl, rfl, rfl⟩ := hcs
    simp at hz
    exact ⟨some a, len, cap, zs.take len, rfl, ⟨by rw [List.length_take, Nat.min_eq_left (by omega)], by unfold maxLen at hm; omega, rd_of (by omega) hcell⟩, fun x hx => i64_wf (hwz x (List.mem_of_mem_take hx))⟩
theorem cells9 : Try.prog.cellsOf 9 = 1 := by kernel_rfl
theorem arg_strings (hval : Value.okWide Try.prog W .any base 22 v) (h : DataW.Trod enc Try.prog W 0 (fun _ => true) true 22 v d p) :
    ∃ A n c xs, v = .slice A n c ∧ Sl Value.string W A n xs ∧ ∀ x ∈ xs, x.size ≤ maxLen := by
  obtain ⟨a0, len, cap, rfl⟩ := okWide_slice Try.underlying22 hval
  obtain ⟨fuel, hf⟩ := h
  rcases open_strings Try.underlying22 Try.underlying9 cells9 hf with ⟨hcs, _⟩ | ⟨a, l, c, zs, hcs, _, hl, hm, hz, _, hcell, hwz⟩
  · simp [Value.cells] at hcs
    obtain ⟨rfl, rfl, rfl⟩ := hcs
    exact ⟨none, 0, 0, [], rfl, Sl.nil_ _, by simp⟩
  · simp [Value.cells] at hcs
    obtain ⟨rfl, rfl, rfl⟩ := hcs
    simp at hz
    exact ⟨some a, len, cap, zs.take len, rfl, ⟨by rw [List.length_take, Nat.min_eq_left (by omega)], by unfold maxLen at hm; omega, rd_of (by omega) hcell⟩, fun x hx => hwz x (List.mem_of_mem_take hx)⟩
end
end Go.Proofs.Ytanpmjbephelaaa
