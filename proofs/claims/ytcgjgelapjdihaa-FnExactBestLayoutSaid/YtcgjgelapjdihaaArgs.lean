/-
  The arguments of a law, opened: what is read is what a walk is told.
-/
import Derived.Test.YtcgjgelapjdihaaWords
import Derived.ProofKit
import Derived.OpenShut
import Derived.Lib.SmallJoins
namespace Go.Proofs.Ytcgjgelapjdihaa
set_option maxRecDepth 100000
open Go.ChangeShapes Go.WideShapes Go.ChangeAt Go.RowKit Go.Joins
open Go.ChangeMaps (open_string shut_string)

theorem own : ownKnob Try.prog.godebug = none := by kernel_rfl
theorem laidOut : laidOutB Try.prog = true := by kernel_rfl

theorem spot_none {w : World} {a : Addr} {v : Value} (h : w.cell? a = some v) : ∃ b o, a = ⟨b, o, none⟩ := by
  obtain ⟨b, o, s⟩ := a
  cases s with
  | none => exact ⟨b, o, rfl⟩
  | some s =>
    unfold World.cell? at h
    split at h <;> simp at h

section
variable {H : Type} {enc : TypeId × Value → H} {W : World} {base : Nat} {v : Value} {d : DataW H} {p : List MemPlace}

theorem rd_of {α : Type} {f : α → Value} {a : Addr} {len : Nat} {zs : List α} {z0 : α} (hl : len ≤ zs.length) (hcell : ∀ i, i < zs.length → W.cell? (a.add i) = some (f (zs.getD i z0))) :
    Rd W W.heap.size (some a) ((zs.take len).map f) := by
  intro k x hx
  have hk : k < len := by
    have := (List.getElem?_eq_some_iff.1 hx).1
    simp at this; omega
  have h0 := hcell 0 (by omega)
  rw [show a.add 0 = a from rfl] at h0
  obtain ⟨b, o, rfl⟩ := spot_none h0
  have hb := World.block_lt_of_cell? W _ h0
  refine ⟨b, o, rfl, hb, ?_⟩
  have hc := hcell k (by omega)
  rw [Addr.add_lit] at hc
  rw [hc]
  rw [List.getElem?_map, List.getElem?_take, if_pos hk] at hx
  rw [List.getD_eq_getElem?_getD]
  rw [List.getElem?_eq_getElem (by omega)] at hx ⊢
  simpa using hx

end
end Go.Proofs.Ytcgjgelapjdihaa
