/-
  A law's argument that is a slice of structs of three fields, opened.
-/
import Derived.Test.YtcgjgelapjdihaaArgs
import Derived.Test.YtcgjgelapjdihaaTriples
import Derived.Deep.Slices
namespace Go.Proofs.Ytcgjgelapjdihaa
set_option maxRecDepth 100000
open Go.ChangeShapes Go.WideShapes Go.ChangeAt Go.RowKit Go.Joins

section
variable {H : Type} {enc : TypeId × Value → H} {W : World} {base : Nat} {v : Value} {d : DataW H} {p : List MemPlace}
theorem sl3_of {α : Type} {f : α → Value} {a : Addr} {len : Nat} (hm : len ≤ maxLen) (q : Nat → α × α × α) (hne : ∃ b o, a = ⟨b, o, none⟩)
    (hq : ∀ i, i < len → W.cell? (a.add (i * 3)) = some (f (q i).1) ∧ W.cell? (a.add (i * 3 + 1)) = some (f (q i).2.1) ∧ W.cell? (a.add (i * 3 + 2)) = some (f (q i).2.2)) :
    Sl3 f W (some a) len ((List.range len).map q) := by
  obtain ⟨b, o, rfl⟩ := hne
  refine ⟨by simp, by unfold maxLen at hm; omega, fun k x hx => ?_⟩
  have hk : k < len := by have := (List.getElem?_eq_some_iff.1 hx).1; simpa using this
  rw [List.getElem?_map, List.getElem?_range hk] at hx
  simp at hx
  subst hx
  obtain ⟨h1, h2, h3⟩ := hq k hk
  rw [Addr.add_lit] at h1 h2 h3
  exact ⟨b, o, rfl, World.block_lt_of_cell? W _ h1, h1, h2, h3⟩
theorem cellsPl : Try.prog.cellsOf 37 = 3 := by kernel_rfl
theorem cellsI : Try.prog.cellsOf 2 = 1 := by kernel_rfl
theorem arg_places (hval : Value.okWide Try.prog W .any base 22 v) (h : DataW.Trod enc Try.prog W 0 (fun _ => true) true 22 v d p) :
    ∃ A n c xs, v = .slice A n c ∧ Sl3 (Value.int .i64) W A n xs ∧ True := by
  obtain ⟨a0, len, cap, rfl⟩ := okWide_slice Try.underlying22 hval
  obtain ⟨fuel, hf⟩ := h
  rcases Go.Deep.open_slice Try.underlying22 hf with ⟨hcs, _⟩ | ⟨a, l, c, m, n, D, Pl, hcs, hb, hl, hm, hmm, hx, hi⟩
  · simp [Value.cells] at hcs
    obtain ⟨rfl, rfl, rfl⟩ := hcs
    exact ⟨none, 0, 0, [], rfl, Sl3.nil_ _, trivial⟩
  · simp [Value.cells] at hcs
    obtain ⟨rfl, rfl, rfl⟩ := hcs
    have hlm : len ≤ m := by rw [hmm]; split <;> omega
    have each : ∀ i, i < len → ∃ q : Int × Int × Int, W.cell? (a.add (i * 3)) = some (.int .i64 q.1) ∧ W.cell? (a.add (i * 3 + 1)) = some (.int .i64 q.2.1) ∧ W.cell? (a.add (i * 3 + 2)) = some (.int .i64 q.2.2) := by
      intro i hi'
      obtain ⟨cs', hc, ht'⟩ := hi i (by omega)
      rw [cellsPl] at hc
      obtain ⟨_, hcl, hat⟩ := World.cells?_some hc
      obtain ⟨ys, n', hn', hy, _, hyl, hf'⟩ := DataW.trod_struct Try.underlying37 ht'
      match ys, hyl, cs', hcl with
      | [y0, y1, y2], _, [v0, v1, v2], _ =>
        have g0 := hf' 0 _ rfl
        have g1 := hf' 1 _ rfl
        have g2 := hf' 2 _ rfl
        simp [cellsI] at g0 g1 g2
        obtain ⟨s0, e0, rfl, w0⟩ := DataW.trod_int Try.underlying2 g0
        obtain ⟨s1, e1, rfl, w1⟩ := DataW.trod_int Try.underlying2 g1
        obtain ⟨s2, e2, rfl, w2⟩ := DataW.trod_int Try.underlying2 g2
        obtain rfl : v0 = _ := by simpa using e0
        obtain rfl : v1 = _ := by simpa using e1
        obtain rfl : v2 = _ := by simpa using e2
        have k0 := hat 0 (by omega)
        have k1 := hat 1 (by omega)
        have k2 := hat 2 (by omega)
        rw [Go.Deep.add_add] at k0 k1 k2
        exact ⟨(s0, s1, s2), by simpa using k0, by simpa using k1, by simpa using k2⟩
    obtain ⟨q, hq⟩ := Go.Deep.choose_lt each
    have hne : 0 < len → ∃ b o, a = ⟨b, o, none⟩ := fun h0 => by
      have := (hq 0 h0).1
      rw [Nat.zero_mul, show a.add 0 = a from rfl] at this
      exact spot_none this
    by_cases h0 : 0 < len
    · exact ⟨some a, len, cap, (List.range len).map q, rfl, sl3_of (by omega) q (hne h0) (fun i hi => hq i hi), trivial⟩
    · obtain rfl : len = 0 := by omega
      exact ⟨some a, 0, cap, [], rfl, ⟨rfl, Nat.zero_le _, fun k x hx => by simp at hx⟩, trivial⟩
end
end Go.Proofs.Ytcgjgelapjdihaa
