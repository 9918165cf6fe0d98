/-
  A law's argument that is a table of texts, opened.
-/
import Derived.Test.YtanpmjbephelaaaArgs
import Derived.Test.YtanpmjbephelaaaTab
import Derived.Deep.Slices
namespace Go.Proofs.Ytanpmjbephelaaa
set_option maxRecDepth 100000
open Go.ChangeShapes Go.WideShapes Go.ChangeAt Go.RowKit Go.Joins

theorem cellsT : Try.prog.cellsOf 22 = 1 := by kernel_rfl
section
variable {H : Type} {enc : TypeId × Value → H} {W : World} {base : Nat} {v : Value} {d : DataW H} {p : List MemPlace}
theorem arg_tables (hval : Value.okWide Try.prog W .any base 43 v) (h : DataW.Trod enc Try.prog W 0 (fun _ => true) true 43 v d p) :
    ∃ A n c rows, v = .slice A n c ∧ Tb W A n rows ∧ ∀ r ∈ rows, ∀ x ∈ r, x.size ≤ maxLen := by
  obtain ⟨a0, len, cap, rfl⟩ := okWide_slice Try.underlying43 hval
  obtain ⟨fuel, hf⟩ := h
  rcases Go.Deep.open_slice1 Try.underlying43 cellsT hf with ⟨hcs, _⟩ | ⟨a, l, c, m, n, V, D, Pl, hcs, hb, hl, hm, hmm, hx, hi⟩
  · simp [Value.cells] at hcs
    obtain ⟨rfl, rfl, rfl⟩ := hcs
    exact ⟨none, 0, 0, [], rfl, Tb.nil_ _, by simp⟩
  · simp [Value.cells] at hcs
    obtain ⟨rfl, rfl, rfl⟩ := hcs
    have hlm : len ≤ m := by rw [hmm]; split <;> omega
    have each : ∀ i, i < len → ∃ q : List ByteArray, (∃ Ak ck, W.cell? (a.add i) = some (.slice Ak q.length ck) ∧ Sl Value.string W Ak q.length q) ∧ ∀ x ∈ q, x.size ≤ maxLen := by
      intro i hi'
      obtain ⟨hc, ht'⟩ := hi i (by omega)
      rcases open_strings Try.underlying22 Try.underlying9 cells9 ht' with ⟨hcs', _⟩ | ⟨a', l', c', zs, hcs', _, hl', hm', hz', _, hcell', hwz'⟩
      · have e : V i = .slice none 0 0 := by simpa using hcs'
        exact ⟨[], ⟨none, 0, by rw [hc, e]; rfl, Sl.nil_ _⟩, by simp⟩
      · have e : V i = .slice (some a') l' c' := by simpa using hcs'
        simp at hz'
        have hlz : l' ≤ zs.length := by omega
        have hql : (zs.take l').length = l' := by rw [List.length_take, Nat.min_eq_left hlz]
        refine ⟨zs.take l', ⟨some a', c', by rw [hc, e, hql], ?_⟩, fun x hx => hwz' x (List.mem_of_mem_take hx)⟩
        refine ⟨rfl, by rw [hql]; unfold maxLen at hm'; omega, rd_of hlz hcell'⟩
    obtain ⟨q, hq⟩ := Go.Deep.choose_lt each
    refine ⟨some a, len, cap, (List.range len).map q, rfl, ⟨by simp, by unfold maxLen at hm; omega, fun k l hk => ?_⟩, fun r hr => ?_⟩
    · have hkl : k < len := by have := (List.getElem?_eq_some_iff.1 hk).1; simpa using this
      rw [List.getElem?_map, List.getElem?_range hkl] at hk
      simp at hk
      subst hk
      obtain ⟨⟨Ak, ck, h1, h2⟩, _⟩ := hq k hkl
      obtain ⟨⟨A0, c0, h3, _⟩, _⟩ := hq 0 (by omega)
      rw [show a.add 0 = a from rfl] at h3
      obtain ⟨b, o, rfl⟩ := spot_none h3
      exact ⟨b, o, Ak, ck, rfl, World.block_lt_of_cell? W _ h3, by rw [Addr.add_lit] at h1; exact h1, h2⟩
    · obtain ⟨i, hi', rfl⟩ := List.mem_map.1 hr
      exact (hq i (List.mem_range.1 hi')).2
end
end Go.Proofs.Ytanpmjbephelaaa
