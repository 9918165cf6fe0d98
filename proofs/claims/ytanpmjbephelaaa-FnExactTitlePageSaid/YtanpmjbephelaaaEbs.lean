/-
  append(out, make([]string, m)...): so many empty texts behind a slice of the call's own.
-/
import Derived.Test.YtanpmjbephelaaaStrs
import Derived.Lib.AppendZerosOnto
namespace Go.Proofs.Ytanpmjbephelaaa
set_option maxRecDepth 100000
open Go.RowKit

theorem zeros_eb (m : Nat) : (Builtin.zeroCells (Value.string ⟨#[]⟩).cells m).toList = List.replicate m (.string ⟨#[]⟩) := by
  have e : (Value.string ⟨#[]⟩).cells = #[.string ⟨#[]⟩] := rfl
  unfold Builtin.zeroCells
  rw [e]
  apply List.ext_getElem
  · simp
  · intro i h1 h2
    simp
    have : i % 1 = 0 := Nat.mod_one i
    simp [this]
theorem run_append_eb (w : World) (base : Nat) (ty : TypeId) (v : Value) (n : Nat) (xs : List Value) (m : Nat) (hown : w.ownsRow base 9 1 v n xs) (hn : n + m ≤ 1099511627776) (hbase : base ≤ w.heap.size) :
    ∃ v1 w1, (Builtin.append_ #[22, 3] ty #[v, .int .i64 m]).run Try.prog w = .ok v1 w1 ∧ w1.ownsRow base 9 1 v1 (n + m) (xs ++ List.replicate m (.string ⟨#[]⟩)) ∧ w.grownBy w1 v.ownBlock := by
  obtain ⟨i, hi, hz0, hz1, hz2⟩ := info_parts string_info
  have hT := Try.underlying22
  have hI := Try.underlying3
  have hlen : (xs ++ List.replicate m (Value.string ⟨#[]⟩)).length = (n + m) * 1 := by rw [List.length_append, hown.1, List.length_replicate]; omega
  have hw : IntKind.i64.wrap (m : Int) = m := by rw [IntKind.wrap_i64]; omega
  have hneg : ¬ ((m : Int) < 0) := by omega
  have hw0 : IntKind.i64.wrap 0 = 0 := by rw [IntKind.wrap_i64]; omega
  have h48 : ¬ (281474976710656 < (m : Int) * (16 : Int)) := by omega
  have hgrow : ∀ (b0 : Option Addr) (cap : Nat), cap < n + m → cap ≤ maxLen → 0 < m → (Builtin.firstCells i.size n (.slice b0 n cap)).run Try.prog w.drew = .ok xs.toArray w.drew →
      ∃ v1 w1, (Builtin.append_ #[22, 3] ty #[.slice b0 n cap, .int .i64 m]).run Try.prog w = .ok v1 w1 ∧ w1.ownsRow base 9 1 v1 (n + m) (xs ++ List.replicate m (.string ⟨#[]⟩)) ∧ ∀ r, w.grownBy w1 r := by
    intro b0 cap hc hcm hm0 hold
    have hr := Lib.run_append_grow_zeros (P := Try.prog) w 22 3 ty 9 i (.string ⟨#[]⟩) .i64 .i64 hT hI hi hz0 b0 n cap xs hold m hm0 (by omega) hc (by omega) (by rw [hz2]; omega) (growslice_fits (by omega) (by rw [hz2]; omega))
    refine ⟨_, _, hr, ⟨hlen, .inr ⟨w.heap.size, _, _, rfl, hbase, heap_alloc_new w.drew _, grownCap_ge w _ _ _, grownCap_le_maxLen w _ _ _ (by unfold maxLen; omega), ?_, ?_⟩⟩, fun r => ⟨rfl, rfl, rfl, by simp, fun k hk _ => Below.heap_alloc w.drew _ k hk⟩⟩
    · have := grownCap_ge w (n + m) cap 9
      have hxl := hown.1
      simp only [Array.size_append, List.size_toArray, size_zeroCells, Value.cells]
      simp [hxl]; omega
    · simp only [Array.toList_append, zeros_eb]
      rw [← hlen]
      exact List.take_left
  rcases hown.2 with ⟨rfl, rfl⟩ | ⟨g, cap, cur, rfl, hbg, hg, hnc, hcm, hcs, htake⟩
  · have hx : xs = [] := List.eq_nil_of_length_eq_zero (by simpa using hown.1)
    subst hx
    by_cases hm0 : m = 0
    · subst hm0
      refine ⟨.slice none 0 0, w, ?_, ?_, World.grownBy.refl _ _⟩
      · simp [Builtin.append_, run_underlying hT, run_underlying hI, sizeOf, typeInfo, hi, asInt, asIntOf, hz2, hw0]
      · exact World.ownsRow_nil w base _ _
    · obtain ⟨v1, w1, h1, h2, h3⟩ := hgrow none 0 (by omega) (by unfold maxLen; omega) (by omega) (run_firstCells_none w.drew i.size 0 0 0)
      exact ⟨v1, w1, h1, h2, h3 _⟩
  · by_cases hroom : n + m ≤ cap
    · have hst := run_storeCells_at Try.prog g (n * i.size) 9 (List.replicate m (Value.string ⟨#[]⟩)) 0 cur w hg (by rw [List.length_replicate, hz1, hcs]; omega) (fun u hu => by rw [List.eq_of_mem_replicate hu]; rfl)
      simp only [Nat.add_zero] at hst
      by_cases hm0 : m = 0
      · subst hm0
        refine ⟨.slice (some ⟨g, 0, none⟩) n cap, w, ?_, by simpa using hown, World.grownBy.refl _ _⟩
        simp [Builtin.append_, run_underlying hT, run_underlying hI, sizeOf, typeInfo, hi, asInt, asIntOf, hz2, hnc, storeCells, hw0]
      · have hns : ¬ (m * i.size = 0) := Nat.mul_ne_zero hm0 (by omega)
        refine ⟨_, _, by simp [Builtin.append_, run_underlying hT, run_underlying hI, sizeOf, typeInfo, zeroValue, hi, hz0, hz2, asInt, asIntOf, hw, hneg, h48, hns, hroom, zeros_eb, Addr.add_lit, hst]; rfl, ⟨hlen, .inr ⟨g, cap, _, rfl, hbg, setRow_heap w g cur _ 9 _ hg, hroom, hcm, ?_, ?_⟩⟩, ⟨rfl, rfl, rfl, by simp, fun k _ hk => setRow_other w g k _ (fun e => hk (by simp [Value.ownBlock, e]))⟩⟩
        · simp only [List.size_toArray, List.length_append, List.length_take, List.length_drop, Array.length_toList, List.length_replicate, hz1]
          omega
        · simp only [hz1, htake, ← hlen]
          rw [← List.append_assoc]
          exact List.take_left
    · obtain ⟨v1, w1, h1, h2, h3⟩ := hgrow (some ⟨g, 0, none⟩) cap (by omega) hcm (by omega) (run_firstCells_some w.drew i.size n ⟨g, 0, none⟩ n cap xs (by rw [hown.1, hz1]) (by simpa using hown.cells (g := g) rfl))
      exact ⟨v1, w1, h1, h2, h3 _⟩

section
variable {W w : World} {v : Value} {xs : List ByteArray} {m : Nat}
theorem Coll.ebs (hc : Coll W w 9 v (xs.map Value.string)) (hn : xs.length + m ≤ 1099511627776)
    {ops : Array Oper} {rest : List Oper} {o : Oper} {a : Act} {Q : Exit → Act → World → Prop} (hgd : o.guard = none) (s1 x : Operand)
    (ho : o.op = .call { callee := .builtin .append, args := #[s1, x], argTypes := #[22, 3] }) (hs : a.eval s1 = v) (z : Int) (hx : a.eval x = .int .i64 z) (hz : z = (m : Int))
    (hK : ∀ v1 w1, Coll W w1 9 v1 ((xs ++ List.replicate m (⟨#[]⟩ : ByteArray)).map Value.string) → w.grownBy w1 v.ownBlock → wpList Try.prog ops Q rest (a.put o.dst v1) w1) :
    wpList Try.prog ops Q (o :: rest) a w := by
  refine wpList_plain hgd fun K hK1 => ?_
  subst hz
  obtain ⟨v1, w1, hrun, h2, h3⟩ := run_append_eb w W.heap.size o.type v _ _ m hc.own (by rw [List.length_map]; exact hn) hc.below.size
  unfold Oper.wp
  simp [execOp, ho, resolve, invoke, builtin, hs, hx, hrun, Result.andThen]
  refine hK1 _ _ (hK v1 w1 ⟨?_, hc.below.grown h3 hc.below.size (fun k hk => (hc.own.lt k hk).1)⟩ h3)
  simpa using h2
end
end Go.Proofs.Ytanpmjbephelaaa
