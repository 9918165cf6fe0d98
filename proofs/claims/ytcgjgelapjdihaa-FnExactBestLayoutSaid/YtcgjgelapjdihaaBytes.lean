/-
  []byte that the call itself gathers: append of a text, and the text that is made of the bytes.
-/
import Derived.Test.YtcgjgelapjdihaaTexts
import Derived.Deep.AppendSrc
namespace Go.Proofs.Ytcgjgelapjdihaa
set_option maxRecDepth 100000
open Go.RowKit

theorem byte_info : (Try.prog.info? 5).map (fun i => (i.zero, i.size, i.bytes)) = some (some (.int .u8 0), 1, 1) := by kernel_rfl

theorem run_append_text (w : World) (base : Nat) (ty : TypeId) (v : Value) (n : Nat) (xs : List Value) (s : ByteArray) (hown : w.ownsRow base 5 1 v n xs) (hn : n + s.size ≤ 1099511627776) (hbase : base ≤ w.heap.size) :
    ∃ v1 w1, (Builtin.append_ #[43, 9] ty #[v, .string s]).run Try.prog w = .ok v1 w1 ∧ w1.ownsRow base 5 1 v1 (n + s.size) (xs ++ byteCells s) ∧ w.grownBy w1 v.ownBlock := by
  obtain ⟨i, hi, hz0, hz1, hz2⟩ := info_parts byte_info
  have hT := Try.underlying43
  have hsrc := Src.ofString (P := Try.prog) w Try.underlying9 s
  rw [show (1 : Nat) = i.size from hz1.symm] at hsrc
  have hlen : (xs ++ byteCells s).length = (n + s.size) * 1 := by rw [List.length_append, hown.1, byteCells_length]; omega
  have hgrow : ∀ (b0 : Option Addr) (cap : Nat), cap < n + s.size → cap ≤ maxLen → (Builtin.firstCells i.size n (.slice b0 n cap)).run Try.prog w.drew = .ok xs.toArray w.drew →
      ∃ v1 w1, (Builtin.append_ #[43, 9] ty #[.slice b0 n cap, .string s]).run Try.prog w = .ok v1 w1 ∧ w1.ownsRow base 5 1 v1 (n + s.size) (xs ++ byteCells s) ∧ ∀ r, w.grownBy w1 r := by
    intro b0 cap hc hcm hold
    have hr := run_append_grow_src (P := Try.prog) w 43 9 ty 5 i (.int .u8 0) hT hi hz0 b0 n cap xs hold (.string s) s.size (byteCells s) hsrc hc (by omega) (growslice_fits (by omega) (by rw [hz2]; omega))
    refine ⟨_, _, hr, ⟨hlen, .inr ⟨w.heap.size, _, _, rfl, hbase, heap_alloc_new w.drew _, grownCap_ge w _ _ _, grownCap_le_maxLen w _ _ _ (by unfold maxLen; omega), ?_, ?_⟩⟩, fun r => ⟨rfl, rfl, rfl, by simp, fun k hk _ => Below.heap_alloc w.drew _ k hk⟩⟩
    · have := grownCap_ge w (n + s.size) cap 5
      simp only [Array.size_append, List.size_toArray, size_zeroCells, hlen, Value.cells]
      simp; omega
    · simp only [Array.toList_append]
      rw [← hlen]
      exact List.take_left
  rcases hown.2 with ⟨rfl, rfl⟩ | ⟨g, cap, cur, rfl, hbg, hg, hnc, hcm, hcs, htake⟩
  · have hx : xs = [] := List.eq_nil_of_length_eq_zero (by simpa using hown.1)
    subst hx
    by_cases hs0 : s.size = 0
    · have hb0 : byteCells s = [] := List.eq_nil_of_length_eq_zero (by rw [byteCells_length]; exact hs0)
      refine ⟨.slice none 0 0, w, ?_, ?_, World.grownBy.refl _ _⟩
      · have hfc := hsrc.cells
        rw [hb0] at hfc
        simp [Builtin.append_, run_underlying hT, run_underlying Try.underlying9, sizeOf, typeInfo, hi, hsrc.len, hs0]
        rw [hs0] at hfc
        simp [hfc]
      · rw [hb0, hs0]
        exact World.ownsRow_nil w base _ _
    · obtain ⟨v1, w1, h1, h2, h3⟩ := hgrow none 0 (by omega) (by unfold maxLen; omega) (run_firstCells_none w.drew i.size 0 0 0)
      exact ⟨v1, w1, h1, h2, h3 _⟩
  · by_cases hroom : n + s.size ≤ cap
    · have hst := run_storeCells_at Try.prog g (n * i.size) 5 (byteCells s) 0 cur w hg (by rw [byteCells_length, hz1, hcs]; omega) (fun u hu => hsrc.one u hu)
      simp only [Nat.add_zero] at hst
      refine ⟨_, _, by simp [Builtin.append_, run_underlying hT, run_underlying Try.underlying9, sizeOf, typeInfo, hi, hsrc.len, hroom, hsrc.cells, Addr.add_lit, hst]; rfl, ⟨hlen, .inr ⟨g, cap, _, rfl, hbg, setRow_heap w g cur _ 5 _ hg, hroom, hcm, ?_, ?_⟩⟩, ⟨rfl, rfl, rfl, by simp, fun k _ hk => setRow_other w g k _ (fun e => hk (by simp [Value.ownBlock, e]))⟩⟩
      · simp only [List.size_toArray, List.length_append, List.length_take, List.length_drop, Array.length_toList, byteCells_length, hz1]
        omega
      · simp only [hz1, htake, ← hlen]
        rw [← List.append_assoc]
        exact List.take_left
    · obtain ⟨v1, w1, h1, h2, h3⟩ := hgrow (some ⟨g, 0, none⟩) cap (by omega) hcm (run_firstCells_some w.drew i.size n ⟨g, 0, none⟩ n cap xs (by rw [hown.1, hz1]) (by simpa using hown.cells (g := g) rfl))
      exact ⟨v1, w1, h1, h2, h3 _⟩

section
variable {W w : World} {v : Value} {xs : List Value} {s : ByteArray}
/-- append(out, s...) of a text. -/
theorem Coll.text (hc : Coll W w 5 v xs) (hn : xs.length + s.size ≤ 1099511627776)
    {ops : Array Oper} {rest : List Oper} {o : Oper} {a : Act} {Q : Exit → Act → World → Prop} (hgd : o.guard = none) (s1 x : Operand)
    (ho : o.op = .call { callee := .builtin .append, args := #[s1, x], argTypes := #[43, 9] }) (hs : a.eval s1 = v) (hx : a.eval x = .string s)
    (hK : ∀ v1 w1, Coll W w1 5 v1 (xs ++ (by_ s).map ub) → w.grownBy w1 v.ownBlock → wpList Try.prog ops Q rest (a.put o.dst v1) w1) :
    wpList Try.prog ops Q (o :: rest) a w := by
  refine wpList_plain hgd fun K hK1 => ?_
  obtain ⟨v1, w1, hrun, h2, h3⟩ := run_append_text w W.heap.size o.type v xs.length xs s hc.own hn hc.below.size
  unfold Oper.wp
  simp [execOp, ho, resolve, invoke, builtin, hs, hx, hrun, Result.andThen]
  refine hK1 _ _ (hK v1 w1 ⟨?_, hc.below.grown h3 hc.below.size (fun k hk => (hc.own.lt k hk).1)⟩ h3)
  have e : (xs ++ (by_ s).map ub).length = xs.length + s.size := by simp [by_len]
  rw [e]
  exact h2

/-- string(out): the text of the bytes. -/
theorem Coll.str {l : List UInt8} (hc : Coll W w 5 v (l.map ub)) : (convert 43 9 v).run Try.prog w = .ok (.string ⟨l.toArray⟩) w := by
  obtain ⟨A, c, rfl, _, _, hs⟩ := Sl.of_coll hc
  cases A with
  | none =>
    have : l = [] := by
      cases l with
      | nil => rfl
      | cons y ys => obtain ⟨b, o, hh, _⟩ := hs.rd 0 (ub y) rfl; cases hh
    subst this
    have := run_convert_bytes_nil (P := Try.prog) (w := w) 43 5 Try.underlying43 Try.underlying5 0 c 9 Try.underlying9
    exact this
  | some a =>
    cases l with
    | nil =>
      obtain ⟨b, o, sp⟩ := a
      have h0 := hc.own.2
      rcases h0 with ⟨h', _⟩ | ⟨g, cap, cur, h', _⟩
      · simp at h'
      · simp at h'
        obtain ⟨⟨rfl, rfl, rfl⟩, _⟩ := h'
        have := run_convert_bytes_arg (P := Try.prog) w 43 5 Try.underlying43 Try.underlying5 b 0 0 c [] rfl (fun i hi => by omega) 9 Try.underlying9
        simpa [strOfNums] using this
    | cons y ys =>
      obtain ⟨b, o, hh, _, _⟩ := hs.rd 0 (ub y) rfl
      cases hh
      have := run_convert_bytes_arg (P := Try.prog) w 43 5 Try.underlying43 Try.underlying5 b o (y :: ys).length c ((y :: ys).map fun b => (b.toNat : Int)) (by simp) (fun i hi => by
        obtain ⟨b1, o1, e1, _, e3⟩ := hs.rd i (ub (y :: ys)[i]) (by rw [List.getElem?_map, List.getElem?_eq_getElem hi]; rfl)
        cases e1
        rw [e3]
        rw [List.getD_eq_getElem?_getD, List.getElem?_map, List.getElem?_eq_getElem hi]; rfl) 9 Try.underlying9
      rw [this]
      congr 2
      simp [strOfNums, Function.comp_def]
end
end Go.Proofs.Ytcgjgelapjdihaa
