/-
  The helpers of the laws over []int64: copy, compare, mark, hold.
-/
import Derived.Test.YtanpmjbephelaaaWords
namespace Go.Proofs.Ytanpmjbephelaaa
set_option maxRecDepth 100000
open Go.RowKit

theorem int64_info : (Try.prog.info? 2).map (fun i => (i.zero, i.size, i.bytes)) = some (some (.int .i64 0), 1, 8) := by kernel_rfl

/-! ### toInt64S -/
theorem part_step_i (xs : List Int) (k n : Nat) (x : Int) (hn : xs.length = n) (hx : xs[k]? = some x) :
    ((xs.take k).map (Value.int .i64) ++ List.replicate (n - k) (Value.int .i64 0)).set k (.int .i64 x) = (xs.take (k + 1)).map (Value.int .i64) ++ List.replicate (n - (k + 1)) (Value.int .i64 0) := by
  obtain ⟨h1, h2⟩ := List.getElem?_eq_some_iff.1 hx
  have hl : ((xs.take k).map (Value.int .i64)).length = k := by simp; omega
  rw [List.set_append_right _ _ (by omega), hl, Nat.sub_self, show n - k = (n - (k + 1)) + 1 from by omega, List.replicate_succ, List.set_cons_zero, List.take_succ_eq_append_getElem h1, h2]
  simp

set_option maxHeartbeats 400000 in
theorem toInt64S_any (w : World) (A : Option Addr) (n c : Nat) (xs : List Int) (h : Sl (Value.int .i64) w A n xs) (hn : n ≤ 1048576) :
    Calls Try.prog 17 #[.slice A n c] w fun e w' => ∃ v, e = .returned v ∧ Coll w w' 2 v (xs.map (Value.int .i64)) := by
  obtain ⟨i0, hi, hz0, hz1, hz2⟩ := info_parts int64_info
  go_enter Try.func17, Try.ntmps17
  go_wp2_with (at_make; refine wpList_make_full _ rfl _ _ 23 rfl w.heap.size 2 i0 (.int .i64 0) 1 Try.underlying23 hi hz0 hz1 .i64 .i64 _ _ n rfl rfl rfl rfl (by rw [hz2]; omega) (by simp only [maxLen]; omega) (Nat.le_refl _) ?_; intro w1 hown1 hg1)
  have hb1 : Below w.heap.size w w1 := (Below.refl _ _).grown hg1 (Nat.le_refl _) (by simp)
  simp only [Value.cells, Nat.mul_one, toList_madeCells_one] at hown1
  go_loopw [4] (fun i wr => ∃ k : Nat, k ≤ n ∧ i = .int .i64 k ∧ wr.ownsRow w.heap.size 2 1 (.slice (some ⟨w.heap.size, 0, none⟩) n n) n ((xs.take k).map (Value.int .i64) ++ List.replicate (n - k) (.int .i64 0)) ∧ Below w.heap.size w wr) (fun i _ => n - (intOf i).toNat)
  case atStart => exact ⟨0, Nat.zero_le _, rfl, by simpa using hown1, hb1⟩
  case round =>
    obtain ⟨k, hk, rfl, hown, hb⟩ := hrel
    by_cases hlt : k < n
    · obtain ⟨b, o, x, rfl, hx, hc⟩ := h.at_ hb hlt
      have hcell := hown.cellAt k (by omega)
      rw [List.getElem?_append_right (by simp; omega), List.getElem?_replicate] at hcell
      have hlen : ((xs.take k).map (Value.int .i64)).length = k := by have := h.len; simp; omega
      rw [hlen, if_pos (by omega)] at hcell
      have hfr := hown.frozenAt k
      have hst := hown.stored k (.int .i64 x)
      rw [part_step_i xs k n x h.len hx] at hst
      have HS := hide hst
      clear hst hlen hown hx
      go_wp2
      go_roundw
      case rel => exact ⟨k + 1, by omega, by go_num, HS.out.1, hb.grown HS.out.2 hb.size (fun g hg => by cases hg; exact Nat.le_refl _)⟩
      case measure => simp [intOf]; omega
    · have hkn : k = n := by omega
      subst hkn
      have HO : Hid (Coll w wr 2 (.slice (some ⟨w.heap.size, 0, none⟩) k k) (xs.map (Value.int .i64))) := by
        refine ⟨?_, hb⟩
        rw [List.length_map, h.len]
        simpa [← h.len] using hown
      clear hown
      go_wp2
      go_ret
      exact ⟨_, rfl, HO.out⟩

/-! ### eqInt64S, of two slices that read as one list -/
set_option maxHeartbeats 400000 in
theorem eqInt64S_same (w : World) (A A' : Option Addr) (n c c' : Nat) (xs : List Int) (h1 : Sl (Value.int .i64) w A n xs) (h2 : Sl (Value.int .i64) w A' n xs) :
    Calls Try.prog 20 #[.slice A n c, .slice A' n c'] w fun e w' => e = .returned (.bool true) ∧ Below w.heap.size w w' := by
  have hn := h1.max
  go_enter Try.func20, Try.ntmps20
  go_wp2
  go_loopw [5] (fun i wr => ∃ k : Nat, k ≤ n ∧ i = .int .i64 k ∧ Below w.heap.size w wr) (fun i _ => n - (intOf i).toNat)
  case atStart => exact ⟨0, Nat.zero_le _, rfl, Below.refl _ _⟩
  case round =>
    obtain ⟨k, hk, rfl, hb⟩ := hrel
    by_cases hlt : k < n
    · obtain ⟨b, o, x, rfl, hx, hc⟩ := h1.at_ hb hlt
      obtain ⟨b', o', x', rfl, hx', hc'⟩ := h2.at_ hb hlt
      obtain rfl : x = x' := by rw [hx] at hx'; exact Option.some.inj hx'
      clear hx hx'
      go_wp2
      go_quiet (fail)
      go_wp2
      go_roundw
      case rel => exact ⟨k + 1, by omega, by go_num, below_drewN hb _⟩
      case measure => simp [intOf]; omega
    · go_wp2
      go_ret
      exact ⟨rfl, hb⟩
/-! ### markInt64S, heldInt64S -/
def marksI (k0 : Int) (n : Nat) : List Value := (List.range n).map fun j : Nat => Value.int .i64 (k0 + (j : Int))
theorem marksI_length (k0 : Int) (n : Nat) : (marksI k0 n).length = n := by simp [marksI]
theorem marksI_get (k0 : Int) (n j : Nat) (h : j < n) : (marksI k0 n)[j]? = some (.int .i64 (k0 + j)) := by simp [marksI, h]
theorem marksI_succ (k0 : Int) (n : Nat) : marksI k0 (n + 1) = marksI k0 n ++ [.int .i64 (k0 + n)] := by simp [marksI, List.range_succ]
theorem marksI_step (k0 : Int) (j n : Nat) (xs : List Value) (hx : xs.length = n) (hj : j < n) : (marksI k0 j ++ xs.drop j).set j (.int .i64 (k0 + j)) = marksI k0 (j + 1) ++ xs.drop (j + 1) := by
  rw [List.set_append_right _ _ (by simp [marksI_length]), marksI_length, Nat.sub_self, List.drop_eq_getElem_cons (by omega), List.set_cons_zero, marksI_succ]
  simp

set_option maxHeartbeats 400000 in
theorem markInt64S_any (base : Nat) (A : Option Addr) (c n : Nat) (xs : List Value) (k0 : Int) (w : World) (hown : w.ownsRow base 2 1 (.slice A n c) n (xs)) (hone : ∀ u ∈ xs, ∃ z, u = Value.int .i64 z)
    (hn : n ≤ maxLen) (hk0 : 0 ≤ k0) (hk1 : k0 + n ≤ 4611686018427387904) :
    Calls Try.prog 22 #[.slice A n c, .int .i64 k0] w fun e w' =>
      e = .returned (.int .i64 (k0 + n)) ∧ w.grownBy w' (Value.slice A n c).ownBlock ∧ w'.ownsRow base 2 1 (.slice A n c) n (marksI k0 n) := by
  unfold maxLen at hn
  go_enter Try.func22, Try.ntmps22
  go_wp2
  go_loopw [1, 5] (fun kv i wr => ∃ j : Nat, j ≤ n ∧ i = .int .i64 j ∧ kv = .int .i64 (k0 + j) ∧ wr.ownsRow base 2 1 (.slice A n c) n (marksI k0 j ++ xs.drop j) ∧ w.grownBy wr (Value.slice A n c).ownBlock) (fun _ i _ => n - (intOf i).toNat)
  case atStart => exact ⟨0, Nat.zero_le _, rfl, by simp, by simpa [marksI] using hown, World.grownBy.refl _ _⟩
  case round =>
    obtain ⟨j, hj, rfl, rfl, ho, hg⟩ := hrel
    by_cases hlt : j < n
    · have hl : xs.length = n := by have := hown.1; omega
      obtain ⟨g, rfl, hgb⟩ := own_form ho (by omega)
      have hcell := ho.cellAt j (by omega)
      rw [List.getElem?_append_right (by simp [marksI_length]), marksI_length, Nat.sub_self, List.getElem?_drop, Nat.add_zero] at hcell
      obtain ⟨z, hz⟩ := hone xs[j] (List.getElem_mem _)
      have hz' : xs[j]? = some (.int .i64 z) := by rw [List.getElem?_eq_getElem (by omega), hz]
      rw [hz'] at hcell
      have hfr := ho.frozenAt j
      have hst := ho.stored j (.int .i64 (k0 + j))
      rw [marksI_step k0 j n xs hl hlt] at hst
      have HS := hide hst
      have HG := hide hg
      clear hst hg ho hz hz' hown hl
      go_wp2
      go_roundw
      case rel => exact ⟨j + 1, by omega, by go_num, by go_num, HS.out.1, grow_trans HG.out HS.out.2⟩
      case measure => simp [intOf]; omega
    · obtain rfl : j = n := by omega
      have HO : Hid (wr.ownsRow base 2 1 (.slice A j c) j (marksI k0 j)) := by
        have := hown.1
        rw [List.drop_eq_nil_of_le (by omega), List.append_nil] at ho
        exact ho
      have HG := hide hg
      clear ho hg hown
      go_wp2
      go_ret
      exact ⟨rfl, HG.out, HO.out⟩

set_option maxHeartbeats 400000 in
theorem heldInt64S_any (base : Nat) (A : Option Addr) (c n : Nat) (k0 : Int) (w : World) (hown : w.ownsRow base 2 1 (.slice A n c) n (marksI k0 n))
    (hn : n ≤ maxLen) (hk0 : 0 ≤ k0) (hk1 : k0 + n ≤ 4611686018427387904) :
    Calls Try.prog 30 #[.slice A n c, .int .i64 k0] w fun e w' => e = .returned (.int .i64 (k0 + n)) ∧ Below w.heap.size w w' := by
  unfold maxLen at hn
  go_enter Try.func30, Try.ntmps30
  go_wp2
  go_loop [1, 5] (fun kv i => ∃ j : Nat, j ≤ n ∧ i = .int .i64 j ∧ kv = .int .i64 (k0 + j)) (fun _ i => n - (intOf i).toNat)
  case atStart => exact ⟨0, Nat.zero_le _, rfl, by simp⟩
  case round =>
    obtain ⟨j, hj, rfl, rfl⟩ := hrel
    by_cases hlt : j < n
    · obtain ⟨g, rfl, hgb⟩ := own_form hown (by omega)
      have hcell := hown.cellAt j (by omega)
      rw [marksI_get k0 n j hlt] at hcell
      clear hown
      go_wp2
      go_round
      case rel => exact ⟨j + 1, by omega, by go_num, by go_num⟩
      case measure => simp [intOf]; omega
    · obtain rfl : j = n := by omega
      go_wp2
      go_ret
      exact ⟨rfl, Below.refl _ _⟩
end Go.Proofs.Ytanpmjbephelaaa
