/-
  A copy of numbers; a number put to its place among rising ones.
-/
import Derived.Test.YtdcbdogcglinkaaInts
import Derived.Deep.RegionLaw
namespace Go.Proofs.Ytdcbdogcglinkaa
set_option maxRecDepth 100000
open Go.RowKit

set_option maxHeartbeats 400000 in
theorem l00Own_any (w : World) (A : Option Addr) (n c : Nat) (xs : List Int) (h : Sl (Value.int .i64) w A n xs) (hl : n ≤ 1048576) :
    Calls Try.prog 62 #[.slice A n c] w fun e w' => ∃ v, e = .returned v ∧ Coll w w' 2 v (xs.map (Value.int .i64)) := by
  have h0 := Coll.empty (e := 2) (Below.refl w.heap.size w)
  have h2 := h.lay (.cells #[] 2)
  go_enter Try.func62, Try.ntmps62
  go_wp2_with (at_builtin; refine Coll.join Try.underlying24 int64_info rfl (by decide) h0 h2 (fun _ => rfl) (by simp; omega) rfl _ _ rfl rfl rfl ?_; intro v1 w1 hc1 hg1)
  go_ret
  exact ⟨_, rfl, by simpa using hc1⟩

def putGo : Bool → List Int → Int → List Int
  | d, [], z => if d = true then [] else [z]
  | true, x :: xs, z => x :: putGo true xs z
  | false, x :: xs, z => if z ≤ x then (if z < x then z :: x :: putGo true xs z else x :: putGo true xs z) else x :: putGo false xs z
theorem putGo_true (xs : List Int) (z : Int) : putGo true xs z = xs := by
  induction xs with
  | nil => simp [putGo]
  | cons x xs ih => simp [putGo, ih]
set_option maxHeartbeats 800000 in
theorem l00Put_any (w : World) (A : Option Addr) (n c : Nat) (xs : List Int) (z : Int) (h : Sl (Value.int .i64) w A n xs) (hl : n ≤ 1048576) :
    Calls Try.prog 54 #[.slice A n c, .int .i64 z] w fun e w' => ∃ v, e = .returned v ∧ Coll w w' 2 v ((putGo false xs z).map (Value.int .i64)) := by
  have h0 := Coll.empty (e := 2) (Below.refl w.heap.size w)
  go_enter Try.func54, Try.ntmps54
  go_wp2
  go_loopw [5, 6, 7] (fun v dv i wr => ∃ (k : Nat) (acc : List Int) (d : Bool), k ≤ n ∧ acc.length ≤ k + (if d = true then 1 else 0) ∧ i = .int .i64 k ∧ dv = .bool d ∧ Coll w wr 2 v (acc.map (Value.int .i64)) ∧ acc ++ putGo d (xs.drop k) z = putGo false xs z) (fun _ _ i _ => n - (intOf i).toNat)
  case atStart => exact ⟨0, [], false, Nat.zero_le _, by simp, rfl, rfl, h0, by simp⟩
  case round =>
    clear h0
    obtain ⟨k, acc, d, hk, hak, rfl, rfl, hco, HR⟩ := hrel
    by_cases hlt : k < n
    · obtain ⟨b, o, x, rfl, hx, hc⟩ := h.at_ hco.below hlt
      rw [drop_get hx] at HR
      cases d with
      | true =>
        rw [putGo] at HR
        have H2 : Hid ((acc ++ [x]) ++ putGo true (xs.drop (k + 1)) z = putGo false xs z) := by unfold Hid; rw [← HR]; simp
        have hak2 : acc.length ≤ k + 1 := by simpa using hak
        clear HR hx hak
        go_wp2_with (at_builtin; refine Coll.push Try.underlying24 int64_info rfl (by decide) hco rfl (by rw [List.length_map]; omega) rfl _ _ rfl rfl rfl ?_; intro v1 w1 hc1 hg1)
        go_roundw
        case rel => exact ⟨k + 1, acc ++ [x], true, by omega, by simp; omega, by go_num, rfl, by simpa using hc1, H2.out⟩
        case measure => simp [intOf]; omega
      | false =>
        rw [putGo] at HR
        have hak2 : acc.length ≤ k := by simpa using hak
        by_cases hzx : z ≤ x
        · rw [if_pos hzx] at HR
          by_cases hzx2 : z < x
          · rw [if_pos hzx2] at HR
            have H2 : Hid ((acc ++ [z] ++ [x]) ++ putGo true (xs.drop (k + 1)) z = putGo false xs z) := by unfold Hid; rw [← HR]; simp
            have HX := hide hx
            clear HR hx hak
            go_wp2_with (first
              | (at_builtin; refine Coll.push Try.underlying24 int64_info rfl (by decide) hco rfl (by rw [List.length_map]; omega) rfl _ _ rfl rfl rfl ?_; intro v1 w1 hc1 hg1; have hcx := h.cell hc1.below HX.out)
              | (at_builtin; refine Coll.push Try.underlying24 int64_info rfl (by decide) hc1 rfl (by simp; omega) rfl _ _ rfl rfl rfl ?_; intro v2 w2 hc2 hg2))
            go_roundw
            case rel => exact ⟨k + 1, acc ++ [z] ++ [x], true, by omega, by simp; omega, by go_num, rfl, by simpa using hc2, H2.out⟩
            case measure => simp [intOf]; omega
          · rw [if_neg hzx2] at HR
            have H2 : Hid ((acc ++ [x]) ++ putGo true (xs.drop (k + 1)) z = putGo false xs z) := by unfold Hid; rw [← HR]; simp
            clear HR hx hak
            go_wp2_with (at_builtin; refine Coll.push Try.underlying24 int64_info rfl (by decide) hco rfl (by rw [List.length_map]; omega) rfl _ _ rfl rfl rfl ?_; intro v1 w1 hc1 hg1)
            go_roundw
            case rel => exact ⟨k + 1, acc ++ [x], true, by omega, by simp; omega, by go_num, rfl, by simpa using hc1, H2.out⟩
            case measure => simp [intOf]; omega
        · rw [if_neg hzx] at HR
          have H2 : Hid ((acc ++ [x]) ++ putGo false (xs.drop (k + 1)) z = putGo false xs z) := by unfold Hid; rw [← HR]; simp
          clear HR hx hak
          go_wp2_with (at_builtin; refine Coll.push Try.underlying24 int64_info rfl (by decide) hco rfl (by rw [List.length_map]; omega) rfl _ _ rfl rfl rfl ?_; intro v1 w1 hc1 hg1)
          go_roundw
          case rel => exact ⟨k + 1, acc ++ [x], false, by omega, by simp; omega, by go_num, rfl, by simpa using hc1, H2.out⟩
          case measure => simp [intOf]; omega
    · rw [h.end_ hlt] at HR
      cases d with
      | true =>
        have H2 : Hid (acc = putGo false xs z) := by unfold Hid; simpa [putGo] using HR
        clear HR hak
        go_wp2
        go_ret
        exact ⟨_, rfl, by rw [← H2.out]; exact hco⟩
      | false =>
        have H2 : Hid (acc ++ [z] = putGo false xs z) := by unfold Hid; simpa [putGo] using HR
        have hak2 : acc.length ≤ k := by simpa using hak
        clear HR hak
        go_wp2_with (at_builtin; refine Coll.push Try.underlying24 int64_info rfl (by decide) hco rfl (by rw [List.length_map]; omega) rfl _ _ rfl rfl rfl ?_; intro v1 w1 hc1 hg1)
        go_ret
        exact ⟨_, rfl, by rw [← H2.out]; simpa using hc1⟩

end Go.Proofs.Ytdcbdogcglinkaa
