/-
  Slices of rules: the helpers of the laws; ValidOvers.
-/
import Derived.Test.YtokdbkkjneadgaaL12D
import Derived.Test.YtokdbkkjneadgaaTriples
import Derived.Deep.RegionWith
namespace Go.Proofs.Ytokdbkkjneadgaa
set_option maxRecDepth 100000
open Go.RowKit

/-! ### szOverS -/
def szOversGo : Int → List (ByteArray × ByteArray × ByteArray) → Int
  | left, [] => left
  | left, x :: xs => if szOver3 left x.1 x.2.1 x.2.2 < 0 then -1 else szOversGo (szOver3 left x.1 x.2.1 x.2.2) xs
def szOvers (left : Int) (xs : List (ByteArray × ByteArray × ByteArray)) : Int := if left - (xs.length : Int) < 0 then -1 else szOversGo (left - (xs.length : Int)) xs
theorem szOversGo_le {xs : List (ByteArray × ByteArray × ByteArray)} : ∀ {left : Int}, 0 ≤ left → 0 ≤ szOversGo left xs → ∀ x ∈ xs, (x.1.size : Int) ≤ left ∧ (x.2.1.size : Int) ≤ left ∧ (x.2.2.size : Int) ≤ left := by
  induction xs with
  | nil => simp
  | cons y ys ih =>
    intro left h0 h x hx
    rw [szOversGo] at h
    split at h
    · omega
    · rename_i hc
      have h1 := szOver3_le (left := left) (x := y.1) (y := y.2.1) (z := y.2.2) (by omega)
      have h2 := szOver3_left (left := left) (x := y.1) (y := y.2.1) (z := y.2.2) h0
      rcases List.mem_cons.1 hx with rfl | hx
      · exact h1
      · have := ih (by omega) h x hx
        omega
theorem szOvers_le {left : Int} {xs : List (ByteArray × ByteArray × ByteArray)} (h : 0 ≤ szOvers left xs) : (xs.length : Int) ≤ left ∧ ∀ x ∈ xs, (x.1.size : Int) ≤ left ∧ (x.2.1.size : Int) ≤ left ∧ (x.2.2.size : Int) ≤ left := by
  unfold szOvers at h
  split at h
  · omega
  · rename_i hc
    refine ⟨by omega, fun x hx => ?_⟩
    have := szOversGo_le (by omega) h x hx
    omega
set_option maxHeartbeats 400000 in
theorem szOverS_any (w : World) (A : Option Addr) (n c : Nat) (xs : List (ByteArray × ByteArray × ByteArray)) (left : Int) (h : Sl3 Value.string w A n xs) (hw : ∀ x ∈ xs, x.1.size ≤ maxLen ∧ x.2.1.size ≤ maxLen ∧ x.2.2.size ≤ maxLen) (h0 : 0 ≤ left) (h1 : left ≤ 1048576) :
    Calls Try.prog 31 #[.slice A n c, .int .i64 left] w fun e w' => e = .returned (.int .i64 (szOvers left xs)) ∧ Below w.heap.size w w' := by
  have hn := h.max
  have HW := hide hw
  clear hw
  by_cases hl : left - (n : Int) < 0
  · have HR : Hid (szOvers left xs = -1) := by unfold Hid szOvers; rw [h.len, if_pos hl]
    go_enter Try.func31, Try.ntmps31
    go_wp2
    go_ret
    exact ⟨ret_int HR.out.symm, Below.refl _ _⟩
  · have HR0 : Hid (szOvers left xs = szOversGo (left - (n : Int)) xs) := by unfold Hid szOvers; rw [h.len, if_neg hl]
    go_enter Try.func31, Try.ntmps31
    go_wp2
    go_loopw [1, 5] (fun lv i wr => ∃ (k : Nat) (l : Int), k ≤ n ∧ i = .int .i64 k ∧ lv = .int .i64 l ∧ 0 ≤ l ∧ l ≤ 1048576 ∧ Below w.heap.size w wr ∧ szOversGo l (xs.drop k) = szOversGo (left - (n : Int)) xs) (fun _ i _ => n - (intOf i).toNat)
    case atStart => exact ⟨0, _, Nat.zero_le _, rfl, rfl, by omega, by omega, Below.refl _ _, by simp⟩
    case round =>
      obtain ⟨k, l, hk, rfl, rfl, hl0, hl1, hb, HR⟩ := hrel
      by_cases hlt : k < n
      · obtain ⟨b, o, x, y, z, rfl, hbl, hx, c0, c1, c2⟩ := h.at_ hb hlt
        have hm := HW.out _ (List.mem_of_getElem? hx)
        unfold maxLen at hm
        obtain ⟨m1, m2, m3⟩ := hm
        simp only at m1 m2 m3
        rw [drop_get hx, szOversGo] at HR
        simp only at HR
        have hle := szOver3_left (left := l) (x := x) (y := y) (z := z) hl0
        obtain ⟨q, hq⟩ : ∃ q, szOver3 l x y z = q := ⟨_, rfl⟩
        rw [hq] at HR hle
        by_cases hneg : q < 0
        · rw [if_pos hneg] at HR
          have H2 := hide HR
          clear HR hx
          go_wp2_with fail
          refine (szOver_any _ _ _ _ _ m1 m2 m3 hl0 hl1).mono ?_
          rintro e w1 ⟨rfl, hb1⟩
          rw [hq]
          clear hq
          go_wp2
          go_ret
          exact ⟨ret_int (by rw [HR0.out, ← H2.out]), Below.step hb hb1⟩
        · rw [if_neg hneg] at HR
          have H2 := hide HR
          clear HR hx
          go_wp2_with fail
          refine (szOver_any _ _ _ _ _ m1 m2 m3 hl0 hl1).mono ?_
          rintro e w1 ⟨rfl, hb1⟩
          rw [hq]
          clear hq
          go_wp2
          go_roundw
          case rel => exact ⟨k + 1, q, by omega, by go_num, rfl, by omega, by omega, Below.step hb hb1, H2.out⟩
          case measure => simp [intOf]; omega
      · rw [h.end_ hlt, szOversGo] at HR
        have H2 := hide HR
        clear HR
        go_wp2
        go_ret
        exact ⟨ret_int (by rw [HR0.out, ← H2.out]), hb⟩

/-! ### eqOverS -/
set_option maxHeartbeats 400000 in
theorem eqOverS_same (w : World) (A A' : Option Addr) (n c c' : Nat) (xs : List (ByteArray × ByteArray × ByteArray)) (h1 : Sl3 Value.string w A n xs) (h2 : Sl3 Value.string w A' n xs) :
    Calls Try.prog 35 #[.slice A n c, .slice A' n c'] w fun e w' => e = .returned (.bool true) ∧ Below w.heap.size w w' := by
  have hn := h1.max
  go_enter Try.func35, Try.ntmps35
  go_wp2
  go_loopw [5] (fun i wr => ∃ k : Nat, k ≤ n ∧ i = .int .i64 k ∧ Below w.heap.size w wr) (fun i _ => n - (intOf i).toNat)
  case atStart => exact ⟨0, Nat.zero_le _, rfl, Below.refl _ _⟩
  case round =>
    obtain ⟨k, hk, rfl, hb⟩ := hrel
    by_cases hlt : k < n
    · obtain ⟨b, o, x, y, z, rfl, hbl, hx, c0, c1, c2⟩ := h1.at_ hb hlt
      obtain ⟨b', o', x', y', z', rfl, hbl', hx', c0', c1', c2'⟩ := h2.at_ hb hlt
      obtain ⟨rfl, rfl, rfl⟩ : x = x' ∧ y = y' ∧ z = z' := by rw [hx] at hx'; simpa using hx'
      clear hx hx'
      go_wp2
      go_region_with (go_at_call 19; refine (eqOver_same _ _ _ _).mono ?_; rintro e w1 ⟨rfl, hb1⟩)
      all_goals
        go_wp2
        go_roundw
        case rel => exact ⟨k + 1, by omega, by go_num, Below.step hb.drew (by assumption)⟩
        case measure => simp [intOf]; omega
    · go_wp2
      go_ret
      exact ⟨rfl, hb⟩
end Go.Proofs.Ytokdbkkjneadgaa
