/-
  The size of an argument that is a slice of texts.
-/
import Derived.Test.YtanpmjbephelaaaWords
namespace Go.Proofs.Ytanpmjbephelaaa
set_option maxRecDepth 100000
open Go.RowKit

def szStrsGo : Int → List ByteArray → Int
  | left, [] => left
  | left, x :: xs => if left - (x.size : Int) < 0 then -1 else szStrsGo (left - (x.size : Int)) xs
def szStrs (left : Int) (xs : List ByteArray) : Int := if left - (xs.length : Int) < 0 then -1 else szStrsGo (left - (xs.length : Int)) xs
theorem szStrsGo_le {xs : List ByteArray} : ∀ {left : Int}, 0 ≤ szStrsGo left xs → ∀ x ∈ xs, (x.size : Int) ≤ left := by
  induction xs with
  | nil => simp
  | cons y ys ih =>
    intro left h x hx
    rw [szStrsGo] at h
    split at h
    · omega
    · rename_i hc
      rcases List.mem_cons.1 hx with rfl | hx
      · omega
      · have := ih h x hx; omega
theorem szStrs_le {left : Int} {xs : List ByteArray} (h : 0 ≤ szStrs left xs) : (xs.length : Int) ≤ left ∧ ∀ x ∈ xs, (x.size : Int) ≤ left := by
  unfold szStrs at h
  split at h
  · omega
  · rename_i hc
    refine ⟨by omega, fun x hx => ?_⟩
    have := szStrsGo_le h x hx
    omega
set_option maxHeartbeats 400000 in
theorem szStringS_any (w : World) (A : Option Addr) (n c : Nat) (xs : List ByteArray) (left : Int) (h : Sl Value.string w A n xs) (hw : ∀ x ∈ xs, x.size ≤ maxLen) (h0 : 0 ≤ left) (h1 : left ≤ 1048576) :
    Calls Try.prog 14 #[.slice A n c, .int .i64 left] w fun e w' => e = .returned (.int .i64 (szStrs left xs)) ∧ w = w' := by
  have hn := h.max
  have HW := hide hw
  clear hw
  by_cases hl : left - (n : Int) < 0
  · have HR : Hid (szStrs left xs = -1) := by unfold Hid szStrs; rw [h.len, if_pos hl]
    go_enter Try.func14, Try.ntmps14
    go_wp2
    go_ret
    exact ⟨ret_int HR.out.symm, rfl⟩
  · have HR0 : Hid (szStrs left xs = szStrsGo (left - (n : Int)) xs) := by unfold Hid szStrs; rw [h.len, if_neg hl]
    go_enter Try.func14, Try.ntmps14
    go_wp2
    go_loop [1, 5] (fun lv i => ∃ (k : Nat) (l : Int), k ≤ n ∧ i = .int .i64 k ∧ lv = .int .i64 l ∧ 0 ≤ l ∧ l ≤ 1048576 ∧ szStrsGo l (xs.drop k) = szStrsGo (left - (n : Int)) xs) (fun _ i => n - (intOf i).toNat)
    case atStart => exact ⟨0, _, Nat.zero_le _, rfl, rfl, by omega, by omega, by simp⟩
    case round =>
      obtain ⟨k, l, hk, rfl, rfl, hl0, hl1, HR⟩ := hrel
      by_cases hlt : k < n
      · obtain ⟨b, o, x, rfl, hx, hc⟩ := h.at_ (Below.refl _ _) hlt
        have hm := HW.out _ (List.mem_of_getElem? hx)
        unfold maxLen at hm
        rw [drop_get hx, szStrsGo] at HR
        by_cases hneg : l - (x.size : Int) < 0
        · rw [if_pos hneg] at HR
          have H2 := hide HR
          clear HR hx
          go_wp2
          go_ret
          exact ⟨ret_int (by rw [HR0.out, ← H2.out]), rfl⟩
        · rw [if_neg hneg] at HR
          have H2 := hide HR
          clear HR hx
          go_wp2
          go_round
          case rel => exact ⟨k + 1, _, by omega, by go_num, rfl, by omega, by omega, H2.out⟩
          case measure => simp [intOf]; omega
      · rw [h.end_ hlt, szStrsGo] at HR
        have H2 := hide HR
        clear HR
        go_wp2
        go_ret
        exact ⟨ret_int (by rw [HR0.out, ← H2.out]), rfl⟩
end Go.Proofs.Ytanpmjbephelaaa
