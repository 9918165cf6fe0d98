/-
  Stops of a table: are numbers stops; ValidStops.
-/
import Derived.Test.YtdcbdogcglinkaaRises
namespace Go.Proofs.Ytdcbdogcglinkaa
set_option maxRecDepth 100000
open Go.RowKit

theorem between_any (n lo hi : Int) (w : World) :
    Calls Try.prog 42 #[.int .i64 n, .int .i64 lo, .int .i64 hi] w fun e w' => e = .returned (.bool (inB n lo hi)) ∧ w = w' := by
  go_enter Try.func42, Try.ntmps42
  go_wp2
  all_goals go_ret
  all_goals (refine ⟨?_, rfl⟩; simp [inB]; try omega)

def okStops (xs : List Int) : Bool := decide (xs.length ≤ 6) && rises 1 30 none xs

theorem l11Ok_any (w : World) (A : Option Addr) (n c : Nat) (xs : List Int) (h : Sl (Value.int .i64) w A n xs) :
    Calls Try.prog 45 #[.slice A n c] w fun e w' => e = .returned (.bool (okStops xs)) ∧ Below w.heap.size w w' := by
  have hn := h.max
  by_cases hl : n ≤ 6
  all_goals
    go_enter Try.func45, Try.ntmps45
    go_wp2_with (go_at_call 63; refine (l00Rises_any _ _ _ _ xs _ _ h).mono ?_; rintro e w1 ⟨rfl, hb⟩; have hsz := hb.size; obtain ⟨hcw, hfw⟩ := bcell hb)
    go_ret
    exact ⟨ret_bool (by simp [okStops, h.len, hl]), by (repeat first | exact Below.refl _ _ | (refine Below.alloc ?_ (by go_size) _) | (refine Below.step ?_ (by assumption)))⟩

theorem ValidStops_s (w : World) (A : Option Addr) (n c : Nat) (xs : List Int) (h : Sl (Value.int .i64) w A n xs) :
    Calls Try.prog 21 #[.slice A n c] w fun e w' => e = .returned (.bool (okStops xs)) ∧ Below w.heap.size w w' := by
  go_enter Try.func21, Try.ntmps21
  go_wp2_with (go_at_call 45; refine (l11Ok_any _ _ _ _ xs h).mono ?_; rintro e w1 ⟨rfl, hb⟩; have hsz := hb.size; obtain ⟨hcw, hfw⟩ := bcell hb)
  go_ret
  exact ⟨rfl, by (repeat first | exact Below.refl _ _ | (refine Below.alloc ?_ (by go_size) _) | (refine Below.step ?_ (by assumption)))⟩

set_option maxHeartbeats 400000 in
theorem ValidStops_i (w : World) (A : Option Addr) (n c : Nat) (xs : List Int) (h : Sl (Value.int .i64) w A n xs) :
    Calls Try.prog 23 #[.slice A n c] w fun e w' => e = .returned (.bool (okStops xs)) ∧ Below w.heap.size w w' := by
  have hn := h.max
  by_cases hl : n ≤ 6
  · have hok : Hid (okStops xs = rises 1 30 none xs) := by unfold Hid; simp [okStops, h.len, hl]
    go_enter Try.func23, Try.ntmps23
    go_wp2
    go_loopw [10] (fun i wr => ∃ k : Nat, k ≤ n ∧ i = .int .i64 k ∧ Below w.heap.size w wr ∧ rises 1 30 (prev xs k) (xs.drop k) = rises 1 30 none xs) (fun i _ => n - (intOf i).toNat)
    case atStart => exact ⟨0, Nat.zero_le _, rfl, Below.refl _ _, by simp [prev]⟩
    case round =>
      obtain ⟨k, hk, rfl, hb, HR⟩ := hrel
      by_cases hlt : k < n
      · obtain ⟨b, o, x, rfl, hx, hc⟩ := h.at_ hb hlt
        rw [drop_get hx, rises] at HR
        by_cases hin : inB x 1 30 = true
        · rw [if_pos hin] at HR
          by_cases hk0 : 0 < k
          · obtain ⟨b', o', y, hA, hy, hc'⟩ := h.at_ hb (show k - 1 < n by omega)
            obtain ⟨rfl, rfl⟩ : b = b' ∧ o = o' := by simpa using hA
            have hp : prev xs k = some y := by rw [prev, if_neg (by omega)]; exact hy
            rw [hp, notAbove] at HR
            have hd : decide ((0 : Int) < (k : Int)) = true := by rw [decide_eq_true_eq]; omega
            have hidx : ((k : Int) - 1).toNat = k - 1 := by omega
            by_cases hxy : x ≤ y
            · rw [if_pos (by simpa using hxy)] at HR
              have H2 := hide HR
              clear HR hx hy hA hp
              go_wp2_with (go_at_call 42; refine (between_any _ _ _ _).mono ?_; rintro e w1 ⟨rfl, rfl⟩)
              go_ret
              exact ⟨ret_bool (by rw [hok.out]; exact H2.out), hb⟩
            · rw [if_neg (by simpa using hxy)] at HR
              have H2 : Hid (rises 1 30 (prev xs (k + 1)) (xs.drop (k + 1)) = rises 1 30 none xs) := by
                rw [prev, if_neg (by omega), Nat.add_sub_cancel, hx]; exact HR
              clear HR hx hy hA hp
              go_wp2_with (go_at_call 42; refine (between_any _ _ _ _).mono ?_; rintro e w1 ⟨rfl, rfl⟩)
              go_roundw
              case rel => exact ⟨k + 1, by omega, by go_num, hb, H2.out⟩
              case measure => simp [intOf]; omega
          · have hp : prev xs k = none := by rw [prev, if_pos (by omega)]
            rw [hp, notAbove, if_neg (by simp)] at HR
            have hd : decide ((0 : Int) < (k : Int)) = false := by rw [decide_eq_false_iff_not]; omega
            have H2 : Hid (rises 1 30 (prev xs (k + 1)) (xs.drop (k + 1)) = rises 1 30 none xs) := by
              rw [prev, if_neg (by omega), Nat.add_sub_cancel, hx]; exact HR
            clear HR hx hp
            go_wp2_with (go_at_call 42; refine (between_any _ _ _ _).mono ?_; rintro e w1 ⟨rfl, rfl⟩)
            go_roundw
            case rel => exact ⟨k + 1, by omega, by go_num, hb, H2.out⟩
            case measure => simp [intOf]; omega
        · rw [if_neg hin] at HR
          replace hin : inB x 1 30 = false := by simpa using hin
          have H2 := hide HR
          clear HR hx
          go_wp2_with (go_at_call 42; refine (between_any _ _ _ _).mono ?_; rintro e w1 ⟨rfl, rfl⟩)
          go_ret
          exact ⟨ret_bool (by rw [hok.out]; exact H2.out), hb⟩
      · rw [h.end_ hlt, rises] at HR
        have H2 := hide HR
        clear HR
        go_wp2
        go_ret
        exact ⟨ret_bool (by rw [hok.out]; exact H2.out), hb⟩
  · go_enter Try.func23, Try.ntmps23
    go_wp2
    go_ret
    exact ⟨ret_bool (by simp [okStops, h.len, hl]), Below.refl _ _⟩


theorem l11Column_any (n : Int) (w : World) :
    Calls Try.prog 65 #[.int .i64 n] w fun e w' => e = .returned (.bool (inB n 0 30)) ∧ w = w' := by
  go_enter Try.func65, Try.ntmps65
  go_wp2_with (go_at_call 39; refine (l00In_any _ _ _ _).mono ?_; rintro e w1 ⟨rfl, rfl⟩)
  go_ret
  exact ⟨rfl, rfl⟩
end Go.Proofs.Ytdcbdogcglinkaa
