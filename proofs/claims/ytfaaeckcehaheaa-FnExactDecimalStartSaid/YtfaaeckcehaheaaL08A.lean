/-
  Racks of stops: is a list a rack, and the code of a rack and a column.
-/
import Derived.Test.YtfaaeckcehaheaaRises
namespace Go.Proofs.Ytfaaeckcehaheaa
open Go.RowKit

theorem between_any (n lo hi : Int) (w : World) :
    Calls Try.prog 61 #[.int .i64 n, .int .i64 lo, .int .i64 hi] w fun e w' => e = .returned (.bool (inB n lo hi)) ∧ w = w' := by
  go_enter Try.func61, Try.ntmps61
  go_wp2
  all_goals go_ret
  all_goals (refine ⟨?_, rfl⟩; simp [inB]; try omega)

theorem isColumn_any (n : Int) (w : World) :
    Calls Try.prog 50 #[.int .i64 n] w fun e w' => e = .returned (.bool (inB n 0 119)) ∧ w = w' := by
  go_enter Try.func50, Try.ntmps50
  go_wp2_with (go_at_call 61; refine (between_any _ _ _ _).mono ?_; rintro e w1 ⟨rfl, rfl⟩)
  go_ret
  exact ⟨rfl, rfl⟩

def okRack (xs : List Int) : Bool := decide (xs.length ≤ 12) && rises 0 119 none xs

theorem l08Ok_any (w : World) (A : Option Addr) (n c : Nat) (xs : List Int) (h : Sl (Value.int .i64) w A n xs) :
    Calls Try.prog 49 #[.slice A n c] w fun e w' => e = .returned (.bool (okRack xs)) ∧ Below w.heap.size w w' := by
  have hn := h.max
  by_cases hl : n ≤ 12
  all_goals
    go_enter Try.func49, Try.ntmps49
    go_wp2_with (go_at_call 72; refine (l00Rises_any _ _ _ _ xs _ _ h).mono ?_; rintro e w1 ⟨rfl, hb⟩; have hsz := hb.size; obtain ⟨hcw, hfw⟩ := bcell hb)
    go_ret
    exact ⟨ret_bool (by simp [okRack, h.len, hl]), by (repeat first | exact Below.refl _ _ | (refine Below.alloc ?_ (by simp) _) | (refine Below.step ?_ (by assumption)))⟩

theorem ValidRack_s (w : World) (A : Option Addr) (n c : Nat) (xs : List Int) (h : Sl (Value.int .i64) w A n xs) :
    Calls Try.prog 14 #[.slice A n c] w fun e w' => e = .returned (.bool (okRack xs)) ∧ Below w.heap.size w w' := by
  go_enter Try.func14, Try.ntmps14
  go_wp2_with (go_at_call 49; refine (l08Ok_any _ _ _ _ xs h).mono ?_; rintro e w1 ⟨rfl, hb⟩; have hsz := hb.size; obtain ⟨hcw, hfw⟩ := bcell hb)
  go_ret
  exact ⟨rfl, by (repeat first | exact Below.refl _ _ | (refine Below.alloc ?_ (by simp) _) | (refine Below.step ?_ (by assumption)))⟩

set_option maxHeartbeats 400000 in
theorem ValidRack_i (w : World) (A : Option Addr) (n c : Nat) (xs : List Int) (h : Sl (Value.int .i64) w A n xs) :
    Calls Try.prog 16 #[.slice A n c] w fun e w' => e = .returned (.bool (okRack xs)) ∧ Below w.heap.size w w' := by
  have hn := h.max
  by_cases hl : n ≤ 12
  · have hok : Hid (okRack xs = rises 0 119 none xs) := by unfold Hid; simp [okRack, h.len, hl]
    go_enter Try.func16, Try.ntmps16
    go_wp2
    go_loopw [10] (fun i wr => ∃ k : Nat, k ≤ n ∧ i = .int .i64 k ∧ Below w.heap.size w wr ∧ rises 0 119 (prev xs k) (xs.drop k) = rises 0 119 none xs) (fun i _ => n - (intOf i).toNat)
    case atStart => exact ⟨0, Nat.zero_le _, rfl, Below.refl _ _, by simp [prev]⟩
    case round =>
      obtain ⟨k, hk, rfl, hb, HR⟩ := hrel
      by_cases hlt : k < n
      · obtain ⟨b, o, x, rfl, hx, hc⟩ := h.at_ hb hlt
        rw [drop_get hx, rises] at HR
        by_cases hin : inB x 0 119 = true
        · rw [if_pos hin] at HR
          by_cases hk0 : 0 < k
          · obtain ⟨b', o', y, hA, hy, hc'⟩ := h.at_ hb (show k - 1 < n by omega)
            obtain ⟨rfl, rfl⟩ : b = b' ∧ o = o' := by simpa using hA
            have hp : prev xs k = some y := by rw [prev, if_neg (by omega)]; exact hy
            rw [hp, notAbove] at HR
            have hd : decide ((0 : Int) < (k : Int)) = true := by rw [decide_eq_true_eq]; omega
            have hidx : ((k : Int) - 1).toNat = k - 1 := by omega
            by_cases hxy : x ≤ y
            · rw [if_pos (by simpa using hxy)] at HR
              have H2 := hide HR
              clear HR hx hy hA hp
              go_wp2_with (go_at_call 50; refine (isColumn_any _ _).mono ?_; rintro e w1 ⟨rfl, rfl⟩)
              go_ret
              exact ⟨ret_bool (by rw [hok.out]; exact H2.out), hb⟩
            · rw [if_neg (by simpa using hxy)] at HR
              have H2 : Hid (rises 0 119 (prev xs (k + 1)) (xs.drop (k + 1)) = rises 0 119 none xs) := by
                rw [prev, if_neg (by omega), Nat.add_sub_cancel, hx]; exact HR
              clear HR hx hy hA hp
              go_wp2_with (go_at_call 50; refine (isColumn_any _ _).mono ?_; rintro e w1 ⟨rfl, rfl⟩)
              go_roundw
              case rel => exact ⟨k + 1, by omega, by go_num, hb, H2.out⟩
              case measure => simp [intOf]; omega
          · have hp : prev xs k = none := by rw [prev, if_pos (by omega)]
            rw [hp, notAbove, if_neg (by simp)] at HR
            have hd : decide ((0 : Int) < (k : Int)) = false := by rw [decide_eq_false_iff_not]; omega
            have H2 : Hid (rises 0 119 (prev xs (k + 1)) (xs.drop (k + 1)) = rises 0 119 none xs) := by
              rw [prev, if_neg (by omega), Nat.add_sub_cancel, hx]; exact HR
            clear HR hx hp
            go_wp2_with (go_at_call 50; refine (isColumn_any _ _).mono ?_; rintro e w1 ⟨rfl, rfl⟩)
            go_roundw
            case rel => exact ⟨k + 1, by omega, by go_num, hb, H2.out⟩
            case measure => simp [intOf]; omega
        · rw [if_neg hin] at HR
          replace hin : inB x 0 119 = false := by simpa using hin
          have H2 := hide HR
          clear HR hx
          go_wp2_with (go_at_call 50; refine (isColumn_any _ _).mono ?_; rintro e w1 ⟨rfl, rfl⟩)
          go_ret
          exact ⟨ret_bool (by rw [hok.out]; exact H2.out), hb⟩
      · rw [h.end_ hlt, rises] at HR
        have H2 := hide HR
        clear HR
        go_wp2
        go_ret
        exact ⟨ret_bool (by rw [hok.out]; exact H2.out), hb⟩
  · go_enter Try.func16, Try.ntmps16
    go_wp2
    go_ret
    exact ⟨ret_bool (by simp [okRack, h.len, hl]), Below.refl _ _⟩

def rackCode (xs : List Int) (col : Int) : Int := if okRack xs = true then (if inB col 0 119 = true then 0 else 2) else 1

theorem l08Code_any (w : World) (A : Option Addr) (n c : Nat) (xs : List Int) (col : Int) (h : Sl (Value.int .i64) w A n xs) :
    Calls Try.prog 56 #[.slice A n c, .int .i64 col] w fun e w' => e = .returned (.int .i64 (rackCode xs col)) ∧ Below w.heap.size w w' := by
  by_cases h1 : okRack xs = true
  all_goals by_cases h2 : inB col 0 119 = true
  all_goals
    go_enter Try.func56, Try.ntmps56
    go_wp2_with (first | (go_at_call 49; refine (l08Ok_any _ _ _ _ xs h).mono ?_; rintro e w1 ⟨rfl, hb⟩; have hsz := hb.size; obtain ⟨hcw, hfw⟩ := bcell hb) | (go_at_call 52; refine (l00In_any _ _ _ _).mono ?_; rintro e w1 ⟨rfl, rfl⟩))
    go_ret
    exact ⟨ret_int (by simp [rackCode, *]), by (repeat first | exact Below.refl _ _ | (refine Below.alloc ?_ (by simp) _) | (refine Below.step ?_ (by assumption)))⟩

theorem rackCode_any (w : World) (A : Option Addr) (n c : Nat) (xs : List Int) (col : Int) (h : Sl (Value.int .i64) w A n xs) :
    Calls Try.prog 57 #[.slice A n c, .int .i64 col] w fun e w' => e = .returned (.int .i64 (rackCode xs col)) ∧ Below w.heap.size w w' := by
  by_cases h1 : okRack xs = true
  all_goals by_cases h2 : inB col 0 119 = true
  all_goals
    go_enter Try.func57, Try.ntmps57
    go_wp2_with (first | (go_at_call 16; refine (ValidRack_i _ _ _ _ xs h).mono ?_; rintro e w1 ⟨rfl, hb⟩; have hsz := hb.size; obtain ⟨hcw, hfw⟩ := bcell hb) | (go_at_call 50; refine (isColumn_any _ _).mono ?_; rintro e w1 ⟨rfl, rfl⟩))
    go_ret
    exact ⟨ret_int (by simp [rackCode, *]), by (repeat first | exact Below.refl _ _ | (refine Below.alloc ?_ (by simp) _) | (refine Below.step ?_ (by assumption)))⟩
end Go.Proofs.Ytfaaeckcehaheaa
