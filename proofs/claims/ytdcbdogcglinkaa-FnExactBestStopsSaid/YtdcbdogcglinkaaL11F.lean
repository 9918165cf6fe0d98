/-
  The codes of stops and two columns.
-/
import Derived.Test.YtdcbdogcglinkaaL11A
namespace Go.Proofs.Ytdcbdogcglinkaa
set_option maxRecDepth 100000
open Go.RowKit

def colCode (xs : List Int) (a b : Int) : Int := if okStops xs = true then (if inB a 0 30 = true ∧ inB b 0 30 = true then 0 else 2) else 1
theorem colCode_ok {xs : List Int} {a b : Int} (h : colCode xs a b = 0) : okStops xs = true ∧ (0 ≤ a ∧ a ≤ 30) ∧ 0 ≤ b ∧ b ≤ 30 := by
  unfold colCode at h
  split at h
  · rename_i h1
    split at h
    · rename_i h2
      exact ⟨h1, inB_iff.1 h2.1, inB_iff.1 h2.2⟩
    · omega
  · omega
theorem l11Code_any (w : World) (A : Option Addr) (n c : Nat) (xs : List Int) (a b : Int) (h : Sl (Value.int .i64) w A n xs) :
    Calls Try.prog 48 #[.slice A n c, .int .i64 a, .int .i64 b] w fun e w' => e = .returned (.int .i64 (colCode xs a b)) ∧ Below w.heap.size w w' := by
  by_cases h1 : okStops xs = true
  · by_cases h2 : inB a 0 30 = true
    · by_cases h3 : inB b 0 30 = true
      · have HR : Hid (colCode xs a b = 0) := by unfold Hid colCode; rw [if_pos h1, if_pos ⟨h2, h3⟩]
        go_enter Try.func48, Try.ntmps48
        go_wp2_with (first | (go_at_call 45; refine (l11Ok_any _ _ _ _ xs h).mono ?_; rintro e w1 ⟨rfl, hb⟩; have hsz := hb.size; obtain ⟨hcw, hfw⟩ := bcell hb) | (go_at_call 65; refine (l11Column_any _ _).mono ?_; rintro e w1 ⟨rfl, rfl⟩))
        go_ret
        exact ⟨ret_int HR.out.symm, by (repeat first | exact Below.refl _ _ | (refine Below.alloc ?_ (by go_size) _) | (refine Below.step ?_ (by assumption)))⟩
      · have HR : Hid (colCode xs a b = 2) := by unfold Hid colCode; rw [if_pos h1, if_neg (fun e => h3 e.2)]
        replace h3 : inB b 0 30 = false := by simpa using h3
        go_enter Try.func48, Try.ntmps48
        go_wp2_with (first | (go_at_call 45; refine (l11Ok_any _ _ _ _ xs h).mono ?_; rintro e w1 ⟨rfl, hb⟩; have hsz := hb.size; obtain ⟨hcw, hfw⟩ := bcell hb) | (go_at_call 65; refine (l11Column_any _ _).mono ?_; rintro e w1 ⟨rfl, rfl⟩))
        go_ret
        exact ⟨ret_int HR.out.symm, by (repeat first | exact Below.refl _ _ | (refine Below.alloc ?_ (by go_size) _) | (refine Below.step ?_ (by assumption)))⟩
    · have HR : Hid (colCode xs a b = 2) := by unfold Hid colCode; rw [if_pos h1, if_neg (fun e => h2 e.1)]
      replace h2 : inB a 0 30 = false := by simpa using h2
      go_enter Try.func48, Try.ntmps48
      go_wp2_with (first | (go_at_call 45; refine (l11Ok_any _ _ _ _ xs h).mono ?_; rintro e w1 ⟨rfl, hb⟩; have hsz := hb.size; obtain ⟨hcw, hfw⟩ := bcell hb) | (go_at_call 65; refine (l11Column_any _ _).mono ?_; rintro e w1 ⟨rfl, rfl⟩))
      go_ret
      exact ⟨ret_int HR.out.symm, by (repeat first | exact Below.refl _ _ | (refine Below.alloc ?_ (by go_size) _) | (refine Below.step ?_ (by assumption)))⟩
  · have HR : Hid (colCode xs a b = 1) := by unfold Hid colCode; rw [if_neg h1]
    replace h1 : okStops xs = false := by simpa using h1
    go_enter Try.func48, Try.ntmps48
    go_wp2_with (go_at_call 45; refine (l11Ok_any _ _ _ _ xs h).mono ?_; rintro e w1 ⟨rfl, hb⟩; have hsz := hb.size; obtain ⟨hcw, hfw⟩ := bcell hb)
    go_ret
    exact ⟨ret_int HR.out.symm, by (repeat first | exact Below.refl _ _ | (refine Below.alloc ?_ (by go_size) _) | (refine Below.step ?_ (by assumption)))⟩
theorem columnsCode_any (w : World) (A : Option Addr) (n c : Nat) (xs : List Int) (a b : Int) (h : Sl (Value.int .i64) w A n xs) :
    Calls Try.prog 50 #[.slice A n c, .int .i64 a, .int .i64 b] w fun e w' => e = .returned (.int .i64 (colCode xs a b)) ∧ Below w.heap.size w w' := by
  by_cases h1 : okStops xs = true
  · by_cases h2 : inB a 0 30 = true
    · by_cases h3 : inB b 0 30 = true
      · have HR : Hid (colCode xs a b = 0) := by unfold Hid colCode; rw [if_pos h1, if_pos ⟨h2, h3⟩]
        go_enter Try.func50, Try.ntmps50
        go_wp2_with (first | (go_at_call 23; refine (ValidStops_i _ _ _ _ xs h).mono ?_; rintro e w1 ⟨rfl, hb⟩; have hsz := hb.size; obtain ⟨hcw, hfw⟩ := bcell hb) | (go_at_call 42; refine (between_any _ _ _ _).mono ?_; rintro e w1 ⟨rfl, rfl⟩))
        go_ret
        exact ⟨ret_int HR.out.symm, by (repeat first | exact Below.refl _ _ | (refine Below.alloc ?_ (by go_size) _) | (refine Below.step ?_ (by assumption)))⟩
      · have HR : Hid (colCode xs a b = 2) := by unfold Hid colCode; rw [if_pos h1, if_neg (fun e => h3 e.2)]
        replace h3 : inB b 0 30 = false := by simpa using h3
        go_enter Try.func50, Try.ntmps50
        go_wp2_with (first | (go_at_call 23; refine (ValidStops_i _ _ _ _ xs h).mono ?_; rintro e w1 ⟨rfl, hb⟩; have hsz := hb.size; obtain ⟨hcw, hfw⟩ := bcell hb) | (go_at_call 42; refine (between_any _ _ _ _).mono ?_; rintro e w1 ⟨rfl, rfl⟩))
        go_ret
        exact ⟨ret_int HR.out.symm, by (repeat first | exact Below.refl _ _ | (refine Below.alloc ?_ (by go_size) _) | (refine Below.step ?_ (by assumption)))⟩
    · have HR : Hid (colCode xs a b = 2) := by unfold Hid colCode; rw [if_pos h1, if_neg (fun e => h2 e.1)]
      replace h2 : inB a 0 30 = false := by simpa using h2
      go_enter Try.func50, Try.ntmps50
      go_wp2_with (first | (go_at_call 23; refine (ValidStops_i _ _ _ _ xs h).mono ?_; rintro e w1 ⟨rfl, hb⟩; have hsz := hb.size; obtain ⟨hcw, hfw⟩ := bcell hb) | (go_at_call 42; refine (between_any _ _ _ _).mono ?_; rintro e w1 ⟨rfl, rfl⟩))
      go_ret
      exact ⟨ret_int HR.out.symm, by (repeat first | exact Below.refl _ _ | (refine Below.alloc ?_ (by go_size) _) | (refine Below.step ?_ (by assumption)))⟩
  · have HR : Hid (colCode xs a b = 1) := by unfold Hid colCode; rw [if_neg h1]
    replace h1 : okStops xs = false := by simpa using h1
    go_enter Try.func50, Try.ntmps50
    go_wp2_with (go_at_call 23; refine (ValidStops_i _ _ _ _ xs h).mono ?_; rintro e w1 ⟨rfl, hb⟩; have hsz := hb.size; obtain ⟨hcw, hfw⟩ := bcell hb)
    go_ret
    exact ⟨ret_int HR.out.symm, by (repeat first | exact Below.refl _ _ | (refine Below.alloc ?_ (by go_size) _) | (refine Below.step ?_ (by assumption)))⟩
end Go.Proofs.Ytdcbdogcglinkaa
