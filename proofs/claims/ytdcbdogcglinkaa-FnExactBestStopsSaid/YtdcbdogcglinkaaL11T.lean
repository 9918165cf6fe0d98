/-
  PageMoves: what it returns, for all arguments.
-/
import Derived.Test.YtdcbdogcglinkaaL11S
namespace Go.Proofs.Ytdcbdogcglinkaa
set_option maxRecDepth 100000
open Go.RowKit

def pageR (xs : List Int) (ss : List ByteArray) : Int × Int := if okStops xs = true then (if rowsC ss = 0 then ((pageM xs ss : Int), 0) else (0, rowsC ss)) else (0, 1)
theorem rowsC_ok {ss : List ByteArray} (h : rowsC ss = 0) : ss.length ≤ 12 ∧ (∀ s ∈ ss, s.size ≤ 30) ∧ okRows ss = true := by
  unfold rowsC at h
  split at h
  · rename_i h1
    split at h
    · rename_i h2
      exact ⟨h1, fun s hs => okRow_size (okRows_all h2 s hs), h2⟩
    · omega
  · omega
theorem rowsC_bad {ss : List ByteArray} (h : ¬ rowsC ss = 0) : (rowsC ss = 1 ∧ ¬ ss.length ≤ 12) ∨ (rowsC ss = 2 ∧ ss.length ≤ 12 ∧ okRows ss = false) := by
  unfold rowsC at h ⊢
  by_cases h1 : ss.length ≤ 12
  · right
    rw [if_pos h1] at h ⊢
    by_cases h2 : okRows ss = true
    · rw [if_pos h2] at h; exact absurd rfl h
    · rw [if_neg h2]; exact ⟨rfl, h1, by simpa using h2⟩
  · left
    rw [if_neg h1]; exact ⟨rfl, h1⟩
set_option maxHeartbeats 400000 in
theorem PageMoves_S (w : World) (A : Option Addr) (n c : Nat) (xs : List Int) (A2 : Option Addr) (n2 c2 : Nat) (ss : List ByteArray) (h : Sl (Value.int .i64) w A n xs) (h2 : Sl Value.string w A2 n2 ss) (hu : ∀ s ∈ ss, (s.size : Int) ≤ 1048576) :
    Calls Try.prog 36 #[.slice A n c, .slice A2 n2 c2] w fun e w' => e = .returned (.tuple #[.int .i64 (pageR xs ss).1, .int .i64 (pageR xs ss).2]) ∧ Below w.heap.size w w' := by
  have hn := h2.max
  replace hu := hide hu
  by_cases h1 : okStops xs = true
  · by_cases h0 : rowsC ss = 0
    · have HR : Hid (pageR xs ss = ((pageM xs ss : Int), 0)) := by unfold Hid pageR; rw [if_pos h1, if_pos h0]
      obtain ⟨q1, q2, q3⟩ := rowsC_ok h0
      rw [h2.len] at q1
      have HX := hide (okStops_all h1)
      have HS := hide q2
      clear q2 h0
      go_enter Try.func36, Try.ntmps36
      go_wp2_with (first | (go_at_call 45; refine (l11Ok_any _ _ _ _ xs h).mono ?_; rintro e w1 ⟨rfl, hb⟩; have hsz := hb.size; obtain ⟨hcw, hfw⟩ := bcell hb) | (go_at_call 38; refine (l11Rows_any _ _ _ _ ss (h2.on hb) hu.out).mono ?_; rintro e w2 ⟨rfl, rfl⟩))
      refine (l11Page_any _ _ _ _ xs _ _ _ ss (h.on hb) HX.out (h2.on hb) q1 HS.out).mono ?_
      rintro e w2 ⟨rfl, hb2⟩
      go_wp2
      go_ret2
      exact ⟨by rw [HR.out]; rfl, Below.step hb hb2⟩
    · rcases rowsC_bad h0 with ⟨k0, k1⟩ | ⟨k0, k1, k2⟩
      · have HR : Hid (pageR xs ss = (0, 1)) := by unfold Hid pageR; rw [if_pos h1, if_neg h0, k0]
        rw [h2.len] at k1
        clear h0 k0
        go_enter Try.func36, Try.ntmps36
        go_wp2_with (first | (go_at_call 45; refine (l11Ok_any _ _ _ _ xs h).mono ?_; rintro e w1 ⟨rfl, hb⟩; have hsz := hb.size; obtain ⟨hcw, hfw⟩ := bcell hb) | (go_at_call 38; refine (l11Rows_any _ _ _ _ ss (h2.on hb) hu.out).mono ?_; rintro e w2 ⟨rfl, rfl⟩))
        go_ret2
        exact ⟨by rw [HR.out]; rfl, hb⟩
      · have HR : Hid (pageR xs ss = (0, 2)) := by unfold Hid pageR; rw [if_pos h1, if_neg h0, k0]
        rw [h2.len] at k1
        clear h0 k0
        go_enter Try.func36, Try.ntmps36
        go_wp2_with (first | (go_at_call 45; refine (l11Ok_any _ _ _ _ xs h).mono ?_; rintro e w1 ⟨rfl, hb⟩; have hsz := hb.size; obtain ⟨hcw, hfw⟩ := bcell hb) | (go_at_call 38; refine (l11Rows_any _ _ _ _ ss (h2.on hb) hu.out).mono ?_; rintro e w2 ⟨rfl, rfl⟩))
        go_ret2
        exact ⟨by rw [HR.out]; rfl, hb⟩
  · have HR : Hid (pageR xs ss = (0, 1)) := by unfold Hid pageR; rw [if_neg h1]
    replace h1 : okStops xs = false := by simpa using h1
    go_enter Try.func36, Try.ntmps36
    go_wp2_with (go_at_call 45; refine (l11Ok_any _ _ _ _ xs h).mono ?_; rintro e w1 ⟨rfl, hb⟩; have hsz := hb.size; obtain ⟨hcw, hfw⟩ := bcell hb)
    go_ret2
    exact ⟨by rw [HR.out]; rfl, hb⟩
set_option maxHeartbeats 400000 in
theorem PageMoves_I (w : World) (A : Option Addr) (n c : Nat) (xs : List Int) (A2 : Option Addr) (n2 c2 : Nat) (ss : List ByteArray) (h : Sl (Value.int .i64) w A n xs) (h2 : Sl Value.string w A2 n2 ss) (hu : ∀ s ∈ ss, (s.size : Int) ≤ 1048576) :
    Calls Try.prog 37 #[.slice A n c, .slice A2 n2 c2] w fun e w' => e = .returned (.tuple #[.int .i64 (pageR xs ss).1, .int .i64 (pageR xs ss).2]) ∧ Below w.heap.size w w' := by
  have hn := h2.max
  replace hu := hide hu
  by_cases h1 : okStops xs = true
  · by_cases h0 : rowsC ss = 0
    · have HR : Hid (pageR xs ss = ((pageM xs ss : Int), 0)) := by unfold Hid pageR; rw [if_pos h1, if_pos h0]
      obtain ⟨q1, q2, q3⟩ := rowsC_ok h0
      rw [h2.len] at q1
      have HX := hide (okStops_all h1)
      have HS := hide q2
      replace h0 := hide h0
      clear q2 q3
      go_enter Try.func37, Try.ntmps37
      go_wp2_with (first | (go_at_call 23; refine (ValidStops_i _ _ _ _ xs h).mono ?_; rintro e w1 ⟨rfl, hb⟩; have hsz := hb.size; obtain ⟨hcw, hfw⟩ := bcell hb) | (go_at_call 41; refine (rowsCode_any _ _ _ _ ss (h2.on hb) hu.out).mono ?_; rintro e w2 ⟨rfl, rfl⟩; rw [h0.out]))
      refine (pageMoves_any _ _ _ _ xs _ _ _ ss (h.on hb) HX.out (h2.on hb) q1 HS.out).mono ?_
      rintro e w2 ⟨rfl, hb2⟩
      go_wp2
      go_ret2
      exact ⟨by rw [HR.out]; rfl, Below.step hb hb2⟩
    · rcases rowsC_bad h0 with ⟨k0, k1⟩ | ⟨k0, k1⟩
      all_goals
        have HR : Hid (pageR xs ss = (0, rowsC ss)) := by unfold Hid pageR; rw [if_pos h1, if_neg h0]
        replace k0 := hide k0
        clear h0 k1
        go_enter Try.func37, Try.ntmps37
        go_wp2_with (first | (go_at_call 23; refine (ValidStops_i _ _ _ _ xs h).mono ?_; rintro e w1 ⟨rfl, hb⟩; have hsz := hb.size; obtain ⟨hcw, hfw⟩ := bcell hb) | (go_at_call 41; refine (rowsCode_any _ _ _ _ ss (h2.on hb) hu.out).mono ?_; rintro e w2 ⟨rfl, rfl⟩; rw [k0.out]))
        go_ret2
        exact ⟨by rw [HR.out, k0.out]; rfl, hb⟩
  · have HR : Hid (pageR xs ss = (0, 1)) := by unfold Hid pageR; rw [if_neg h1]
    replace h1 : okStops xs = false := by simpa using h1
    go_enter Try.func37, Try.ntmps37
    go_wp2_with (go_at_call 23; refine (ValidStops_i _ _ _ _ xs h).mono ?_; rintro e w1 ⟨rfl, hb⟩; have hsz := hb.size; obtain ⟨hcw, hfw⟩ := bcell hb)
    go_ret2
    exact ⟨by rw [HR.out]; rfl, hb⟩
end Go.Proofs.Ytdcbdogcglinkaa
