/-
  The cost of a stroke behind another one, by the program.
-/
import Derived.Test.YtcgjgelapjdihaaL07D
namespace Go.Proofs.Ytcgjgelapjdihaa
set_option maxRecDepth 100000
open Go.RowKit

set_option maxHeartbeats 4000000 in
theorem strokeCost_same (w : World) (A : Option Addr) (n c : Nat) (xs : List Pl) (i : Nat) (a : Pl) (h : Sl3 (Value.int .i64) w A n xs) (hi : i < n) (hxi : xs[i]? = some a) (ha : OkP a) :
    Calls Try.prog 31 #[.slice A n c, .int .i64 i, .int .i64 i] w fun e w' => e = .returned (.int .i64 a.2.2) ∧ Below w.heap.size w w' := by
  obtain ⟨p, o, x, y, z, rfl, hbl, hx, c0, c1, c2⟩ := h.at_ (Below.refl _ _) hi
  rw [hxi] at hx
  cases hx
  obtain ⟨⟨a1, a2⟩, ⟨a3, a4⟩, a5, a6⟩ := ha
  simp only at a1 a2 a3 a4 a5 a6 ⊢
  have hi0 : (0 : Int) ≤ (i : Int) := by omega
  have hi1 : (i : Int) < (n : Int) := by omega
  have hn := h.max
  clear hxi
  go_enter Try.func31, Try.ntmps31
  (go_wp2; go_region)
  all_goals
    go_wp2
    go_ret
    refine ⟨?_, (by repeat first | exact Below.refl _ _ | (refine Below.drew ?_) | (refine below_drewN ?_ _) | (refine Below.step ?_ (by assumption)) | (refine Below.alloc ?_ (by go_size) _))⟩
    rfl
set_option maxHeartbeats 8000000 in
theorem strokeCost_diff (w : World) (A : Option Addr) (n c : Nat) (xs : List Pl) (i j : Nat) (a b : Pl) (h : Sl3 (Value.int .i64) w A n xs) (hi : i < n) (hj : j < n) (hij : ¬ i = j) (hxi : xs[i]? = some a) (hxj : xs[j]? = some b) (ha : OkP a) (hb : OkP b) :
    Calls Try.prog 31 #[.slice A n c, .int .i64 i, .int .i64 j] w fun e w' => e = .returned (.int .i64 (costOf a b false)) ∧ Below w.heap.size w w' := by
  obtain ⟨p, o, x, y, z, rfl, hbl, hx, c0, c1, c2⟩ := h.at_ (Below.refl _ _) hi
  rw [hxi] at hx
  cases hx
  obtain ⟨p', o', x', y', z', hA, -, hx', d0, d1, d2⟩ := h.at_ (Below.refl _ _) hj
  obtain ⟨rfl, rfl⟩ : p = p' ∧ o = o' := by simpa using hA
  rw [hxj] at hx'
  cases hx'
  obtain ⟨⟨a1, a2⟩, ⟨a3, a4⟩, a5, a6⟩ := ha
  obtain ⟨⟨b1, b2⟩, ⟨b3, b4⟩, b5, b6⟩ := hb
  simp only at a1 a2 a3 a4 a5 a6 b1 b2 b3 b4 b5 b6
  have hi0 : (0 : Int) ≤ (i : Int) := by omega
  have hi1 : (i : Int) < (n : Int) := by omega
  have hj0 : (0 : Int) ≤ (j : Int) := by omega
  have hj1 : (j : Int) < (n : Int) := by omega
  have hij1 : ((i : Int) == (j : Int)) = false := beq_eq_false_iff_ne.2 (by omega)
  have hij2 : (i == j) = false := beq_eq_false_iff_ne.2 hij
  have hn := h.max
  clear hxi hxj hA
  by_cases hf : x = x'
  · have hf1 : (x == x') = true := by simp [hf]
    have HR : Hid (costOf (x, y, z) (x', y', z') false = z' + 10 + 5 * absI (y - y')) := by unfold Hid costOf; rw [if_neg (by decide), if_pos hf]
    have hab := absI_bd (n := y - y') (by omega)
    have hw1 : IntKind.i64.wrap (z' + 10) = z' + 10 := IntWalk.i64_in _ (by omega)
    have hw2 : IntKind.i64.wrap (y - y') = y - y' := IntWalk.i64_in _ (by omega)
    have hw3 : IntKind.i64.wrap (5 * absI (y - y')) = 5 * absI (y - y') := IntWalk.i64_in _ (by omega)
    have hw4 : IntKind.i64.wrap (z' + 10 + 5 * absI (y - y')) = z' + 10 + 5 * absI (y - y') := IntWalk.i64_in _ (by omega)
    clear hf
    go_enter Try.func31, Try.ntmps31
    (go_wp2; go_region)
    all_goals
      go_wp2
      go_region_law (go_simp; go_at_call 56; refine (absolute_any _ _ (by omega)).mono ?_; rintro e w5 ⟨rfl, rfl⟩)
      all_goals
        go_wp2
        go_ret
        refine ⟨?_, (by repeat first | exact Below.refl _ _ | (refine Below.drew ?_) | (refine below_drewN ?_ _) | (refine Below.step ?_ (by assumption)) | (refine Below.alloc ?_ (by go_size) _))⟩
        rw [HR.out]; rfl
  · have hf1 : (x == x') = false := beq_eq_false_iff_ne.2 hf
    by_cases hl : leftB x = leftB x'
    · have HR : Hid (costOf (x, y, z) (x', y', z') false = z' + 2) := by unfold Hid costOf; rw [if_neg (by decide), if_neg hf, if_pos hl]
      have hl1 : (leftB x == leftB x') = true := by simp [hl]
      clear hf hl
      go_enter Try.func31, Try.ntmps31
      (go_wp2; go_region)
      all_goals
        go_wp2
        go_region_law (go_simp; go_at_call 57; refine (isLeft_any _ _ _ _).mono ?_; rintro e w5 ⟨rfl, hb5⟩; obtain ⟨hcw5, hfw5⟩ := bcell hb5; have hz5 : w.heap.size + 1 < w5.heap.size := (by have hq := hb5.size; (try simp at hq); omega); have hz6 : w.heap.size < w5.heap.size := (by omega))
        all_goals
          go_wp2
          go_ret
          refine ⟨?_, (by repeat first | exact Below.refl _ _ | (refine Below.drew ?_) | (refine below_drewN ?_ _) | (refine Below.step ?_ (by assumption)) | (refine Below.alloc ?_ (by go_size) _))⟩
          rw [HR.out]; rfl
    · have HR : Hid (costOf (x, y, z) (x', y', z') false = z') := by unfold Hid costOf; rw [if_neg (by decide), if_neg hf, if_neg hl]
      have hl1 : (leftB x == leftB x') = false := beq_eq_false_iff_ne.2 hl
      clear hf hl
      go_enter Try.func31, Try.ntmps31
      (go_wp2; go_region)
      all_goals
        go_wp2
        go_region_law (go_simp; go_at_call 57; refine (isLeft_any _ _ _ _).mono ?_; rintro e w5 ⟨rfl, hb5⟩; obtain ⟨hcw5, hfw5⟩ := bcell hb5; have hz5 : w.heap.size + 1 < w5.heap.size := (by have hq := hb5.size; (try simp at hq); omega); have hz6 : w.heap.size < w5.heap.size := (by omega))
        all_goals
          go_wp2
          go_ret
          refine ⟨?_, (by repeat first | exact Below.refl _ _ | (refine Below.drew ?_) | (refine below_drewN ?_ _) | (refine Below.step ?_ (by assumption)) | (refine Below.alloc ?_ (by go_size) _))⟩
          rw [HR.out]; rfl
end Go.Proofs.Ytcgjgelapjdihaa
