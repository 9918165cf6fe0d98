/-
  The cost of a stroke behind another one.
-/
import Derived.Test.YtcgjgelapjdihaaL07B
import Derived.RegionTactic
import Derived.BigRegion
import Derived.Deep.RegionLaw
namespace Go.Proofs.Ytcgjgelapjdihaa
set_option maxRecDepth 100000
open Go.RowKit

def absI (n : Int) : Int := if n < 0 then -n else n
theorem absI_bd {n : Int} (h : -3 ≤ n ∧ n ≤ 3) : 0 ≤ absI n ∧ absI n ≤ 3 := by unfold absI; split <;> omega
theorem absolute_any (n : Int) (w : World) (h : -1000 ≤ n ∧ n ≤ 1000) :
    Calls Try.prog 56 #[.int .i64 n] w fun e w' => e = .returned (.int .i64 (absI n)) ∧ w = w' := by
  obtain ⟨h1, h2⟩ := h
  by_cases hn : n < 0
  · have HR : Hid (absI n = -n) := by unfold Hid absI; rw [if_pos hn]
    go_enter Try.func56, Try.ntmps56
    go_wp2
    go_ret
    exact ⟨ret_int HR.out.symm, rfl⟩
  · have HR : Hid (absI n = n) := by unfold Hid absI; rw [if_neg hn]
    go_enter Try.func56, Try.ntmps56
    go_wp2
    go_ret
    exact ⟨ret_int HR.out.symm, rfl⟩
theorem l00Size_any (n : Int) (w : World) (h : -1000 ≤ n ∧ n ≤ 1000) :
    Calls Try.prog 58 #[.int .i64 n] w fun e w' => e = .returned (.int .i64 (absI n)) ∧ w = w' := by
  obtain ⟨h1, h2⟩ := h
  by_cases hn : n < 0
  · have HR : Hid (absI n = -n) := by unfold Hid absI; rw [if_pos hn]
    go_enter Try.func58, Try.ntmps58
    go_wp2
    go_ret
    exact ⟨ret_int HR.out.symm, rfl⟩
  · have HR : Hid (absI n = n) := by unfold Hid absI; rw [if_neg hn]
    go_enter Try.func58, Try.ntmps58
    go_wp2
    go_ret
    exact ⟨ret_int HR.out.symm, rfl⟩
def leftB (f : Int) : Bool := decide (f ≤ 3)
theorem l07Left_any (f : Int) (w : World) :
    Calls Try.prog 59 #[.int .i64 f] w fun e w' => e = .returned (.bool (leftB f)) ∧ w = w' := by
  go_enter Try.func59, Try.ntmps59
  go_wp2
  go_ret
  exact ⟨ret_bool rfl, rfl⟩
theorem isLeft_any (x y z : Int) (w : World) :
    Calls Try.prog 57 #[.agg #[.int .i64 x, .int .i64 y, .int .i64 z]] w fun e w' => e = .returned (.bool (leftB x)) ∧ Below w.heap.size w w' := by
  go_enter Try.func57, Try.ntmps57
  go_wp2
  go_ret
  exact ⟨ret_bool rfl, by (repeat first | exact Below.refl _ _ | (refine Below.alloc ?_ (by go_size) _) | (refine Below.step ?_ (by assumption)))⟩
/-- What a stroke at place b costs behind one at place a. -/
def costOf (a b : Pl) (same : Bool) : Int :=
  if same = true then b.2.2 else if a.1 = b.1 then b.2.2 + 10 + 5 * absI (a.2.1 - b.2.1) else if leftB a.1 = leftB b.1 then b.2.2 + 2 else b.2.2
def OkP (x : Pl) : Prop := (0 ≤ x.1 ∧ x.1 ≤ 7) ∧ (0 ≤ x.2.1 ∧ x.2.1 ≤ 3) ∧ (0 ≤ x.2.2 ∧ x.2.2 ≤ 50)
theorem costOf_bd {a b : Pl} {s : Bool} (ha : OkP a) (hb : OkP b) : 0 ≤ costOf a b s ∧ costOf a b s ≤ 75 := by
  obtain ⟨a1, a2, a3⟩ := ha
  obtain ⟨b1, b2, b3⟩ := hb
  have := absI_bd (n := a.2.1 - b.2.1) (by omega)
  unfold costOf
  split
  · omega
  · split
    · omega
    · split <;> omega

set_option maxHeartbeats 4000000 in
theorem l07Cost_same (w : World) (A : Option Addr) (n c : Nat) (xs : List Pl) (i : Nat) (a : Pl) (h : Sl3 (Value.int .i64) w A n xs) (hi : i < n) (hxi : xs[i]? = some a) (ha : OkP a) :
    Calls Try.prog 34 #[.slice A n c, .int .i64 i, .int .i64 i] w fun e w' => e = .returned (.int .i64 a.2.2) ∧ Below w.heap.size w w' := by
  obtain ⟨p, o, x, y, z, rfl, hbl, hx, c0, c1, c2⟩ := h.at_ (Below.refl _ _) hi
  rw [hxi] at hx
  cases hx
  obtain ⟨⟨a1, a2⟩, ⟨a3, a4⟩, a5, a6⟩ := ha
  simp only at a1 a2 a3 a4 a5 a6 ⊢
  have hi0 : (0 : Int) ≤ (i : Int) := by omega
  have hi1 : (i : Int) < (n : Int) := by omega
  have hn := h.max
  clear hxi
  go_enter Try.func34, Try.ntmps34
  skip
  all_goals
    go_wp2
    go_ret
    refine ⟨?_, (by repeat first | exact Below.refl _ _ | (refine Below.drew ?_) | (refine below_drewN ?_ _) | (refine Below.step ?_ (by assumption)) | (refine Below.alloc ?_ (by go_size) _))⟩
    rfl
set_option maxHeartbeats 8000000 in
theorem l07Cost_diff (w : World) (A : Option Addr) (n c : Nat) (xs : List Pl) (i j : Nat) (a b : Pl) (h : Sl3 (Value.int .i64) w A n xs) (hi : i < n) (hj : j < n) (hij : ¬ i = j) (hxi : xs[i]? = some a) (hxj : xs[j]? = some b) (ha : OkP a) (hb : OkP b) :
    Calls Try.prog 34 #[.slice A n c, .int .i64 i, .int .i64 j] w fun e w' => e = .returned (.int .i64 (costOf a b false)) ∧ Below w.heap.size w w' := by
  obtain ⟨p, o, x, y, z, rfl, hbl, hx, c0, c1, c2⟩ := h.at_ (Below.refl _ _) hi
  rw [hxi] at hx
  cases hx
  obtain ⟨p', o', x', y', z', hA, -, hx', d0, d1, d2⟩ := h.at_ (Below.refl _ _) hj
  obtain ⟨rfl, rfl⟩ : p = p' ∧ o = o' := by simpa using hA
  rw [hxj] at hx'
  cases hx'
  obtain ⟨⟨a1, a2⟩, ⟨a3, a4⟩, a5, a6⟩ := ha
  obtain ⟨⟨b1, b2⟩, ⟨b3, b4⟩, b5, b6⟩ := hb
  simp only at a1 a2 a3 a4 a5 a6 b1 b2 b3 b4 b5 b6
  have hi0 : (0 : Int) ≤ (i : Int) := by omega
  have hi1 : (i : Int) < (n : Int) := by omega
  have hj0 : (0 : Int) ≤ (j : Int) := by omega
  have hj1 : (j : Int) < (n : Int) := by omega
  have hij1 : ((i : Int) == (j : Int)) = false := beq_eq_false_iff_ne.2 (by omega)
  have hij2 : (i == j) = false := beq_eq_false_iff_ne.2 hij
  have hn := h.max
  clear hxi hxj hA
  by_cases hf : x = x'
  · have hf1 : (x == x') = true := by simp [hf]
    have HR : Hid (costOf (x, y, z) (x', y', z') false = z' + 10 + 5 * absI (y - y')) := by unfold Hid costOf; rw [if_neg (by decide), if_pos hf]
    have hab := absI_bd (n := y - y') (by omega)
    have hw1 : IntKind.i64.wrap (z' + 10) = z' + 10 := IntWalk.i64_in _ (by omega)
    have hw2 : IntKind.i64.wrap (y - y') = y - y' := IntWalk.i64_in _ (by omega)
    have hw3 : IntKind.i64.wrap (5 * absI (y - y')) = 5 * absI (y - y') := IntWalk.i64_in _ (by omega)
    have hw4 : IntKind.i64.wrap (z' + 10 + 5 * absI (y - y')) = z' + 10 + 5 * absI (y - y') := IntWalk.i64_in _ (by omega)
    clear hf
    go_enter Try.func34, Try.ntmps34
    skip
    all_goals
      go_wp2
      go_quiet ((go_at_call 58; exact Calls.quiet_of_same ((l00Size_any _ _ (by omega)).mono fun _ _ ⟨he, hw⟩ => ⟨he, hw.symm⟩)))
      go_wp2
      go_ret
      refine ⟨?_, (by repeat first | exact Below.refl _ _ | (refine Below.drew ?_) | (refine below_drewN ?_ _) | (refine Below.step ?_ (by assumption)) | (refine Below.alloc ?_ (by go_size) _))⟩
      rw [HR.out]; rfl
  · have hf1 : (x == x') = false := beq_eq_false_iff_ne.2 hf
    by_cases hl : leftB x = leftB x'
    · have HR : Hid (costOf (x, y, z) (x', y', z') false = z' + 2) := by unfold Hid costOf; rw [if_neg (by decide), if_neg hf, if_pos hl]
      have hl1 : (leftB x == leftB x') = true := by simp [hl]
      clear hf hl
      go_enter Try.func34, Try.ntmps34
      skip
      all_goals
        go_wp2
        go_quiet ((go_at_call 59; exact Calls.quiet_of_same ((l07Left_any _ _).mono fun _ _ ⟨he, hw⟩ => ⟨he, hw.symm⟩)))
        all_goals
          go_wp2
          go_ret
          refine ⟨?_, (by repeat first | exact Below.refl _ _ | (refine Below.drew ?_) | (refine below_drewN ?_ _) | (refine Below.step ?_ (by assumption)) | (refine Below.alloc ?_ (by go_size) _))⟩
          rw [HR.out]; rfl
    · have HR : Hid (costOf (x, y, z) (x', y', z') false = z') := by unfold Hid costOf; rw [if_neg (by decide), if_neg hf, if_neg hl]
      have hl1 : (leftB x == leftB x') = false := beq_eq_false_iff_ne.2 hl
      clear hf hl
      go_enter Try.func34, Try.ntmps34
      skip
      all_goals
        go_wp2
        go_quiet ((go_at_call 59; exact Calls.quiet_of_same ((l07Left_any _ _).mono fun _ _ ⟨he, hw⟩ => ⟨he, hw.symm⟩)))
        all_goals
          go_wp2
          go_ret
          refine ⟨?_, (by repeat first | exact Below.refl _ _ | (refine Below.drew ?_) | (refine below_drewN ?_ _) | (refine Below.step ?_ (by assumption)) | (refine Below.alloc ?_ (by go_size) _))⟩
          rw [HR.out]; rfl
end Go.Proofs.Ytcgjgelapjdihaa
