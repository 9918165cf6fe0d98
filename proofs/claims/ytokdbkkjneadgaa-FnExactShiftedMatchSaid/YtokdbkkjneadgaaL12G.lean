/-
  ShiftedMatch: what it returns, for all arguments.
-/
import Derived.Test.YtokdbkkjneadgaaL12F
namespace Go.Proofs.Ytokdbkkjneadgaa
set_option maxRecDepth 100000
open Go.RowKit

/-- At how many of the first k places (from -60 on) the shifted line differs. -/
def wrUp (s t : ByteArray) (f : Int) : Nat → Nat
  | 0 => 0
  | k + 1 => wrUp s t f k + if atB s (-60 + (k : Int) - f) = atB t (-60 + (k : Int)) then 0 else 1
theorem wrUp_le (s t : ByteArray) (f : Int) (k : Nat) : wrUp s t f k ≤ k := by
  induction k with
  | zero => exact Nat.le_refl _
  | succ k ih => rw [wrUp]; split <;> omega
def wrong (s t : ByteArray) (f : Int) : Nat := wrUp s t f 180
def shiftOf (k : Nat) : Int := if k % 2 = 1 then -(((k + 1) / 2 : Nat) : Int) else ((k / 2 : Nat) : Int)
/-- The best shift among the first k, and its count. -/
def smUp (s t : ByteArray) : Nat → Int × Int
  | 0 => (0, -1)
  | k + 1 => if (smUp s t k).2 < 0 ∨ (wrong s t (shiftOf k) : Int) < (smUp s t k).2 then (shiftOf k, (wrong s t (shiftOf k) : Int)) else smUp s t k
theorem smUp_pos (s t : ByteArray) (k : Nat) : 0 ≤ (smUp s t (k + 1)).2 := by
  induction k with
  | zero => rw [smUp, if_pos (by left; simp [smUp])]; simp
  | succ k ih =>
    rw [smUp]
    split
    · simp
    · exact ih
theorem smUp_le (s t : ByteArray) (k : Nat) : (smUp s t k).2 ≤ 180 := by
  induction k with
  | zero => simp [smUp]
  | succ k ih =>
    rw [smUp]
    split
    · have := wrUp_le s t (shiftOf k) 180
      show ((wrUp s t (shiftOf k) 180 : Nat) : Int) ≤ 180
      omega
    · exact ih
def shiftedMatch (s t : ByteArray) (m : Int) : Int × Int × Int :=
  if isTxt 32 60 s = true ∧ isTxt 32 60 t = true ∧ inB m 0 60 = true then ((smUp s t (2 * m.toNat + 1)).1, (smUp s t (2 * m.toNat + 1)).2, 0) else (0, 0, 2)

set_option maxHeartbeats 400000 in
theorem l12Wrong_any (w : World) (s t : ByteArray) (f : Int) (hs : s.size ≤ 1048576) (ht : t.size ≤ 1048576) (h0 : -60 ≤ f) (h1 : f ≤ 60) :
    Calls Try.prog 63 #[.string s, .string t, .int .i64 f] w fun e w' => e = .returned (.int .i64 (wrong s t f)) ∧ w = w' := by
  go_enter Try.func63, Try.ntmps63
  go_wp2
  go_loop [7, 8] (fun v i => ∃ k : Nat, k ≤ 180 ∧ i = .int .i64 (-60 + (k : Int)) ∧ v = .int .i64 (wrUp s t f k)) (fun _ i => (120 - intOf i).toNat)
  case atStart => exact ⟨0, Nat.zero_le _, rfl, rfl⟩
  case round =>
    obtain ⟨k, hk, rfl, rfl⟩ := hrel
    have hw := wrUp_le s t f k
    by_cases hlt : -60 + (k : Int) < 120
    · by_cases hq : atB s (-60 + (k : Int) - f) = atB t (-60 + (k : Int))
      · have H2 : Hid (wrUp s t f (k + 1) = wrUp s t f k) := by unfold Hid; rw [wrUp, if_pos hq, Nat.add_zero]
        have c1 : (((atB s (-60 + (k : Int) - f)).toNat : Int) != ((atB t (-60 + (k : Int))).toNat : Int)) = false := bn_eq hq
        clear hq
        go_wp2_with (go_at_call 67; refine (l12At_any _ _ _ (by assumption) (by omega)).mono ?_; rintro e w1 ⟨rfl, rfl⟩)
        go_round
        case rel => exact ⟨k + 1, by omega, by go_num, by rw [H2.out]⟩
        case measure => simp [intOf]; omega
      · have H2 : Hid (wrUp s t f (k + 1) = wrUp s t f k + 1) := by unfold Hid; rw [wrUp, if_neg hq]
        have c1 : (((atB s (-60 + (k : Int) - f)).toNat : Int) != ((atB t (-60 + (k : Int))).toNat : Int)) = true := bn_ne hq
        clear hq
        go_wp2_with (go_at_call 67; refine (l12At_any _ _ _ (by assumption) (by omega)).mono ?_; rintro e w1 ⟨rfl, rfl⟩)
        go_round
        case rel => exact ⟨k + 1, by omega, by go_num, by rw [H2.out]; go_num⟩
        case measure => simp [intOf]; omega
    · have hk2 : Hid (k = 180) := by unfold Hid; omega
      go_wp2
      go_ret
      exact ⟨ret_int (by rw [hk2.out]; rfl), rfl⟩

def SmIn (s t : ByteArray) (j : Nat) (b l g : Value) : Prop :=
  (g = .int .i64 (-1) ∧ b = .int .i64 (smUp s t (2 * j + 1)).1 ∧ l = .int .i64 (smUp s t (2 * j + 1)).2) ∨
  (g = .int .i64 1 ∧ b = .int .i64 (smUp s t (2 * j + 2)).1 ∧ l = .int .i64 (smUp s t (2 * j + 2)).2) ∨
  (g = .int .i64 3 ∧ b = .int .i64 (smUp s t (2 * j + 3)).1 ∧ l = .int .i64 (smUp s t (2 * j + 3)).2)
theorem shift_odd (j : Nat) : shiftOf (2 * j + 1) = -((j : Int) + 1) := by unfold shiftOf; rw [if_pos (by omega)]; omega
theorem shift_even (j : Nat) : shiftOf (2 * j + 2) = (j : Int) + 1 := by unfold shiftOf; rw [if_neg (by omega)]; omega
theorem sm_less {s t : ByteArray} {k : Nat} (h : (wrong s t (shiftOf (k + 1)) : Int) < (smUp s t (k + 1)).2) : smUp s t (k + 2) = (shiftOf (k + 1), (wrong s t (shiftOf (k + 1)) : Int)) := by
  rw [smUp, if_pos (Or.inr h)]
theorem sm_more {s t : ByteArray} {k : Nat} (h : ¬ (wrong s t (shiftOf (k + 1)) : Int) < (smUp s t (k + 1)).2) : smUp s t (k + 2) = smUp s t (k + 1) := by
  have := smUp_pos s t k
  rw [smUp, if_neg (by rintro (h' | h'); exact absurd h' (by omega); exact h h')]

set_option maxHeartbeats 1000000 in
theorem ShiftedMatch_S (w : World) (s t : ByteArray) (m : Int) (hs : s.size ≤ 1048576) (ht : t.size ≤ 1048576) :
    Calls Try.prog 24 #[.string s, .string t, .int .i64 m] w fun e w' => e = .returned (.tuple #[.int .i64 (shiftedMatch s t m).1, .int .i64 (shiftedMatch s t m).2.1, .int .i64 (shiftedMatch s t m).2.2]) ∧ Below w.heap.size w w' := by
  by_cases h1 : isTxt 32 60 s = true
  · by_cases h2 : isTxt 32 60 t = true
    · by_cases h3 : inB m 0 60 = true
      · have h3' := inB_iff.1 h3
        obtain ⟨n, rfl⟩ : ∃ n : Nat, m = n := ⟨m.toNat, by omega⟩
        have HR : Hid (shiftedMatch s t n = ((smUp s t (2 * n + 1)).1, (smUp s t (2 * n + 1)).2, 0)) := by unfold Hid shiftedMatch; rw [if_pos ⟨h1, h2, h3⟩]; rfl
        have e1 : Hid (smUp s t 1 = (0, (wrong s t 0 : Int))) := by unfold Hid; rw [smUp, if_pos (by left; simp [smUp])]; rfl
        go_enter Try.func24, Try.ntmps24
        go_wp2_with (first | (go_at_call 61; refine (l12Line_any _ _ (by assumption)).mono ?_; rintro e w1 ⟨rfl, rfl⟩) | (go_at_call 62; refine (l00In_any _ _ _ _).mono ?_; rintro e w1 ⟨rfl, rfl⟩) | (go_at_call 63; refine (l12Wrong_any _ _ _ _ (by assumption) (by assumption) (by omega) (by omega)).mono ?_; rintro e w1 ⟨rfl, rfl⟩))
        clear h1 h2 h3
        go_loop [9, 10, 11] (fun b l i => ∃ j : Nat, j ≤ n ∧ i = .int .i64 ((j : Int) + 1) ∧ b = .int .i64 (smUp s t (2 * j + 1)).1 ∧ l = .int .i64 (smUp s t (2 * j + 1)).2) (fun _ _ i => n + 1 - (intOf i).toNat)
        case atStart => exact ⟨0, Nat.zero_le _, rfl, by rw [e1.out], by rw [e1.out]⟩
        case round =>
          obtain ⟨j, hj, rfl, rfl, rfl⟩ := hrel
          by_cases hlt : (j : Int) + 1 ≤ (n : Int)
          · go_wp2
            go_loop [9, 10, 12] (fun b l g => SmIn s t j b l g) (fun _ _ g => (3 - intOf g).toNat)
            case atStart => exact Or.inl ⟨rfl, rfl, rfl⟩
            case round =>
              rcases hrel with ⟨rfl, rfl, rfl⟩ | ⟨rfl, rfl, rfl⟩ | ⟨rfl, rfl, rfl⟩
              · have hsh := shift_odd j
                go_wp2_with fail
                refine (l12Wrong_any _ _ _ _ hs ht (by omega) (by omega)).mono ?_
                rintro e w1 ⟨rfl, rfl⟩
                by_cases hc : (wrong s t (shiftOf (2 * j + 1)) : Int) < (smUp s t (2 * j + 1)).2
                · have H2 := hide (sm_less hc)
                  rw [hsh] at hc H2
                  clear hsh
                  go_wp2
                  go_round
                  case rel => exact Or.inr (Or.inl ⟨rfl, by rw [H2.out], by rw [H2.out]⟩)
                  case measure => simp [intOf]
                · have H2 := hide (sm_more hc)
                  rw [hsh] at hc
                  clear hsh
                  go_wp2
                  go_round
                  case rel => exact Or.inr (Or.inl ⟨rfl, by rw [H2.out], by rw [H2.out]⟩)
                  case measure => simp [intOf]
              · have hsh := shift_even j
                go_wp2_with fail
                refine (l12Wrong_any _ _ _ _ hs ht (by omega) (by omega)).mono ?_
                rintro e w1 ⟨rfl, rfl⟩
                by_cases hc : (wrong s t (shiftOf (2 * j + 2)) : Int) < (smUp s t (2 * j + 2)).2
                · have H2 := hide (sm_less hc)
                  rw [hsh] at hc H2
                  clear hsh
                  go_wp2
                  go_round
                  case rel => exact Or.inr (Or.inr ⟨rfl, by rw [H2.out], by rw [H2.out]⟩)
                  case measure => simp [intOf]
                · have H2 := hide (sm_more hc)
                  rw [hsh] at hc
                  clear hsh
                  go_wp2
                  go_round
                  case rel => exact Or.inr (Or.inr ⟨rfl, by rw [H2.out], by rw [H2.out]⟩)
                  case measure => simp [intOf]
              · go_wp2
                go_round
                case rel => exact ⟨j + 1, by omega, by go_num, rfl, rfl⟩
                case measure => simp [intOf]; omega
          · have hk2 : Hid (j = n) := by unfold Hid; omega
            go_wp2
            go_ret3
            exact ⟨by rw [HR.out, hk2.out]; rfl, Below.refl _ _⟩
      · have HR : Hid (shiftedMatch s t m = (0, 0, 2)) := by unfold Hid shiftedMatch; rw [if_neg (fun e => h3 e.2.2)]
        replace h3 : inB m 0 60 = false := by simpa using h3
        go_enter Try.func24, Try.ntmps24
        go_wp2_with (first | (go_at_call 61; refine (l12Line_any _ _ (by assumption)).mono ?_; rintro e w1 ⟨rfl, rfl⟩) | (go_at_call 62; refine (l00In_any _ _ _ _).mono ?_; rintro e w1 ⟨rfl, rfl⟩))
        go_ret3
        exact ⟨by rw [HR.out]; rfl, Below.refl _ _⟩
    · have HR : Hid (shiftedMatch s t m = (0, 0, 2)) := by unfold Hid shiftedMatch; rw [if_neg (fun e => h2 e.2.1)]
      replace h2 : isTxt 32 60 t = false := by simpa using h2
      go_enter Try.func24, Try.ntmps24
      go_wp2_with (go_at_call 61; refine (l12Line_any _ _ (by assumption)).mono ?_; rintro e w1 ⟨rfl, rfl⟩)
      go_ret3
      exact ⟨by rw [HR.out]; rfl, Below.refl _ _⟩
  · have HR : Hid (shiftedMatch s t m = (0, 0, 2)) := by unfold Hid shiftedMatch; rw [if_neg (fun e => h1 e.1)]
    replace h1 : isTxt 32 60 s = false := by simpa using h1
    go_enter Try.func24, Try.ntmps24
    go_wp2_with (go_at_call 61; refine (l12Line_any _ _ (by assumption)).mono ?_; rintro e w1 ⟨rfl, rfl⟩)
    go_ret3
    exact ⟨by rw [HR.out]; rfl, Below.refl _ _⟩
end Go.Proofs.Ytokdbkkjneadgaa
