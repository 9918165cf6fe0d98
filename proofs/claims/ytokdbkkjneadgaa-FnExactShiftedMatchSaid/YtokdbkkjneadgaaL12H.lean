/-
  ShiftedMatch of the program: what it returns, for all arguments.
-/
import Derived.Test.YtokdbkkjneadgaaL12G
namespace Go.Proofs.Ytokdbkkjneadgaa
set_option maxRecDepth 100000
open Go.RowKit

theorem shiftOf_bd (k : Nat) (h : k ≤ 120) : -60 ≤ shiftOf k ∧ shiftOf k ≤ 60 := by unfold shiftOf; split <;> omega
theorem shiftOf_o {k : Nat} (h : k % 2 = 1) (hk : k ≤ 120) : shiftOf k = wrap64 (-((k : Int) + 1).tdiv 2) := by
  have e : ((k : Int) + 1).tdiv 2 = ((k : Int) + 1) / 2 := Int.tdiv_eq_ediv_of_nonneg (by omega)
  rw [e, IntWalk.wrap64_in _ (by omega)]
  unfold shiftOf
  rw [if_pos h]
  omega
theorem shiftOf_e {k : Nat} (h : ¬ k % 2 = 1) : shiftOf k = (k : Int) / 2 := by
  unfold shiftOf
  rw [if_neg h]
  omega
theorem sm_take {s t : ByteArray} {k : Nat} (h : (smUp s t k).2 < 0 ∨ (wrong s t (shiftOf k) : Int) < (smUp s t k).2) : smUp s t (k + 1) = (shiftOf k, (wrong s t (shiftOf k) : Int)) := by rw [smUp, if_pos h]
theorem sm_keep {s t : ByteArray} {k : Nat} (h : ¬ ((smUp s t k).2 < 0 ∨ (wrong s t (shiftOf k) : Int) < (smUp s t k).2)) : smUp s t (k + 1) = smUp s t k := by rw [smUp, if_neg h]


set_option maxHeartbeats 1000000 in
theorem ShiftedMatch_I (w : World) (s t : ByteArray) (m : Int) (hs : s.size ≤ 1048576) (ht : t.size ≤ 1048576) :
    Calls Try.prog 25 #[.string s, .string t, .int .i64 m] w fun e w' => e = .returned (.tuple #[.int .i64 (shiftedMatch s t m).1, .int .i64 (shiftedMatch s t m).2.1, .int .i64 (shiftedMatch s t m).2.2]) ∧ Below w.heap.size w w' := by
  by_cases h1 : isTxt 32 60 s = true
  · by_cases h2 : isTxt 32 60 t = true
    · by_cases h3 : inB m 0 60 = true
      · have h3' := inB_iff.1 h3
        obtain ⟨n, rfl⟩ : ∃ n : Nat, m = n := ⟨m.toNat, by omega⟩
        have HR : Hid (shiftedMatch s t n = ((smUp s t (2 * n + 1)).1, (smUp s t (2 * n + 1)).2, 0)) := by unfold Hid shiftedMatch; rw [if_pos ⟨h1, h2, h3⟩]; rfl
        go_enter Try.func25, Try.ntmps25
        go_wp2_with (first | (go_at_call 64; refine (isCorrectLine_any _ _ (by assumption)).mono ?_; rintro e w1 ⟨rfl, rfl⟩) | (go_at_call 65; refine (between_any _ _ _ _).mono ?_; rintro e w1 ⟨rfl, rfl⟩))
        clear h1 h2 h3
        go_loop [9, 10, 31] (fun b l i => ∃ k : Nat, k ≤ 2 * n + 1 ∧ i = .int .i64 k ∧ b = .int .i64 (smUp s t k).1 ∧ l = .int .i64 (smUp s t k).2) (fun _ _ i => 2 * n + 1 - (intOf i).toNat)
        case atStart => exact ⟨0, Nat.zero_le _, rfl, rfl, rfl⟩
        case round =>
          obtain ⟨k, hk, rfl, rfl, rfl⟩ := hrel
          by_cases hlt : (k : Int) < 2 * (n : Int) + 1
          · have hbd := shiftOf_bd k (by omega)
            have hle := smUp_le s t k
            by_cases hodd : k % 2 = 1
            · have hd : ((k : Int) % 2 == 1) = true := beq_iff_eq.2 (by omega)
              have hsh := shiftOf_o hodd (by omega)
              clear hodd
              go_wp2_with fail
              rw [← hsh]
              clear hsh
              go_loop [13, 14] (fun v i => ∃ q : Nat, q ≤ 180 ∧ i = .int .i64 (-60 + (q : Int)) ∧ v = .int .i64 (wrUp s t (shiftOf k) q)) (fun _ i => (120 - intOf i).toNat)
              case atStart => exact ⟨0, Nat.zero_le _, rfl, rfl⟩
              case round =>
                obtain ⟨q, hq, rfl, rfl⟩ := hrel
                have hw := wrUp_le s t (shiftOf k) q
                by_cases hlt2 : -60 + (q : Int) < 120
                · by_cases hc : atB s (-60 + (q : Int) - shiftOf k) = atB t (-60 + (q : Int))
                  · have H2 : Hid (wrUp s t (shiftOf k) (q + 1) = wrUp s t (shiftOf k) q) := by unfold Hid; rw [wrUp, if_pos hc, Nat.add_zero]
                    have c1 : (((atB s (-60 + (q : Int) - shiftOf k)).toNat : Int) != ((atB t (-60 + (q : Int))).toNat : Int)) = false := bn_eq hc
                    clear hc
                    go_wp2_with (go_at_call 66; refine (byteAt_any _ _ _ (by assumption) (by omega)).mono ?_; rintro e w1 ⟨rfl, rfl⟩)
                    go_round
                    case rel => exact ⟨q + 1, by omega, by go_num, by rw [H2.out]⟩
                    case measure => simp [intOf]; omega
                  · have H2 : Hid (wrUp s t (shiftOf k) (q + 1) = wrUp s t (shiftOf k) q + 1) := by unfold Hid; rw [wrUp, if_neg hc]
                    have c1 : (((atB s (-60 + (q : Int) - shiftOf k)).toNat : Int) != ((atB t (-60 + (q : Int))).toNat : Int)) = true := bn_ne hc
                    clear hc
                    go_wp2_with (go_at_call 66; refine (byteAt_any _ _ _ (by assumption) (by omega)).mono ?_; rintro e w1 ⟨rfl, rfl⟩)
                    go_round
                    case rel => exact ⟨q + 1, by omega, by go_num, by rw [H2.out]; go_num⟩
                    case measure => simp [intOf]; omega
                · have hk2 : q = 180 := by omega
                  subst hk2
                  have hwr : Hid (wrUp s t (shiftOf k) 180 = wrong s t (shiftOf k)) := rfl
                  by_cases hs0 : (smUp s t k).2 < 0
                  · have H2 := hide (sm_take (s := s) (t := t) (k := k) (Or.inl hs0))
                    go_wp2
                    go_round
                    case rel => exact ⟨k + 1, by omega, by go_num, by rw [H2.out], by rw [H2.out, ← hwr.out]⟩
                    case measure => simp [intOf]; omega
                  · by_cases hs1 : (wrUp s t (shiftOf k) 180 : Int) < (smUp s t k).2
                    · have H2 := hide (sm_take (s := s) (t := t) (k := k) (Or.inr hs1))
                      go_wp2
                      go_round
                      case rel => exact ⟨k + 1, by omega, by go_num, by rw [H2.out], by rw [H2.out, ← hwr.out]⟩
                      case measure => simp [intOf]; omega
                    · have H2 := hide (sm_keep (s := s) (t := t) (k := k) (fun e => e.elim hs0 hs1))
                      go_wp2
                      go_round
                      case rel => exact ⟨k + 1, by omega, by go_num, by rw [H2.out], by rw [H2.out]⟩
                      case measure => simp [intOf]; omega
            · have hd : ((k : Int) % 2 == 1) = false := beq_eq_false_iff_ne.2 (by omega)
              have hsh := shiftOf_e hodd
              clear hodd
              go_wp2_with fail
              rw [← hsh]
              clear hsh
              go_loop [13, 14] (fun v i => ∃ q : Nat, q ≤ 180 ∧ i = .int .i64 (-60 + (q : Int)) ∧ v = .int .i64 (wrUp s t (shiftOf k) q)) (fun _ i => (120 - intOf i).toNat)
              case atStart => exact ⟨0, Nat.zero_le _, rfl, rfl⟩
              case round =>
                obtain ⟨q, hq, rfl, rfl⟩ := hrel
                have hw := wrUp_le s t (shiftOf k) q
                by_cases hlt2 : -60 + (q : Int) < 120
                · by_cases hc : atB s (-60 + (q : Int) - shiftOf k) = atB t (-60 + (q : Int))
                  · have H2 : Hid (wrUp s t (shiftOf k) (q + 1) = wrUp s t (shiftOf k) q) := by unfold Hid; rw [wrUp, if_pos hc, Nat.add_zero]
                    have c1 : (((atB s (-60 + (q : Int) - shiftOf k)).toNat : Int) != ((atB t (-60 + (q : Int))).toNat : Int)) = false := bn_eq hc
                    clear hc
                    go_wp2_with (go_at_call 66; refine (byteAt_any _ _ _ (by assumption) (by omega)).mono ?_; rintro e w1 ⟨rfl, rfl⟩)
                    go_round
                    case rel => exact ⟨q + 1, by omega, by go_num, by rw [H2.out]⟩
                    case measure => simp [intOf]; omega
                  · have H2 : Hid (wrUp s t (shiftOf k) (q + 1) = wrUp s t (shiftOf k) q + 1) := by unfold Hid; rw [wrUp, if_neg hc]
                    have c1 : (((atB s (-60 + (q : Int) - shiftOf k)).toNat : Int) != ((atB t (-60 + (q : Int))).toNat : Int)) = true := bn_ne hc
                    clear hc
                    go_wp2_with (go_at_call 66; refine (byteAt_any _ _ _ (by assumption) (by omega)).mono ?_; rintro e w1 ⟨rfl, rfl⟩)
                    go_round
                    case rel => exact ⟨q + 1, by omega, by go_num, by rw [H2.out]; go_num⟩
                    case measure => simp [intOf]; omega
                · have hk2 : q = 180 := by omega
                  subst hk2
                  have hwr : Hid (wrUp s t (shiftOf k) 180 = wrong s t (shiftOf k)) := rfl
                  by_cases hs0 : (smUp s t k).2 < 0
                  · have H2 := hide (sm_take (s := s) (t := t) (k := k) (Or.inl hs0))
                    go_wp2
                    go_round
                    case rel => exact ⟨k + 1, by omega, by go_num, by rw [H2.out], by rw [H2.out, ← hwr.out]⟩
                    case measure => simp [intOf]; omega
                  · by_cases hs1 : (wrUp s t (shiftOf k) 180 : Int) < (smUp s t k).2
                    · have H2 := hide (sm_take (s := s) (t := t) (k := k) (Or.inr hs1))
                      go_wp2
                      go_round
                      case rel => exact ⟨k + 1, by omega, by go_num, by rw [H2.out], by rw [H2.out, ← hwr.out]⟩
                      case measure => simp [intOf]; omega
                    · have H2 := hide (sm_keep (s := s) (t := t) (k := k) (fun e => e.elim hs0 hs1))
                      go_wp2
                      go_round
                      case rel => exact ⟨k + 1, by omega, by go_num, by rw [H2.out], by rw [H2.out]⟩
                      case measure => simp [intOf]; omega
          · have hk2 : Hid (k = 2 * n + 1) := by unfold Hid; omega
            go_wp2
            go_ret3
            exact ⟨by rw [HR.out, hk2.out]; rfl, Below.refl _ _⟩
      · have HR : Hid (shiftedMatch s t m = (0, 0, 2)) := by unfold Hid shiftedMatch; rw [if_neg (fun e => h3 e.2.2)]
        replace h3 : inB m 0 60 = false := by simpa using h3
        go_enter Try.func25, Try.ntmps25
        go_wp2_with (first | (go_at_call 64; refine (isCorrectLine_any _ _ (by assumption)).mono ?_; rintro e w1 ⟨rfl, rfl⟩) | (go_at_call 65; refine (between_any _ _ _ _).mono ?_; rintro e w1 ⟨rfl, rfl⟩))
        go_ret3
        exact ⟨by rw [HR.out]; rfl, Below.refl _ _⟩
    · have HR : Hid (shiftedMatch s t m = (0, 0, 2)) := by unfold Hid shiftedMatch; rw [if_neg (fun e => h2 e.2.1)]
      replace h2 : isTxt 32 60 t = false := by simpa using h2
      go_enter Try.func25, Try.ntmps25
      go_wp2_with (go_at_call 64; refine (isCorrectLine_any _ _ (by assumption)).mono ?_; rintro e w1 ⟨rfl, rfl⟩)
      go_ret3
      exact ⟨by rw [HR.out]; rfl, Below.refl _ _⟩
  · have HR : Hid (shiftedMatch s t m = (0, 0, 2)) := by unfold Hid shiftedMatch; rw [if_neg (fun e => h1 e.1)]
    replace h1 : isTxt 32 60 s = false := by simpa using h1
    go_enter Try.func25, Try.ntmps25
    go_wp2_with (go_at_call 64; refine (isCorrectLine_any _ _ (by assumption)).mono ?_; rintro e w1 ⟨rfl, rfl⟩)
    go_ret3
    exact ⟨by rw [HR.out]; rfl, Below.refl _ _⟩
end Go.Proofs.Ytokdbkkjneadgaa
