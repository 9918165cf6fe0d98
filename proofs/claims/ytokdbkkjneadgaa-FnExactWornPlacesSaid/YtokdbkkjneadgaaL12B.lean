/-
  ErasedIn, WrongPlaces, ShiftedMatch: what each returns, for all arguments.
-/
import Derived.Test.YtokdbkkjneadgaaL12A
namespace Go.Proofs.Ytokdbkkjneadgaa
set_option maxRecDepth 100000
open Go.RowKit

def plB (b : UInt8) : Bool := b == 46 || b == 43 || b == 35
def planGo : List UInt8 → Bool
  | [] => true
  | b :: bs => if plB b = true then planGo bs else false
def isPln (s : ByteArray) : Bool := planGo (by_ s) && decide ((s.size : Int) ≤ 60)
def erGo : Nat → List UInt8 → Nat
  | n, [] => n
  | n, b :: bs => if b = 35 then erGo (n + 1) bs else erGo n bs

set_option maxHeartbeats 400000 in
theorem l12IsPlan_any (w : World) (s : ByteArray) (hs : s.size ≤ 9223372036854775807) :
    Calls Try.prog 55 #[.string s] w fun e w' => e = .returned (.bool (isPln s)) ∧ w = w' := by
  go_enter Try.func55, Try.ntmps55
  go_wp2
  go_loop [3] (fun i => ∃ k : Nat, k ≤ s.size ∧ i = .int .i64 k ∧ planGo ((by_ s).drop k) = planGo (by_ s)) (fun i => s.size - (intOf i).toNat)
  case atStart => exact ⟨0, Nat.zero_le _, rfl, by simp⟩
  case round =>
    obtain ⟨k, hk, rfl, HR⟩ := hrel
    by_cases hlt : k < s.size
    · have hx := by_get hlt
      obtain ⟨b, hb⟩ : ∃ b, s[k] = b := ⟨_, rfl⟩
      rw [hb] at hx
      have hrun := run_byte hx
      rw [drop_get hx, planGo] at HR
      by_cases h1 : b = 46
      · rw [if_pos (by rw [plB, h1]; rfl)] at HR
        have H2 := hide HR
        have c1 : ((b.toNat : Int) != 46) = false := bn_eq (c := 46) h1
        clear HR hx hb h1
        go_wp2
        go_round
        case rel => exact ⟨k + 1, by omega, by go_num, H2.out⟩
        case measure => simp [intOf]; omega
      · have c1 : ((b.toNat : Int) != 46) = true := bn_ne (c := 46) h1
        by_cases h2 : b = 43
        · rw [if_pos (by rw [plB, h2]; rfl)] at HR
          have H2 := hide HR
          have c2 : ((b.toNat : Int) != 43) = false := bn_eq (c := 43) h2
          clear HR hx hb h1 h2
          go_wp2
          go_round
          case rel => exact ⟨k + 1, by omega, by go_num, H2.out⟩
          case measure => simp [intOf]; omega
        · have c2 : ((b.toNat : Int) != 43) = true := bn_ne (c := 43) h2
          by_cases h3 : b = 35
          · rw [if_pos (by rw [plB, h3]; rfl)] at HR
            have H2 := hide HR
            have c3 : ((b.toNat : Int) != 35) = false := bn_eq (c := 35) h3
            clear HR hx hb h1 h2 h3
            go_wp2
            go_round
            case rel => exact ⟨k + 1, by omega, by go_num, H2.out⟩
            case measure => simp [intOf]; omega
          · have c3 : ((b.toNat : Int) != 35) = true := bn_ne (c := 35) h3
            rw [if_neg (by rw [plB]; simp [h1, h2, h3])] at HR
            have H2 := hide HR
            clear HR hx hb h1 h2 h3
            go_wp2
            go_ret
            exact ⟨ret_bool (by rw [isPln, ← H2.out, Bool.false_and]), rfl⟩
    · have H2 : Hid (planGo (by_ s) = true) := by
        unfold Hid
        rw [← HR, List.drop_eq_nil_of_le (by rw [by_len]; omega)]; rfl
      clear HR
      go_wp2
      go_ret
      exact ⟨ret_bool (by rw [isPln, H2.out, Bool.true_and]), rfl⟩
set_option maxHeartbeats 400000 in
theorem isPlan_any (w : World) (s : ByteArray) (hs : s.size ≤ 9223372036854775807) :
    Calls Try.prog 57 #[.string s] w fun e w' => e = .returned (.bool (isPln s)) ∧ w = w' := by
  go_enter Try.func57, Try.ntmps57
  go_wp2
  go_loop [6] (fun i => ∃ k : Nat, k ≤ s.size ∧ i = .int .i64 k ∧ planGo ((by_ s).drop k) = planGo (by_ s)) (fun i => s.size - (intOf i).toNat)
  case atStart => exact ⟨0, Nat.zero_le _, rfl, by simp⟩
  case round =>
    obtain ⟨k, hk, rfl, HR⟩ := hrel
    by_cases hlt : k < s.size
    · have hx := by_get hlt
      obtain ⟨b, hb⟩ : ∃ b, s[k] = b := ⟨_, rfl⟩
      rw [hb] at hx
      have hrun := run_byte hx
      rw [drop_get hx, planGo] at HR
      by_cases h1 : b = 46
      · rw [if_pos (by rw [plB, h1]; rfl)] at HR
        have H2 := hide HR
        have c1 : ((b.toNat : Int) != 46) = false := bn_eq (c := 46) h1
        clear HR hx hb h1
        go_wp2
        go_round
        case rel => exact ⟨k + 1, by omega, by go_num, H2.out⟩
        case measure => simp [intOf]; omega
      · have c1 : ((b.toNat : Int) != 46) = true := bn_ne (c := 46) h1
        by_cases h2 : b = 43
        · rw [if_pos (by rw [plB, h2]; rfl)] at HR
          have H2 := hide HR
          have c2 : ((b.toNat : Int) != 43) = false := bn_eq (c := 43) h2
          clear HR hx hb h1 h2
          go_wp2
          go_round
          case rel => exact ⟨k + 1, by omega, by go_num, H2.out⟩
          case measure => simp [intOf]; omega
        · have c2 : ((b.toNat : Int) != 43) = true := bn_ne (c := 43) h2
          by_cases h3 : b = 35
          · rw [if_pos (by rw [plB, h3]; rfl)] at HR
            have H2 := hide HR
            have c3 : ((b.toNat : Int) != 35) = false := bn_eq (c := 35) h3
            clear HR hx hb h1 h2 h3
            go_wp2
            go_round
            case rel => exact ⟨k + 1, by omega, by go_num, H2.out⟩
            case measure => simp [intOf]; omega
          · have c3 : ((b.toNat : Int) != 35) = true := bn_ne (c := 35) h3
            rw [if_neg (by rw [plB]; simp [h1, h2, h3])] at HR
            have H2 := hide HR
            clear HR hx hb h1 h2 h3
            go_wp2
            go_ret
            exact ⟨ret_bool (by rw [isPln, ← H2.out, Bool.false_and]), rfl⟩
    · have H2 : Hid (planGo (by_ s) = true) := by
        unfold Hid
        rw [← HR, List.drop_eq_nil_of_le (by rw [by_len]; omega)]; rfl
      clear HR
      go_wp2
      go_ret
      exact ⟨ret_bool (by rw [isPln, H2.out, Bool.true_and]), rfl⟩

set_option maxHeartbeats 400000 in
theorem l12Erased_any (w : World) (s : ByteArray) (hs : s.size ≤ 9223372036854775807) :
    Calls Try.prog 56 #[.string s] w fun e w' => e = .returned (.int .i64 (erGo 0 (by_ s))) ∧ w = w' := by
  go_enter Try.func56, Try.ntmps56
  go_wp2
  go_loop [3, 4] (fun v i => ∃ k n : Nat, k ≤ s.size ∧ n ≤ k ∧ i = .int .i64 k ∧ v = .int .i64 n ∧ erGo n ((by_ s).drop k) = erGo 0 (by_ s)) (fun _ i => s.size - (intOf i).toNat)
  case atStart => exact ⟨0, 0, Nat.zero_le _, Nat.le_refl _, rfl, rfl, by simp⟩
  case round =>
    obtain ⟨k, n, hk, hn, rfl, rfl, HR⟩ := hrel
    by_cases hlt : k < s.size
    · have hx := by_get hlt
      obtain ⟨b, hb⟩ : ∃ b, s[k] = b := ⟨_, rfl⟩
      rw [hb] at hx
      have hrun := run_byte hx
      rw [drop_get hx, erGo] at HR
      by_cases h1 : b = 35
      · rw [if_pos h1] at HR
        have H2 := hide HR
        have c1 : ((b.toNat : Int) == 35) = true := b_eq (c := 35) h1
        clear HR hx hb h1
        go_wp2
        go_round
        case rel => exact ⟨k + 1, n + 1, by omega, by omega, by go_num, by go_num, H2.out⟩
        case measure => simp [intOf]; omega
      · rw [if_neg h1] at HR
        have H2 := hide HR
        have c1 : ((b.toNat : Int) == 35) = false := b_ne (c := 35) h1
        clear HR hx hb h1
        go_wp2
        go_round
        case rel => exact ⟨k + 1, n, by omega, by omega, by go_num, rfl, H2.out⟩
        case measure => simp [intOf]; omega
    · have H2 : Hid (erGo 0 (by_ s) = n) := by
        unfold Hid
        rw [← HR, List.drop_eq_nil_of_le (by rw [by_len]; omega)]; rfl
      clear HR
      go_wp2
      go_ret
      exact ⟨ret_int (by rw [H2.out]), rfl⟩
set_option maxHeartbeats 400000 in
theorem erased_any (w : World) (s : ByteArray) (hs : s.size ≤ 9223372036854775807) :
    Calls Try.prog 58 #[.string s] w fun e w' => e = .returned (.int .i64 (erGo 0 (by_ s))) ∧ w = w' := by
  go_enter Try.func58, Try.ntmps58
  go_wp2
  go_loop [3, 7] (fun v i => ∃ k n : Nat, k ≤ s.size ∧ n ≤ k ∧ i = .int .i64 k ∧ v = .int .i64 n ∧ erGo n ((by_ s).drop k) = erGo 0 (by_ s)) (fun _ i => s.size - (intOf i).toNat)
  case atStart => exact ⟨0, 0, Nat.zero_le _, Nat.le_refl _, rfl, rfl, by simp⟩
  case round =>
    obtain ⟨k, n, hk, hn, rfl, rfl, HR⟩ := hrel
    by_cases hlt : k < s.size
    · have hx := by_get hlt
      obtain ⟨b, hb⟩ : ∃ b, s[k] = b := ⟨_, rfl⟩
      rw [hb] at hx
      have hrun := run_byte hx
      rw [drop_get hx, erGo] at HR
      by_cases h1 : b = 35
      · rw [if_pos h1] at HR
        have H2 := hide HR
        have c1 : ((b.toNat : Int) == 35) = true := b_eq (c := 35) h1
        clear HR hx hb h1
        go_wp2
        go_round
        case rel => exact ⟨k + 1, n + 1, by omega, by omega, by go_num, by go_num, H2.out⟩
        case measure => simp [intOf]; omega
      · rw [if_neg h1] at HR
        have H2 := hide HR
        have c1 : ((b.toNat : Int) == 35) = false := b_ne (c := 35) h1
        clear HR hx hb h1
        go_wp2
        go_round
        case rel => exact ⟨k + 1, n, by omega, by omega, by go_num, rfl, H2.out⟩
        case measure => simp [intOf]; omega
    · have H2 : Hid (erGo 0 (by_ s) = n) := by
        unfold Hid
        rw [← HR, List.drop_eq_nil_of_le (by rw [by_len]; omega)]; rfl
      clear HR
      go_wp2
      go_ret
      exact ⟨ret_int (by rw [H2.out]), rfl⟩

def erasedIn (s : ByteArray) : Int × Int := if isPln s = true then (erGo 0 (by_ s), 0) else (0, 7)
theorem ErasedIn_S (w : World) (s : ByteArray) (hs : s.size ≤ 1048576) :
    Calls Try.prog 15 #[.string s] w fun e w' => e = .returned (.tuple #[.int .i64 (erasedIn s).1, .int .i64 (erasedIn s).2]) ∧ Below w.heap.size w w' := by
  by_cases h1 : isPln s = true
  · have HR : Hid (erasedIn s = ((erGo 0 (by_ s) : Int), 0)) := by unfold Hid erasedIn; rw [if_pos h1]
    go_enter Try.func15, Try.ntmps15
    go_wp2_with (first | (go_at_call 55; refine (l12IsPlan_any _ s (by omega)).mono ?_; rintro e w1 ⟨rfl, rfl⟩) | (go_at_call 56; refine (l12Erased_any _ s (by omega)).mono ?_; rintro e w1 ⟨rfl, rfl⟩))
    go_ret2
    exact ⟨by rw [HR.out]; rfl, Below.refl _ _⟩
  · have HR : Hid (erasedIn s = (0, 7)) := by unfold Hid erasedIn; rw [if_neg h1]
    replace h1 : isPln s = false := by simpa using h1
    go_enter Try.func15, Try.ntmps15
    go_wp2_with (go_at_call 55; refine (l12IsPlan_any _ s (by omega)).mono ?_; rintro e w1 ⟨rfl, rfl⟩)
    go_ret2
    exact ⟨by rw [HR.out]; rfl, Below.refl _ _⟩
theorem ErasedIn_I (w : World) (s : ByteArray) (hs : s.size ≤ 1048576) :
    Calls Try.prog 16 #[.string s] w fun e w' => e = .returned (.tuple #[.int .i64 (erasedIn s).1, .int .i64 (erasedIn s).2]) ∧ Below w.heap.size w w' := by
  by_cases h1 : isPln s = true
  · have HR : Hid (erasedIn s = ((erGo 0 (by_ s) : Int), 0)) := by unfold Hid erasedIn; rw [if_pos h1]
    go_enter Try.func16, Try.ntmps16
    go_wp2_with (first | (go_at_call 57; refine (isPlan_any _ s (by omega)).mono ?_; rintro e w1 ⟨rfl, rfl⟩) | (go_at_call 58; refine (erased_any _ s (by omega)).mono ?_; rintro e w1 ⟨rfl, rfl⟩))
    go_ret2
    exact ⟨by rw [HR.out]; rfl, Below.refl _ _⟩
  · have HR : Hid (erasedIn s = (0, 7)) := by unfold Hid erasedIn; rw [if_neg h1]
    replace h1 : isPln s = false := by simpa using h1
    go_enter Try.func16, Try.ntmps16
    go_wp2_with (go_at_call 57; refine (isPlan_any _ s (by omega)).mono ?_; rintro e w1 ⟨rfl, rfl⟩)
    go_ret2
    exact ⟨by rw [HR.out]; rfl, Below.refl _ _⟩

/-! ### bytes at places -/
def atB (s : ByteArray) (i : Int) : UInt8 := if i < 0 ∨ (s.size : Int) ≤ i then 32 else (by_ s)[i.toNat]?.getD 32

theorem l12At_any (w : World) (s : ByteArray) (i : Int) (hs : s.size ≤ 1048576) (hi : -1000 ≤ i ∧ i ≤ 1000) :
    Calls Try.prog 67 #[.string s, .int .i64 i] w fun e w' => e = .returned (.int .u8 ((atB s i).toNat : Int)) ∧ w = w' := by
  by_cases h : i < 0 ∨ (s.size : Int) ≤ i
  · have HR : Hid (atB s i = 32) := by unfold Hid atB; rw [if_pos h]
    have hin : inB i 0 ((s.size : Int) - 1) = false := by simp [inB]; omega
    rcases h with h | h
    all_goals
      go_enter Try.func67, Try.ntmps67
      go_wp2_with (go_at_call 62; refine (l00In_any _ _ _ _).mono ?_; rintro e w1 ⟨rfl, rfl⟩)
      go_ret
      exact ⟨by rw [HR.out]; rfl, rfl⟩
  · obtain ⟨k, rfl⟩ : ∃ k : Nat, i = k := ⟨i.toNat, by omega⟩
    have hlt : k < s.size := by omega
    have hx := by_get hlt
    obtain ⟨b, hb⟩ : ∃ b, s[k] = b := ⟨_, rfl⟩
    rw [hb] at hx
    have hrun := run_byte hx
    have HR : Hid (atB s (k : Int) = b) := by unfold Hid atB; rw [if_neg h, Int.toNat_natCast, hx]; rfl
    have hin : inB (k : Int) 0 ((s.size : Int) - 1) = true := by simp [inB]; omega
    have h1 : ¬ (k : Int) < 0 := by omega
    have h2 : ¬ (s.size : Int) ≤ (k : Int) := by omega
    clear h hx hb
    go_enter Try.func67, Try.ntmps67
    go_wp2_with (go_at_call 62; refine (l00In_any _ _ _ _).mono ?_; rintro e w1 ⟨rfl, rfl⟩)
    go_ret
    exact ⟨ret_int (by rw [HR.out]), rfl⟩
theorem byteAt_any (w : World) (s : ByteArray) (i : Int) (hs : s.size ≤ 1048576) (hi : -1000 ≤ i ∧ i ≤ 1000) :
    Calls Try.prog 66 #[.string s, .int .i64 i] w fun e w' => e = .returned (.int .u8 ((atB s i).toNat : Int)) ∧ w = w' := by
  by_cases h : i < 0 ∨ (s.size : Int) ≤ i
  · have HR : Hid (atB s i = 32) := by unfold Hid atB; rw [if_pos h]
    have hin : inB i 0 ((s.size : Int) - 1) = false := by simp [inB]; omega
    rcases h with h | h
    all_goals
      go_enter Try.func66, Try.ntmps66
      go_wp2_with fail
      go_ret
      exact ⟨by rw [HR.out]; rfl, rfl⟩
  · obtain ⟨k, rfl⟩ : ∃ k : Nat, i = k := ⟨i.toNat, by omega⟩
    have hlt : k < s.size := by omega
    have hx := by_get hlt
    obtain ⟨b, hb⟩ : ∃ b, s[k] = b := ⟨_, rfl⟩
    rw [hb] at hx
    have hrun := run_byte hx
    have HR : Hid (atB s (k : Int) = b) := by unfold Hid atB; rw [if_neg h, Int.toNat_natCast, hx]; rfl
    have hin : inB (k : Int) 0 ((s.size : Int) - 1) = true := by simp [inB]; omega
    have h1 : ¬ (k : Int) < 0 := by omega
    have h2 : ¬ (s.size : Int) ≤ (k : Int) := by omega
    clear h hx hb
    go_enter Try.func66, Try.ntmps66
    go_wp2_with fail
    go_ret
    exact ⟨ret_int (by rw [HR.out]), rfl⟩
end Go.Proofs.Ytokdbkkjneadgaa
