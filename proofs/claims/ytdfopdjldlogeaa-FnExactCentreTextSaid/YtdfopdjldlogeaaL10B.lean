/-
  BackSpaces, RuleLine, RightText, CentreText, LeaderLine: what each returns, for all arguments.
-/
import Derived.Test.YtdfopdjldlogeaaL10A
namespace Go.Proofs.Ytdfopdjldlogeaa
open Go.RowKit

theorem isSet_size {s : ByteArray} (h : isSet s = true) : s.size ≤ 100 := by
  rw [isSet, isTxt, Bool.and_eq_true, Bool.and_eq_true, decide_eq_true_eq] at h
  omega
theorem ret_si {s t : ByteArray} {a b : Int} (h : s = t) (h2 : a = b) : Ending.returned (.tuple #[.string s, .int .i64 a]) = .returned (.tuple #[.string t, .int .i64 b]) := by rw [h, h2]

/-! ### BackSpaces -/
def backSpaces (s : ByteArray) : Int × Int := if isSet s = true then (((s.size : Int) + 1) / 2, 0) else (0, 2)
theorem BackSpaces_s (w : World) (s : ByteArray) (hs : s.size ≤ 1048576) :
    Calls Try.prog 14 #[.string s] w fun e w' => e = .returned (.tuple #[.int .i64 (backSpaces s).1, .int .i64 (backSpaces s).2]) ∧ Below w.heap.size w w' := by
  by_cases h1 : isSet s = true
  · have HR0 : Hid (backSpaces s = (((s.size : Int) + 1) / 2, 0)) := by unfold Hid backSpaces; rw [if_pos h1]
    go_enter Try.func14, Try.ntmps14
    go_wp2_with (go_at_call 41; refine (l10Text_any _ s (by omega)).mono ?_; rintro e w1 ⟨rfl, rfl⟩)
    go_ret2
    exact ⟨by rw [HR0.out]; rfl, Below.refl _ _⟩
  · have HR0 : Hid (backSpaces s = (0, 2)) := by unfold Hid backSpaces; rw [if_neg h1]
    replace h1 : isSet s = false := by simpa using h1
    go_enter Try.func14, Try.ntmps14
    go_wp2_with (go_at_call 41; refine (l10Text_any _ s (by omega)).mono ?_; rintro e w1 ⟨rfl, rfl⟩)
    go_ret2
    exact ⟨by rw [HR0.out]; rfl, Below.refl _ _⟩
theorem BackSpaces_i (w : World) (s : ByteArray) (hs : s.size ≤ 1048576) :
    Calls Try.prog 15 #[.string s] w fun e w' => e = .returned (.tuple #[.int .i64 (backSpaces s).1, .int .i64 (backSpaces s).2]) ∧ Below w.heap.size w w' := by
  by_cases h1 : isSet s = true
  · have HR0 : Hid (backSpaces s = (((s.size : Int) + 1) / 2, 0)) := by unfold Hid backSpaces; rw [if_pos h1]
    go_enter Try.func15, Try.ntmps15
    go_wp2_with (go_at_call 42; refine (isSetting_any _ s (by omega)).mono ?_; rintro e w1 ⟨rfl, rfl⟩)
    go_ret2
    exact ⟨by rw [HR0.out]; rfl, Below.refl _ _⟩
  · have HR0 : Hid (backSpaces s = (0, 2)) := by unfold Hid backSpaces; rw [if_neg h1]
    replace h1 : isSet s = false := by simpa using h1
    go_enter Try.func15, Try.ntmps15
    go_wp2_with (go_at_call 42; refine (isSetting_any _ s (by omega)).mono ?_; rintro e w1 ⟨rfl, rfl⟩)
    go_ret2
    exact ⟨by rw [HR0.out]; rfl, Below.refl _ _⟩

/-! ### RuleLine -/
def ruleLine (s : ByteArray) (n : Int) : ByteArray × Int := if isLet s = true ∧ inB n 1 100 = true then (runs ((by_ s).headD 0) n, 0) else (⟨#[]⟩, 2)
theorem RuleLine_s (w : World) (s : ByteArray) (n : Int) (hs : s.size ≤ 1048576) :
    Calls Try.prog 16 #[.string s, .int .i64 n] w fun e w' => e = .returned (.tuple #[.string (ruleLine s n).1, .int .i64 (ruleLine s n).2]) ∧ Below w.heap.size w w' := by
  by_cases h1 : isLet s = true
  · by_cases h2 : inB n 1 100 = true
    · have h2' := inB_iff.1 h2
      have HR0 : Hid (ruleLine s n = (runs ((by_ s).headD 0) n, 0)) := by unfold Hid ruleLine; rw [if_pos ⟨h1, h2⟩]
      obtain ⟨b, rfl, hb1, hb2⟩ := isLet_form h1
      have hr1 := run_byte0 (s := ⟨#[b]⟩) (b := b) rfl
      go_enter Try.func16, Try.ntmps16
      go_wp2_with (first | (go_at_call 43; refine (l02Letter_any _ _ (by omega)).mono ?_; rintro e w1 ⟨rfl, rfl⟩) | (go_at_call 44; refine (l00In_any _ _ _ _).mono ?_; rintro e w1 ⟨rfl, rfl⟩) | (go_at_call 45; refine (l10Rule_any _ b _ (by omega)).mono ?_; rintro e w1 ⟨rfl, hb⟩; have hsz := hb.size; obtain ⟨hcw, hfw⟩ := bcell hb))
      go_ret2
      exact ⟨by rw [HR0.out]; rfl, by (repeat first | exact Below.refl _ _ | (refine Below.alloc ?_ (by go_size) _) | (refine Below.step ?_ (by assumption)))⟩
    · have HR0 : Hid (ruleLine s n = (⟨#[]⟩, 2)) := by unfold Hid ruleLine; rw [if_neg (fun e => h2 e.2)]
      replace h2 : inB n 1 100 = false := by simpa using h2
      go_enter Try.func16, Try.ntmps16
      go_wp2_with (first | (go_at_call 43; refine (l02Letter_any _ s (by omega)).mono ?_; rintro e w1 ⟨rfl, rfl⟩) | (go_at_call 44; refine (l00In_any _ _ _ _).mono ?_; rintro e w1 ⟨rfl, rfl⟩))
      go_ret2
      exact ⟨by rw [HR0.out]; rfl, Below.refl _ _⟩
  · have HR0 : Hid (ruleLine s n = (⟨#[]⟩, 2)) := by unfold Hid ruleLine; rw [if_neg (fun e => h1 e.1)]
    replace h1 : isLet s = false := by simpa using h1
    go_enter Try.func16, Try.ntmps16
    go_wp2_with (go_at_call 43; refine (l02Letter_any _ s (by omega)).mono ?_; rintro e w1 ⟨rfl, rfl⟩)
    go_ret2
    exact ⟨by rw [HR0.out]; rfl, Below.refl _ _⟩
theorem RuleLine_i (w : World) (s : ByteArray) (n : Int) (hs : s.size ≤ 1048576) :
    Calls Try.prog 17 #[.string s, .int .i64 n] w fun e w' => e = .returned (.tuple #[.string (ruleLine s n).1, .int .i64 (ruleLine s n).2]) ∧ Below w.heap.size w w' := by
  by_cases h1 : isLet s = true
  · by_cases h2 : inB n 1 100 = true
    · have h2' := inB_iff.1 h2
      have HR0 : Hid (ruleLine s n = (runs ((by_ s).headD 0) n, 0)) := by unfold Hid ruleLine; rw [if_pos ⟨h1, h2⟩]
      obtain ⟨b, rfl, hb1, hb2⟩ := isLet_form h1
      have hr1 := run_byte0 (s := ⟨#[b]⟩) (b := b) rfl
      go_enter Try.func17, Try.ntmps17
      go_wp2_with (first | (go_at_call 46; refine (isLetter_any _ _ (by omega)).mono ?_; rintro e w1 ⟨rfl, rfl⟩) | (go_at_call 47; refine (isWidth_any _ _).mono ?_; rintro e w1 ⟨rfl, rfl⟩) | (go_at_call 48; refine (repeat_any _ b _ (by omega)).mono ?_; rintro e w1 ⟨rfl, hb⟩; have hsz := hb.size; obtain ⟨hcw, hfw⟩ := bcell hb))
      go_ret2
      exact ⟨by rw [HR0.out]; rfl, by (repeat first | exact Below.refl _ _ | (refine Below.alloc ?_ (by go_size) _) | (refine Below.step ?_ (by assumption)))⟩
    · have HR0 : Hid (ruleLine s n = (⟨#[]⟩, 2)) := by unfold Hid ruleLine; rw [if_neg (fun e => h2 e.2)]
      replace h2 : inB n 1 100 = false := by simpa using h2
      go_enter Try.func17, Try.ntmps17
      go_wp2_with (first | (go_at_call 46; refine (isLetter_any _ s (by omega)).mono ?_; rintro e w1 ⟨rfl, rfl⟩) | (go_at_call 47; refine (isWidth_any _ _).mono ?_; rintro e w1 ⟨rfl, rfl⟩))
      go_ret2
      exact ⟨by rw [HR0.out]; rfl, Below.refl _ _⟩
  · have HR0 : Hid (ruleLine s n = (⟨#[]⟩, 2)) := by unfold Hid ruleLine; rw [if_neg (fun e => h1 e.1)]
    replace h1 : isLet s = false := by simpa using h1
    go_enter Try.func17, Try.ntmps17
    go_wp2_with (go_at_call 46; refine (isLetter_any _ s (by omega)).mono ?_; rintro e w1 ⟨rfl, rfl⟩)
    go_ret2
    exact ⟨by rw [HR0.out]; rfl, Below.refl _ _⟩

/-! ### RightText, CentreText -/
def setCode (s : ByteArray) (n : Int) : Int := if isSet s = true ∧ inB n 1 100 = true then (if n < (s.size : Int) then 5 else 0) else 2
def rightText (s : ByteArray) (n : Int) : ByteArray × Int := if setCode s n = 0 then (runs 32 (n - s.size) ++ s, 0) else (⟨#[]⟩, setCode s n)
def centreText (s : ByteArray) (n : Int) : ByteArray × Int := if setCode s n = 0 then (runs 32 ((n - s.size) / 2) ++ s, 0) else (⟨#[]⟩, setCode s n)

theorem l10Code_any (w : World) (s : ByteArray) (n : Int) (hs : s.size ≤ 1048576) :
    Calls Try.prog 50 #[.string s, .int .i64 n] w fun e w' => e = .returned (.int .i64 (setCode s n)) ∧ w = w' := by
  by_cases h1 : isSet s = true
  · by_cases h2 : inB n 1 100 = true
    · by_cases h3 : n < (s.size : Int)
      · have HR0 : Hid (setCode s n = 5) := by unfold Hid setCode; rw [if_pos ⟨h1, h2⟩, if_pos h3]
        go_enter Try.func50, Try.ntmps50
        go_wp2_with (first | (go_at_call 41; refine (l10Text_any _ s (by omega)).mono ?_; rintro e w1 ⟨rfl, rfl⟩) | (go_at_call 44; refine (l00In_any _ _ _ _).mono ?_; rintro e w1 ⟨rfl, rfl⟩))
        go_ret
        exact ⟨ret_int HR0.out.symm, rfl⟩
      · have HR0 : Hid (setCode s n = 0) := by unfold Hid setCode; rw [if_pos ⟨h1, h2⟩, if_neg h3]
        go_enter Try.func50, Try.ntmps50
        go_wp2_with (first | (go_at_call 41; refine (l10Text_any _ s (by omega)).mono ?_; rintro e w1 ⟨rfl, rfl⟩) | (go_at_call 44; refine (l00In_any _ _ _ _).mono ?_; rintro e w1 ⟨rfl, rfl⟩))
        go_ret
        exact ⟨ret_int HR0.out.symm, rfl⟩
    · have HR0 : Hid (setCode s n = 2) := by unfold Hid setCode; rw [if_neg (fun e => h2 e.2)]
      replace h2 : inB n 1 100 = false := by simpa using h2
      go_enter Try.func50, Try.ntmps50
      go_wp2_with (first | (go_at_call 41; refine (l10Text_any _ s (by omega)).mono ?_; rintro e w1 ⟨rfl, rfl⟩) | (go_at_call 44; refine (l00In_any _ _ _ _).mono ?_; rintro e w1 ⟨rfl, rfl⟩))
      go_ret
      exact ⟨ret_int HR0.out.symm, rfl⟩
  · have HR0 : Hid (setCode s n = 2) := by unfold Hid setCode; rw [if_neg (fun e => h1 e.1)]
    replace h1 : isSet s = false := by simpa using h1
    go_enter Try.func50, Try.ntmps50
    go_wp2_with (first | (go_at_call 41; refine (l10Text_any _ s (by omega)).mono ?_; rintro e w1 ⟨rfl, rfl⟩) | (go_at_call 44; refine (l00In_any _ _ _ _).mono ?_; rintro e w1 ⟨rfl, rfl⟩))
    go_ret
    exact ⟨ret_int HR0.out.symm, rfl⟩
theorem setCode_bd {s : ByteArray} {n : Int} (h : setCode s n = 0) : (s.size : Int) ≤ n ∧ 1 ≤ n ∧ n ≤ 100 := by
  unfold setCode at h
  split at h
  · rename_i h1
    have := inB_iff.1 h1.2
    split at h
    · omega
    · omega
  · omega

theorem RightText_s (w : World) (s : ByteArray) (n : Int) (hs : s.size ≤ 1048576) :
    Calls Try.prog 26 #[.string s, .int .i64 n] w fun e w' => e = .returned (.tuple #[.string (rightText s n).1, .int .i64 (rightText s n).2]) ∧ Below w.heap.size w w' := by
  by_cases h1 : setCode s n = 0
  · have hbd := setCode_bd h1
    have HR0 : Hid (rightText s n = (runs 32 (n - (s.size : Int)) ++ s, 0)) := by unfold Hid rightText; rw [if_pos h1]
    have hsz : (runs 32 (n - (s.size : Int))).size ≤ 100 := by rw [runs_size]; omega
    go_enter Try.func26, Try.ntmps26
    go_wp2_with (first | (go_at_call 50; refine (l10Code_any _ s _ hs).mono ?_; rintro e w1 ⟨rfl, rfl⟩) | (go_at_call 51; refine (l08Blanks_any _ _ (by omega)).mono ?_; rintro e w1 ⟨rfl, hb⟩))
    go_ret2
    exact ⟨by rw [HR0.out]; rfl, by (repeat first | exact Below.refl _ _ | (refine Below.alloc ?_ (by go_size) _) | (refine Below.step ?_ (by assumption)))⟩
  · have HR0 : Hid (rightText s n = (⟨#[]⟩, setCode s n)) := by unfold Hid rightText; rw [if_neg h1]
    have h1b : (setCode s n != 0) = true := by simpa using h1
    go_enter Try.func26, Try.ntmps26
    go_wp2_with (go_at_call 50; refine (l10Code_any _ s _ hs).mono ?_; rintro e w1 ⟨rfl, rfl⟩)
    go_ret2
    exact ⟨by rw [HR0.out]; rfl, Below.refl _ _⟩
theorem CentreText_s (w : World) (s : ByteArray) (n : Int) (hs : s.size ≤ 1048576) :
    Calls Try.prog 28 #[.string s, .int .i64 n] w fun e w' => e = .returned (.tuple #[.string (centreText s n).1, .int .i64 (centreText s n).2]) ∧ Below w.heap.size w w' := by
  by_cases h1 : setCode s n = 0
  · have hbd := setCode_bd h1
    have HR0 : Hid (centreText s n = (runs 32 ((n - (s.size : Int)) / 2) ++ s, 0)) := by unfold Hid centreText; rw [if_pos h1]
    have hsz : (runs 32 ((n - (s.size : Int)) / 2)).size ≤ 100 := by rw [runs_size]; omega
    go_enter Try.func28, Try.ntmps28
    go_wp2_with (first | (go_at_call 50; refine (l10Code_any _ s _ hs).mono ?_; rintro e w1 ⟨rfl, rfl⟩) | (go_at_call 51; refine (l08Blanks_any _ _ (by omega)).mono ?_; rintro e w1 ⟨rfl, hb⟩))
    go_ret2
    exact ⟨by rw [HR0.out]; rfl, by (repeat first | exact Below.refl _ _ | (refine Below.alloc ?_ (by go_size) _) | (refine Below.step ?_ (by assumption)))⟩
  · have HR0 : Hid (centreText s n = (⟨#[]⟩, setCode s n)) := by unfold Hid centreText; rw [if_neg h1]
    have h1b : (setCode s n != 0) = true := by simpa using h1
    go_enter Try.func28, Try.ntmps28
    go_wp2_with (go_at_call 50; refine (l10Code_any _ s _ hs).mono ?_; rintro e w1 ⟨rfl, rfl⟩)
    go_ret2
    exact ⟨by rw [HR0.out]; rfl, Below.refl _ _⟩

theorem centred_any (w : World) (s : ByteArray) (room : Int) (hs : s.size ≤ 1048576) (h0 : 0 ≤ room) (h1 : room ≤ 100) :
    Calls Try.prog 52 #[.string s, .int .i64 room] w fun e w' => e = .returned (.string (runs 32 (room / 2) ++ s)) ∧ Below w.heap.size w w' := by
  have hsz : (runs 32 (room / 2)).size ≤ 100 := by rw [runs_size]; omega
  go_enter Try.func52, Try.ntmps52
  go_wp2_with (go_at_call 48; refine (repeat_any _ _ _ (by omega)).mono ?_; rintro e w1 ⟨rfl, hb⟩)
  go_ret
  exact ⟨rfl, hb⟩

theorem RightText_i (w : World) (s : ByteArray) (n : Int) (hs : s.size ≤ 1048576) :
    Calls Try.prog 27 #[.string s, .int .i64 n] w fun e w' => e = .returned (.tuple #[.string (rightText s n).1, .int .i64 (rightText s n).2]) ∧ Below w.heap.size w w' := by
  by_cases h1 : isSet s = true
  · have hs100 := isSet_size h1
    by_cases h2 : inB n 1 100 = true
    · have h2' := inB_iff.1 h2
      by_cases h3 : n < (s.size : Int)
      · have HR0 : Hid (rightText s n = (⟨#[]⟩, 5)) := by
          have e : setCode s n = 5 := by unfold setCode; rw [if_pos ⟨h1, h2⟩, if_pos h3]
          unfold Hid rightText; rw [e]; rfl
        go_enter Try.func27, Try.ntmps27
        go_wp2_with (first | (go_at_call 42; refine (isSetting_any _ s (by omega)).mono ?_; rintro e w1 ⟨rfl, rfl⟩) | (go_at_call 47; refine (isWidth_any _ _).mono ?_; rintro e w1 ⟨rfl, rfl⟩))
        go_ret2
        exact ⟨by rw [HR0.out]; rfl, Below.refl _ _⟩
      · have HR0 : Hid (rightText s n = (runs 32 (n - (s.size : Int)) ++ s, 0)) := by
          have e : setCode s n = 0 := by unfold setCode; rw [if_pos ⟨h1, h2⟩, if_neg h3]
          unfold Hid rightText; rw [e]; rfl
        have hsz : (runs 32 (n - (s.size : Int))).size ≤ 100 := by rw [runs_size]; omega
        go_enter Try.func27, Try.ntmps27
        go_wp2_with (first | (go_at_call 42; refine (isSetting_any _ s (by omega)).mono ?_; rintro e w1 ⟨rfl, rfl⟩) | (go_at_call 47; refine (isWidth_any _ _).mono ?_; rintro e w1 ⟨rfl, rfl⟩) | (go_at_call 48; refine (repeat_any _ _ _ (by omega)).mono ?_; rintro e w1 ⟨rfl, hb⟩))
        go_ret2
        exact ⟨by rw [HR0.out]; rfl, by (repeat first | exact Below.refl _ _ | (refine Below.alloc ?_ (by go_size) _) | (refine Below.step ?_ (by assumption)))⟩
    · have HR0 : Hid (rightText s n = (⟨#[]⟩, 2)) := by
        have e : setCode s n = 2 := by unfold setCode; rw [if_neg (fun e => h2 e.2)]
        unfold Hid rightText; rw [e]; rfl
      replace h2 : inB n 1 100 = false := by simpa using h2
      go_enter Try.func27, Try.ntmps27
      go_wp2_with (first | (go_at_call 42; refine (isSetting_any _ s (by omega)).mono ?_; rintro e w1 ⟨rfl, rfl⟩) | (go_at_call 47; refine (isWidth_any _ _).mono ?_; rintro e w1 ⟨rfl, rfl⟩))
      go_ret2
      exact ⟨by rw [HR0.out]; rfl, Below.refl _ _⟩
  · have HR0 : Hid (rightText s n = (⟨#[]⟩, 2)) := by
      have e : setCode s n = 2 := by unfold setCode; rw [if_neg (fun e => h1 e.1)]
      unfold Hid rightText; rw [e]; rfl
    replace h1 : isSet s = false := by simpa using h1
    go_enter Try.func27, Try.ntmps27
    go_wp2_with (first | (go_at_call 42; refine (isSetting_any _ s (by omega)).mono ?_; rintro e w1 ⟨rfl, rfl⟩) | (go_at_call 47; refine (isWidth_any _ _).mono ?_; rintro e w1 ⟨rfl, rfl⟩))
    go_ret2
    exact ⟨by rw [HR0.out]; rfl, Below.refl _ _⟩
theorem CentreText_i (w : World) (s : ByteArray) (n : Int) (hs : s.size ≤ 1048576) :
    Calls Try.prog 29 #[.string s, .int .i64 n] w fun e w' => e = .returned (.tuple #[.string (centreText s n).1, .int .i64 (centreText s n).2]) ∧ Below w.heap.size w w' := by
  by_cases h1 : isSet s = true
  · have hs100 := isSet_size h1
    by_cases h2 : inB n 1 100 = true
    · have h2' := inB_iff.1 h2
      by_cases h3 : n < (s.size : Int)
      · have HR0 : Hid (centreText s n = (⟨#[]⟩, 5)) := by
          have e : setCode s n = 5 := by unfold setCode; rw [if_pos ⟨h1, h2⟩, if_pos h3]
          unfold Hid centreText; rw [e]; rfl
        go_enter Try.func29, Try.ntmps29
        go_wp2_with (first | (go_at_call 42; refine (isSetting_any _ s (by omega)).mono ?_; rintro e w1 ⟨rfl, rfl⟩) | (go_at_call 47; refine (isWidth_any _ _).mono ?_; rintro e w1 ⟨rfl, rfl⟩))
        go_ret2
        exact ⟨by rw [HR0.out]; rfl, Below.refl _ _⟩
      · have HR0 : Hid (centreText s n = (runs 32 ((n - (s.size : Int)) / 2) ++ s, 0)) := by
          have e : setCode s n = 0 := by unfold setCode; rw [if_pos ⟨h1, h2⟩, if_neg h3]
          unfold Hid centreText; rw [e]; rfl
        have hsz : (runs 32 ((n - (s.size : Int)) / 2)).size ≤ 100 := by rw [runs_size]; omega
        go_enter Try.func29, Try.ntmps29
        go_wp2_with (first | (go_at_call 42; refine (isSetting_any _ s (by omega)).mono ?_; rintro e w1 ⟨rfl, rfl⟩) | (go_at_call 47; refine (isWidth_any _ _).mono ?_; rintro e w1 ⟨rfl, rfl⟩) | (go_at_call 52; refine (centred_any _ _ _ hs (by omega) (by omega)).mono ?_; rintro e w1 ⟨rfl, hb⟩))
        go_ret2
        exact ⟨by rw [HR0.out]; rfl, by (repeat first | exact Below.refl _ _ | (refine Below.alloc ?_ (by go_size) _) | (refine Below.step ?_ (by assumption)))⟩
    · have HR0 : Hid (centreText s n = (⟨#[]⟩, 2)) := by
        have e : setCode s n = 2 := by unfold setCode; rw [if_neg (fun e => h2 e.2)]
        unfold Hid centreText; rw [e]; rfl
      replace h2 : inB n 1 100 = false := by simpa using h2
      go_enter Try.func29, Try.ntmps29
      go_wp2_with (first | (go_at_call 42; refine (isSetting_any _ s (by omega)).mono ?_; rintro e w1 ⟨rfl, rfl⟩) | (go_at_call 47; refine (isWidth_any _ _).mono ?_; rintro e w1 ⟨rfl, rfl⟩))
      go_ret2
      exact ⟨by rw [HR0.out]; rfl, Below.refl _ _⟩
  · have HR0 : Hid (centreText s n = (⟨#[]⟩, 2)) := by
      have e : setCode s n = 2 := by unfold setCode; rw [if_neg (fun e => h1 e.1)]
      unfold Hid centreText; rw [e]; rfl
    replace h1 : isSet s = false := by simpa using h1
    go_enter Try.func29, Try.ntmps29
    go_wp2_with (first | (go_at_call 42; refine (isSetting_any _ s (by omega)).mono ?_; rintro e w1 ⟨rfl, rfl⟩) | (go_at_call 47; refine (isWidth_any _ _).mono ?_; rintro e w1 ⟨rfl, rfl⟩))
    go_ret2
    exact ⟨by rw [HR0.out]; rfl, Below.refl _ _⟩
end Go.Proofs.Ytdfopdjldlogeaa
