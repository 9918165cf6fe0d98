/-
  The contracts of the functions of copies (carbon, ways): what each returns, for all arguments.
-/
import Derived.Test.YtogpplaccnlnmaaBase
namespace Go.Proofs.Ytogpplaccnlnmaa
open Go.RowKit

theorem l00In_any (n lo hi : Int) (w : World) :
    Calls Try.prog 25 #[.int .i64 n, .int .i64 lo, .int .i64 hi] w fun e w' => e = .returned (.bool (inB n lo hi)) ∧ w = w' := by
  go_enter Try.func25, Try.ntmps25
  go_wp2
  all_goals go_ret
  all_goals (refine ⟨?_, rfl⟩; simp [inB]; try omega)

theorem between_any (n lo hi : Int) (w : World) :
    Calls Try.prog 21 #[.int .i64 n, .int .i64 lo, .int .i64 hi] w fun e w' => e = .returned (.bool (inB n lo hi)) ∧ w = w' := by
  go_enter Try.func21, Try.ntmps21
  go_wp2
  all_goals go_ret
  all_goals (refine ⟨?_, rfl⟩; simp [inB]; try omega)

theorem l00Max_any (a b : Int) (w : World) :
    Calls Try.prog 26 #[.int .i64 a, .int .i64 b] w fun e w' => e = .returned (.int .i64 (max a b)) ∧ w = w' := by
  go_enter Try.func26, Try.ntmps26
  go_wp2
  all_goals go_ret
  all_goals (refine ⟨ret_int ?_, rfl⟩; omega)

theorem l00Min_any (a b : Int) (w : World) :
    Calls Try.prog 28 #[.int .i64 a, .int .i64 b] w fun e w' => e = .returned (.int .i64 (min a b)) ∧ w = w' := by
  go_enter Try.func28, Try.ntmps28
  go_wp2
  all_goals go_ret
  all_goals (refine ⟨ret_int ?_, rfl⟩; omega)

/-! ### ValidCarbon -/
def okCarbon (f l m : Int) : Bool := inB f 1 1000 && inB l 1 1000 && inB m 1 f
theorem okCarbon_iff {f l m : Int} : okCarbon f l m = true ↔ (1 ≤ f ∧ f ≤ 1000) ∧ (1 ≤ l ∧ l ≤ 1000) ∧ 1 ≤ m ∧ m ≤ f := by
  simp [okCarbon, inB_iff, and_assoc]

theorem l13Ok_any (f l m : Int) (w : World) :
    Calls Try.prog 20 #[.agg #[.int .i64 f, .int .i64 l, .int .i64 m]] w fun e w' => e = .returned (.bool (okCarbon f l m)) ∧ Below w.heap.size w w' := by
  go_enter Try.func20, Try.ntmps20
  go_wp2_with (go_at_call 25; refine (l00In_any _ _ _ _).mono ?_; rintro e w1 ⟨rfl, rfl⟩)
  all_goals go_ret
  all_goals (refine ⟨?_, by (repeat first | exact Below.refl _ _ | (refine Below.alloc ?_ (by go_size) _) | (refine Below.step ?_ (by assumption)))⟩; simp [okCarbon, *])

theorem ValidCarbon_s (f l m : Int) (w : World) :
    Calls Try.prog 8 #[.agg #[.int .i64 f, .int .i64 l, .int .i64 m]] w fun e w' => e = .returned (.bool (okCarbon f l m)) ∧ Below w.heap.size w w' := by
  go_enter Try.func8, Try.ntmps8
  go_wp2_with (go_at_call 20; refine (l13Ok_any _ _ _ _).mono ?_; rintro e w1 ⟨rfl, hb⟩; have hsz := hb.size; obtain ⟨hcw, hfw⟩ := bcell hb)
  go_ret
  exact ⟨rfl, by (repeat first | exact Below.refl _ _ | (refine Below.alloc ?_ (by go_size) _) | (refine Below.step ?_ (by assumption)))⟩

theorem ValidCarbon_i (f l m : Int) (w : World) :
    Calls Try.prog 10 #[.agg #[.int .i64 f, .int .i64 l, .int .i64 m]] w fun e w' => e = .returned (.bool (okCarbon f l m)) ∧ Below w.heap.size w w' := by
  go_enter Try.func10, Try.ntmps10
  go_wp2_with (go_at_call 21; refine (between_any _ _ _ _).mono ?_; rintro e w1 ⟨rfl, rfl⟩)
  all_goals go_ret
  all_goals (refine ⟨ret_bool ?_, by (repeat first | exact Below.refl _ _ | (refine Below.alloc ?_ (by go_size) _) | (refine Below.step ?_ (by assumption)))⟩; rw [Bool.eq_iff_iff]; simp [okCarbon, inB_iff] at *; omega)

theorem toCarbon_any (f l m : Int) (w : World) :
    Calls Try.prog 9 #[.agg #[.int .i64 f, .int .i64 l, .int .i64 m]] w fun e w' => e = .returned (.agg #[.int .i64 f, .int .i64 l, .int .i64 m]) ∧ Below w.heap.size w w' := by
  go_enter Try.func9, Try.ntmps9
  go_wp2
  go_returns
  exact ⟨rfl, by (repeat first | exact Below.refl _ _ | (refine Below.alloc ?_ (by go_size) _) | (refine Below.step ?_ (by assumption)))⟩

/-! ### StrengthAt -/
def strengthAt (f l m s : Int) : Int × Int :=
  if okCarbon f l m = true then (if inB s 0 11 = true then (max (f - s * l) 0, 0) else (0, 2)) else (0, 1)

theorem mul_bd {s l : Int} (h1 : 0 ≤ s) (h2 : s ≤ 11) (h3 : 1 ≤ l) (h4 : l ≤ 1000) : 0 ≤ s * l ∧ s * l ≤ 11000 :=
  ⟨Int.mul_nonneg h1 (by omega), by have := Int.mul_le_mul h2 h4 (by omega) (by omega); omega⟩

def good (f l m : Int) : Int := min ((f - m) / l + 1) 12
theorem div_bd {f l m : Int} (h1 : m ≤ f) (h2 : f ≤ 1000) (h3 : 1 ≤ m) (h4 : 1 ≤ l) : 0 ≤ (f - m) / l ∧ (f - m) / l ≤ 1000 :=
  ⟨Int.ediv_nonneg (by omega) (by omega), by have := Int.ediv_le_self (a := f - m) l (by omega); omega⟩

theorem StrengthAt_s (f l m s : Int) (w : World) :
    Calls Try.prog 16 #[.agg #[.int .i64 f, .int .i64 l, .int .i64 m], .int .i64 s] w fun e w' =>
      e = .returned (.tuple #[.int .i64 (strengthAt f l m s).1, .int .i64 (strengthAt f l m s).2]) ∧ Below w.heap.size w w' := by
  by_cases hv : okCarbon f l m = true
  · have hc := okCarbon_iff.1 hv
    by_cases hs : inB s 0 11 = true
    · have hd := inB_iff.1 hs
      have hm := mul_bd hd.1 hd.2 hc.2.1.1 hc.2.1.2
      go_enter Try.func16, Try.ntmps16
      go_wp2_with (first | (go_at_call 20; refine (l13Ok_any _ _ _ _).mono ?_; rintro e w1 ⟨rfl, hb⟩; have hsz := hb.size; obtain ⟨hcw, hfw⟩ := bcell hb) | (go_at_call 25; refine (l00In_any _ _ _ _).mono ?_; rintro e w1 ⟨rfl, rfl⟩) | (go_at_call 26; refine (l00Max_any _ _ _).mono ?_; rintro e w1 ⟨rfl, rfl⟩))
      all_goals go_ret2
      all_goals exact ⟨ret_ii (by simp [strengthAt, *]; try omega) (by simp [strengthAt, *]), by (repeat first | exact Below.refl _ _ | (refine Below.alloc ?_ (by go_size) _) | (refine Below.step ?_ (by assumption)))⟩
    · go_enter Try.func16, Try.ntmps16
      go_wp2_with (first | (go_at_call 20; refine (l13Ok_any _ _ _ _).mono ?_; rintro e w1 ⟨rfl, hb⟩; have hsz := hb.size; obtain ⟨hcw, hfw⟩ := bcell hb) | (go_at_call 25; refine (l00In_any _ _ _ _).mono ?_; rintro e w1 ⟨rfl, rfl⟩))
      go_ret2
      exact ⟨ret_ii (by simp [strengthAt, *]) (by simp [strengthAt, *]), by (repeat first | exact Below.refl _ _ | (refine Below.alloc ?_ (by go_size) _) | (refine Below.step ?_ (by assumption)))⟩
  · go_enter Try.func16, Try.ntmps16
    go_wp2_with (first | (go_at_call 20; refine (l13Ok_any _ _ _ _).mono ?_; rintro e w1 ⟨rfl, hb⟩; have hsz := hb.size; obtain ⟨hcw, hfw⟩ := bcell hb) | (go_at_call 25; refine (l00In_any _ _ _ _).mono ?_; rintro e w1 ⟨rfl, rfl⟩))
    go_ret2
    exact ⟨ret_ii (by simp [strengthAt, *]) (by simp [strengthAt, *]), by (repeat first | exact Below.refl _ _ | (refine Below.alloc ?_ (by go_size) _) | (refine Below.step ?_ (by assumption)))⟩
theorem StrengthAt_i (f l m s : Int) (w : World) :
    Calls Try.prog 17 #[.agg #[.int .i64 f, .int .i64 l, .int .i64 m], .int .i64 s] w fun e w' =>
      e = .returned (.tuple #[.int .i64 (strengthAt f l m s).1, .int .i64 (strengthAt f l m s).2]) ∧ Below w.heap.size w w' := by
  by_cases hv : okCarbon f l m = true
  · have hc := okCarbon_iff.1 hv
    by_cases hs : inB s 0 11 = true
    · have hd := inB_iff.1 hs
      have hm := mul_bd hd.1 hd.2 hc.2.1.1 hc.2.1.2
      go_enter Try.func17, Try.ntmps17
      go_wp2_with (first | (go_at_call 10; refine (ValidCarbon_i _ _ _ _).mono ?_; rintro e w1 ⟨rfl, hb⟩; have hsz := hb.size; obtain ⟨hcw, hfw⟩ := bcell hb) | (go_at_call 21; refine (between_any _ _ _ _).mono ?_; rintro e w1 ⟨rfl, rfl⟩) | (go_at_call 26; refine (l00Max_any _ _ _).mono ?_; rintro e w1 ⟨rfl, rfl⟩))
      all_goals go_ret2
      all_goals exact ⟨ret_ii (by simp [strengthAt, *]; try omega) (by simp [strengthAt, *]), by (repeat first | exact Below.refl _ _ | (refine Below.alloc ?_ (by go_size) _) | (refine Below.step ?_ (by assumption)))⟩
    · go_enter Try.func17, Try.ntmps17
      go_wp2_with (first | (go_at_call 10; refine (ValidCarbon_i _ _ _ _).mono ?_; rintro e w1 ⟨rfl, hb⟩; have hsz := hb.size; obtain ⟨hcw, hfw⟩ := bcell hb) | (go_at_call 21; refine (between_any _ _ _ _).mono ?_; rintro e w1 ⟨rfl, rfl⟩))
      go_ret2
      exact ⟨ret_ii (by simp [strengthAt, *]) (by simp [strengthAt, *]), by (repeat first | exact Below.refl _ _ | (refine Below.alloc ?_ (by go_size) _) | (refine Below.step ?_ (by assumption)))⟩
  · go_enter Try.func17, Try.ntmps17
    go_wp2_with (first | (go_at_call 10; refine (ValidCarbon_i _ _ _ _).mono ?_; rintro e w1 ⟨rfl, hb⟩; have hsz := hb.size; obtain ⟨hcw, hfw⟩ := bcell hb) | (go_at_call 21; refine (between_any _ _ _ _).mono ?_; rintro e w1 ⟨rfl, rfl⟩))
    go_ret2
    exact ⟨ret_ii (by simp [strengthAt, *]) (by simp [strengthAt, *]), by (repeat first | exact Below.refl _ _ | (refine Below.alloc ?_ (by go_size) _) | (refine Below.step ?_ (by assumption)))⟩

/-! ### GoodCopies -/
def goodCopies (f l m : Int) : Int × Int := if okCarbon f l m = true then (good f l m, 0) else (0, 1)

theorem l13Good_any (f l m : Int) (w : World) (hv : okCarbon f l m = true) :
    Calls Try.prog 23 #[.agg #[.int .i64 f, .int .i64 l, .int .i64 m]] w fun e w' => e = .returned (.int .i64 (good f l m)) ∧ Below w.heap.size w w' := by
  obtain ⟨⟨h1, h2⟩, ⟨h3, h4⟩, h5, h6⟩ := okCarbon_iff.1 hv
  have hd := div_bd h6 h2 h5 h3
  clear hv
  go_enter Try.func23, Try.ntmps23
  go_wp2_with (go_at_call 28; refine (l00Min_any _ _ _).mono ?_; rintro e w1 ⟨rfl, rfl⟩)
  go_ret
  exact ⟨ret_int (by unfold good; omega), by (repeat first | exact Below.refl _ _ | (refine Below.alloc ?_ (by go_size) _) | (refine Below.step ?_ (by assumption)))⟩

theorem good_any (f l m : Int) (w : World) (hv : okCarbon f l m = true) :
    Calls Try.prog 24 #[.agg #[.int .i64 f, .int .i64 l, .int .i64 m]] w fun e w' => e = .returned (.int .i64 (good f l m)) ∧ Below w.heap.size w w' := by
  obtain ⟨⟨h1, h2⟩, ⟨h3, h4⟩, h5, h6⟩ := okCarbon_iff.1 hv
  have hd := div_bd h6 h2 h5 h3
  clear hv
  go_enter Try.func24, Try.ntmps24
  go_wp2
  all_goals go_ret
  all_goals exact ⟨ret_int (by unfold good; omega), by (repeat first | exact Below.refl _ _ | (refine Below.alloc ?_ (by go_size) _) | (refine Below.step ?_ (by assumption)))⟩

theorem GoodCopies_s (f l m : Int) (w : World) :
    Calls Try.prog 14 #[.agg #[.int .i64 f, .int .i64 l, .int .i64 m]] w fun e w' =>
      e = .returned (.tuple #[.int .i64 (goodCopies f l m).1, .int .i64 (goodCopies f l m).2]) ∧ Below w.heap.size w w' := by
  by_cases hv : okCarbon f l m = true
  · go_enter Try.func14, Try.ntmps14
    go_wp2_with (first | (go_at_call 20; refine (l13Ok_any _ _ _ _).mono ?_; rintro e w1 ⟨rfl, hb⟩; have hsz := hb.size; obtain ⟨hcw, hfw⟩ := bcell hb) | (go_at_call 23; refine (l13Good_any _ _ _ _ hv).mono ?_; rintro e w1 ⟨rfl, hb⟩; have hsz := hb.size; obtain ⟨hcw, hfw⟩ := bcell hb))
    go_ret2
    exact ⟨ret_ii (by simp [goodCopies, *]) (by simp [goodCopies, *]), by (repeat first | exact Below.refl _ _ | (refine Below.alloc ?_ (by go_size) _) | (refine Below.step ?_ (by assumption)))⟩
  · go_enter Try.func14, Try.ntmps14
    go_wp2_with (first | (go_at_call 20; refine (l13Ok_any _ _ _ _).mono ?_; rintro e w1 ⟨rfl, hb⟩; have hsz := hb.size; obtain ⟨hcw, hfw⟩ := bcell hb))
    go_ret2
    exact ⟨ret_ii (by simp [goodCopies, *]) (by simp [goodCopies, *]), by (repeat first | exact Below.refl _ _ | (refine Below.alloc ?_ (by go_size) _) | (refine Below.step ?_ (by assumption)))⟩
theorem GoodCopies_i (f l m : Int) (w : World) :
    Calls Try.prog 15 #[.agg #[.int .i64 f, .int .i64 l, .int .i64 m]] w fun e w' =>
      e = .returned (.tuple #[.int .i64 (goodCopies f l m).1, .int .i64 (goodCopies f l m).2]) ∧ Below w.heap.size w w' := by
  by_cases hv : okCarbon f l m = true
  · go_enter Try.func15, Try.ntmps15
    go_wp2_with (first | (go_at_call 10; refine (ValidCarbon_i _ _ _ _).mono ?_; rintro e w1 ⟨rfl, hb⟩; have hsz := hb.size; obtain ⟨hcw, hfw⟩ := bcell hb) | (go_at_call 24; refine (good_any _ _ _ _ hv).mono ?_; rintro e w1 ⟨rfl, hb⟩; have hsz := hb.size; obtain ⟨hcw, hfw⟩ := bcell hb))
    go_ret2
    exact ⟨ret_ii (by simp [goodCopies, *]) (by simp [goodCopies, *]), by (repeat first | exact Below.refl _ _ | (refine Below.alloc ?_ (by go_size) _) | (refine Below.step ?_ (by assumption)))⟩
  · go_enter Try.func15, Try.ntmps15
    go_wp2_with (first | (go_at_call 10; refine (ValidCarbon_i _ _ _ _).mono ?_; rintro e w1 ⟨rfl, hb⟩; have hsz := hb.size; obtain ⟨hcw, hfw⟩ := bcell hb))
    go_ret2
    exact ⟨ret_ii (by simp [goodCopies, *]) (by simp [goodCopies, *]), by (repeat first | exact Below.refl _ _ | (refine Below.alloc ?_ (by go_size) _) | (refine Below.step ?_ (by assumption)))⟩

/-! ### ForceFor -/
def forceFor (f l m c : Int) : Int × Int :=
  if okCarbon f l m = true then (if inB c 1 12 = true then (if 1000 < m + (c - 1) * l then (0, 5) else (m + (c - 1) * l, 0)) else (0, 2)) else (0, 1)
theorem ForceFor_s (f l m s : Int) (w : World) :
    Calls Try.prog 18 #[.agg #[.int .i64 f, .int .i64 l, .int .i64 m], .int .i64 s] w fun e w' =>
      e = .returned (.tuple #[.int .i64 (forceFor f l m s).1, .int .i64 (forceFor f l m s).2]) ∧ Below w.heap.size w w' := by
  by_cases hv : okCarbon f l m = true
  · have hc := okCarbon_iff.1 hv
    by_cases hs : inB s 1 12 = true
    · have hd := inB_iff.1 hs
      have hm := mul_bd (s := s - 1) (by omega) (by omega) hc.2.1.1 hc.2.1.2
      by_cases h9 : 1000 < m + (s - 1) * l
      · have HR0 : Hid (forceFor f l m s = (0, 5)) := by unfold Hid forceFor; rw [if_pos hv, if_pos hs, if_pos h9]
        go_enter Try.func18, Try.ntmps18
        go_wp2_with (first | (go_at_call 20; refine (l13Ok_any _ _ _ _).mono ?_; rintro e w1 ⟨rfl, hb⟩; have hsz := hb.size; obtain ⟨hcw, hfw⟩ := bcell hb) | (go_at_call 25; refine (l00In_any _ _ _ _).mono ?_; rintro e w1 ⟨rfl, rfl⟩))
        go_ret2
        exact ⟨by rw [HR0.out]; rfl, by (repeat first | exact Below.refl _ _ | (refine Below.alloc ?_ (by go_size) _) | (refine Below.step ?_ (by assumption)))⟩
      · have HR0 : Hid (forceFor f l m s = (m + (s - 1) * l, 0)) := by unfold Hid forceFor; rw [if_pos hv, if_pos hs, if_neg h9]
        go_enter Try.func18, Try.ntmps18
        go_wp2_with (first | (go_at_call 20; refine (l13Ok_any _ _ _ _).mono ?_; rintro e w1 ⟨rfl, hb⟩; have hsz := hb.size; obtain ⟨hcw, hfw⟩ := bcell hb) | (go_at_call 25; refine (l00In_any _ _ _ _).mono ?_; rintro e w1 ⟨rfl, rfl⟩))
        go_ret2
        exact ⟨by rw [HR0.out]; rfl, by (repeat first | exact Below.refl _ _ | (refine Below.alloc ?_ (by go_size) _) | (refine Below.step ?_ (by assumption)))⟩
    · go_enter Try.func18, Try.ntmps18
      go_wp2_with (first | (go_at_call 20; refine (l13Ok_any _ _ _ _).mono ?_; rintro e w1 ⟨rfl, hb⟩; have hsz := hb.size; obtain ⟨hcw, hfw⟩ := bcell hb) | (go_at_call 25; refine (l00In_any _ _ _ _).mono ?_; rintro e w1 ⟨rfl, rfl⟩))
      go_ret2
      exact ⟨ret_ii (by simp [forceFor, *]) (by simp [forceFor, *]), by (repeat first | exact Below.refl _ _ | (refine Below.alloc ?_ (by go_size) _) | (refine Below.step ?_ (by assumption)))⟩
  · go_enter Try.func18, Try.ntmps18
    go_wp2_with (first | (go_at_call 20; refine (l13Ok_any _ _ _ _).mono ?_; rintro e w1 ⟨rfl, hb⟩; have hsz := hb.size; obtain ⟨hcw, hfw⟩ := bcell hb) | (go_at_call 25; refine (l00In_any _ _ _ _).mono ?_; rintro e w1 ⟨rfl, rfl⟩))
    go_ret2
    exact ⟨ret_ii (by simp [forceFor, *]) (by simp [forceFor, *]), by (repeat first | exact Below.refl _ _ | (refine Below.alloc ?_ (by go_size) _) | (refine Below.step ?_ (by assumption)))⟩
theorem ForceFor_i (f l m s : Int) (w : World) :
    Calls Try.prog 19 #[.agg #[.int .i64 f, .int .i64 l, .int .i64 m], .int .i64 s] w fun e w' =>
      e = .returned (.tuple #[.int .i64 (forceFor f l m s).1, .int .i64 (forceFor f l m s).2]) ∧ Below w.heap.size w w' := by
  by_cases hv : okCarbon f l m = true
  · have hc := okCarbon_iff.1 hv
    by_cases hs : inB s 1 12 = true
    · have hd := inB_iff.1 hs
      have hm := mul_bd (s := s - 1) (by omega) (by omega) hc.2.1.1 hc.2.1.2
      by_cases h9 : 1000 < m + (s - 1) * l
      · have HR0 : Hid (forceFor f l m s = (0, 5)) := by unfold Hid forceFor; rw [if_pos hv, if_pos hs, if_pos h9]
        go_enter Try.func19, Try.ntmps19
        go_wp2_with (first | (go_at_call 10; refine (ValidCarbon_i _ _ _ _).mono ?_; rintro e w1 ⟨rfl, hb⟩; have hsz := hb.size; obtain ⟨hcw, hfw⟩ := bcell hb) | (go_at_call 21; refine (between_any _ _ _ _).mono ?_; rintro e w1 ⟨rfl, rfl⟩))
        go_ret2
        exact ⟨by rw [HR0.out]; rfl, by (repeat first | exact Below.refl _ _ | (refine Below.alloc ?_ (by go_size) _) | (refine Below.step ?_ (by assumption)))⟩
      · have HR0 : Hid (forceFor f l m s = (m + (s - 1) * l, 0)) := by unfold Hid forceFor; rw [if_pos hv, if_pos hs, if_neg h9]
        go_enter Try.func19, Try.ntmps19
        go_wp2_with (first | (go_at_call 10; refine (ValidCarbon_i _ _ _ _).mono ?_; rintro e w1 ⟨rfl, hb⟩; have hsz := hb.size; obtain ⟨hcw, hfw⟩ := bcell hb) | (go_at_call 21; refine (between_any _ _ _ _).mono ?_; rintro e w1 ⟨rfl, rfl⟩))
        go_ret2
        exact ⟨by rw [HR0.out]; rfl, by (repeat first | exact Below.refl _ _ | (refine Below.alloc ?_ (by go_size) _) | (refine Below.step ?_ (by assumption)))⟩
    · go_enter Try.func19, Try.ntmps19
      go_wp2_with (first | (go_at_call 10; refine (ValidCarbon_i _ _ _ _).mono ?_; rintro e w1 ⟨rfl, hb⟩; have hsz := hb.size; obtain ⟨hcw, hfw⟩ := bcell hb) | (go_at_call 21; refine (between_any _ _ _ _).mono ?_; rintro e w1 ⟨rfl, rfl⟩))
      go_ret2
      exact ⟨ret_ii (by simp [forceFor, *]) (by simp [forceFor, *]), by (repeat first | exact Below.refl _ _ | (refine Below.alloc ?_ (by go_size) _) | (refine Below.step ?_ (by assumption)))⟩
  · go_enter Try.func19, Try.ntmps19
    go_wp2_with (first | (go_at_call 10; refine (ValidCarbon_i _ _ _ _).mono ?_; rintro e w1 ⟨rfl, hb⟩; have hsz := hb.size; obtain ⟨hcw, hfw⟩ := bcell hb) | (go_at_call 21; refine (between_any _ _ _ _).mono ?_; rintro e w1 ⟨rfl, rfl⟩))
    go_ret2
    exact ⟨ret_ii (by simp [forceFor, *]) (by simp [forceFor, *]), by (repeat first | exact Below.refl _ _ | (refine Below.alloc ?_ (by go_size) _) | (refine Below.step ?_ (by assumption)))⟩

/-! ### ValidWays -/
def okWays (a b c d : Int) : Bool := inB a 1 10000 && inB b 1 10000 && inB c 1 10000 && inB d 1 10000
theorem l13Price_any (n : Int) (w : World) :
    Calls Try.prog 27 #[.int .i64 n] w fun e w' => e = .returned (.bool (inB n 1 10000)) ∧ w = w' := by
  go_enter Try.func27, Try.ntmps27
  go_wp2_with (go_at_call 25; refine (l00In_any _ _ _ _).mono ?_; rintro e w1 ⟨rfl, rfl⟩)
  go_ret
  exact ⟨rfl, rfl⟩
theorem l13Ways_any (a b c d : Int) (w : World) :
    Calls Try.prog 22 #[.agg #[.int .i64 a, .int .i64 b, .int .i64 c, .int .i64 d]] w fun e w' => e = .returned (.bool (okWays a b c d)) ∧ Below w.heap.size w w' := by
  go_enter Try.func22, Try.ntmps22
  go_wp2_with (go_at_call 27; refine (l13Price_any _ _).mono ?_; rintro e w1 ⟨rfl, rfl⟩)
  all_goals go_ret
  all_goals (refine ⟨?_, by (repeat first | exact Below.refl _ _ | (refine Below.alloc ?_ (by go_size) _) | (refine Below.step ?_ (by assumption)))⟩; simp [okWays, *])
theorem ValidWays_s (a b c d : Int) (w : World) :
    Calls Try.prog 11 #[.agg #[.int .i64 a, .int .i64 b, .int .i64 c, .int .i64 d]] w fun e w' => e = .returned (.bool (okWays a b c d)) ∧ Below w.heap.size w w' := by
  go_enter Try.func11, Try.ntmps11
  go_wp2_with (go_at_call 22; refine (l13Ways_any _ _ _ _ _).mono ?_; rintro e w1 ⟨rfl, hb⟩; have hsz := hb.size; obtain ⟨hcw, hfw⟩ := bcell hb)
  go_ret
  exact ⟨rfl, by (repeat first | exact Below.refl _ _ | (refine Below.alloc ?_ (by go_size) _) | (refine Below.step ?_ (by assumption)))⟩
theorem ValidWays_i (a b c d : Int) (w : World) :
    Calls Try.prog 13 #[.agg #[.int .i64 a, .int .i64 b, .int .i64 c, .int .i64 d]] w fun e w' => e = .returned (.bool (okWays a b c d)) ∧ Below w.heap.size w w' := by
  go_enter Try.func13, Try.ntmps13
  go_wp2_with (go_at_call 21; refine (between_any _ _ _ _).mono ?_; rintro e w1 ⟨rfl, rfl⟩)
  all_goals go_ret
  all_goals (refine ⟨?_, by (repeat first | exact Below.refl _ _ | (refine Below.alloc ?_ (by go_size) _) | (refine Below.step ?_ (by assumption)))⟩; simp [okWays, *])
theorem toWays_any (a b c d : Int) (w : World) :
    Calls Try.prog 12 #[.agg #[.int .i64 a, .int .i64 b, .int .i64 c, .int .i64 d]] w fun e w' => e = .returned (.agg #[.int .i64 a, .int .i64 b, .int .i64 c, .int .i64 d]) ∧ Below w.heap.size w w' := by
  go_enter Try.func12, Try.ntmps12
  go_wp2
  go_returns
  exact ⟨rfl, by (repeat first | exact Below.refl _ _ | (refine Below.alloc ?_ (by go_size) _) | (refine Below.step ?_ (by assumption)))⟩
end Go.Proofs.Ytogpplaccnlnmaa
