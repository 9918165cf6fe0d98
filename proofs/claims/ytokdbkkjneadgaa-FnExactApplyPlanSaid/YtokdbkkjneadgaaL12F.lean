/-
  ShiftedMatch, WrongPlaces: what each returns, for all arguments.
-/
import Derived.Test.YtokdbkkjneadgaaL12B
import Derived.Test.YtokdbkkjneadgaaInts
namespace Go.Proofs.Ytokdbkkjneadgaa
set_option maxRecDepth 100000
open Go.RowKit

theorem l12Line_any (w : World) (s : ByteArray) (hs : s.size ≤ 1048576) :
    Calls Try.prog 61 #[.string s] w fun e w' => e = .returned (.bool (isTxt 32 60 s)) ∧ w = w' := by
  go_enter Try.func61, Try.ntmps61
  go_wp2_with (go_at_call 86; refine (l00Text_any _ s _ (by omega)).mono ?_; rintro e w1 ⟨rfl, rfl⟩)
  go_ret
  exact ⟨rfl, rfl⟩
theorem isCorrectLine_any (w : World) (s : ByteArray) (hs : s.size ≤ 1048576) :
    Calls Try.prog 64 #[.string s] w fun e w' => e = .returned (.bool (isTxt 32 60 s)) ∧ w = w' := by
  go_enter Try.func64, Try.ntmps64
  go_wp2_with (go_at_call 72; refine (isText_any _ s _ _ (by omega)).mono ?_; rintro e w1 ⟨rfl, rfl⟩)
  go_ret
  exact ⟨rfl, rfl⟩
theorem isTxt_size {lo m : Int} {s : ByteArray} (h : isTxt lo m s = true) : (s.size : Int) ≤ m := by
  rw [isTxt, Bool.and_eq_true, decide_eq_true_eq] at h
  exact h.1

/-! ### WrongPlaces -/
def wpUp (s t : ByteArray) : Nat → List Int
  | 0 => []
  | k + 1 => wpUp s t k ++ (if atB s k = atB t k then [] else [(k : Int)])
theorem wpUp_len (s t : ByteArray) (k : Nat) : (wpUp s t k).length ≤ k := by
  induction k with
  | zero => exact Nat.le_refl _
  | succ k ih => rw [wpUp, List.length_append]; split <;> simp <;> omega
def wrongPlaces (s t : ByteArray) : List Int × Int := if isTxt 32 60 s = true ∧ isTxt 32 60 t = true then (wpUp s t 60, 0) else ([], 2)
theorem wrongPlaces_len (s t : ByteArray) : (wrongPlaces s t).1.length ≤ 60 := by
  unfold wrongPlaces
  split
  · exact wpUp_len s t 60
  · simp

set_option maxHeartbeats 400000 in
theorem WrongPlaces_S (w : World) (s t : ByteArray) (hs : s.size ≤ 1048576) (ht : t.size ≤ 1048576) :
    Calls Try.prog 26 #[.string s, .string t] w fun e w' => ∃ v, e = .returned (.tuple #[v, .int .i64 (wrongPlaces s t).2]) ∧ Coll w w' 2 v ((wrongPlaces s t).1.map (Value.int .i64)) := by
  by_cases h1 : isTxt 32 60 s = true
  · by_cases h2 : isTxt 32 60 t = true
    · have HR1 : Hid (wrongPlaces s t = (wpUp s t 60, 0)) := by unfold Hid wrongPlaces; rw [if_pos ⟨h1, h2⟩]
      have h0 := Coll.empty (e := 2) (Below.refl w.heap.size w)
      go_enter Try.func26, Try.ntmps26
      go_wp2_with (go_at_call 61; refine (l12Line_any _ _ (by assumption)).mono ?_; rintro e w1 ⟨rfl, rfl⟩)
      clear h1 h2
      go_loopw [6, 7] (fun v i wr => ∃ k : Nat, k ≤ 60 ∧ i = .int .i64 k ∧ Coll w wr 2 v ((wpUp s t k).map (Value.int .i64))) (fun _ i _ => 60 - (intOf i).toNat)
      case atStart => exact ⟨0, Nat.zero_le _, rfl, h0⟩
      case round =>
        clear h0
        obtain ⟨k, hk, rfl, hco⟩ := hrel
        have hl := wpUp_len s t k
        by_cases hlt : k < 60
        · by_cases hq : atB s (k : Int) = atB t (k : Int)
          · have H2 : Hid (wpUp s t (k + 1) = wpUp s t k) := by unfold Hid; rw [wpUp, if_pos hq, List.append_nil]
            have c1 : (((atB s (k : Int)).toNat : Int) != ((atB t (k : Int)).toNat : Int)) = false := bn_eq hq
            clear hq
            go_wp2_with (go_at_call 67; refine (l12At_any _ _ _ (by assumption) (by omega)).mono ?_; rintro e w1 ⟨rfl, rfl⟩)
            go_roundw
            case rel => exact ⟨k + 1, by omega, by go_num, by rw [H2.out]; exact hco⟩
            case measure => simp [intOf]; omega
          · have H2 : Hid (wpUp s t (k + 1) = wpUp s t k ++ [(k : Int)]) := by unfold Hid; rw [wpUp, if_neg hq]
            have c1 : (((atB s (k : Int)).toNat : Int) != ((atB t (k : Int)).toNat : Int)) = true := bn_ne hq
            clear hq
            go_wp2_with (first | (go_at_call 67; refine (l12At_any _ _ _ (by assumption) (by omega)).mono ?_; rintro e w1 ⟨rfl, rfl⟩) | (at_builtin; refine Coll.push Try.underlying38 int64_info rfl (by decide) hco rfl (by rw [List.length_map]; omega) rfl _ _ rfl rfl rfl ?_; intro v1 w1 hc1 hg1))
            go_roundw
            case rel => exact ⟨k + 1, by omega, by go_num, by rw [H2.out]; simpa using hc1⟩
            case measure => simp [intOf]; omega
        · have hk2 : Hid (k = 60) := by unfold Hid; omega
          go_wp2
          go_ret2
          exact ⟨_, by rw [HR1.out]; rfl, by rw [HR1.out, ← hk2.out]; exact hco⟩
    · have HR0 : Hid (wrongPlaces s t = ([], 2)) := by unfold Hid wrongPlaces; rw [if_neg (fun e => h2 e.2)]
      replace h2 : isTxt 32 60 t = false := by simpa using h2
      go_enter Try.func26, Try.ntmps26
      go_wp2_with (go_at_call 61; refine (l12Line_any _ _ (by assumption)).mono ?_; rintro e w1 ⟨rfl, rfl⟩)
      go_ret2
      exact ⟨_, by rw [HR0.out]; rfl, by rw [HR0.out]; exact Coll.nil_ (Below.refl _ _)⟩
  · have HR0 : Hid (wrongPlaces s t = ([], 2)) := by unfold Hid wrongPlaces; rw [if_neg (fun e => h1 e.1)]
    replace h1 : isTxt 32 60 s = false := by simpa using h1
    go_enter Try.func26, Try.ntmps26
    go_wp2_with (go_at_call 61; refine (l12Line_any _ _ (by assumption)).mono ?_; rintro e w1 ⟨rfl, rfl⟩)
    go_ret2
    exact ⟨_, by rw [HR0.out]; rfl, by rw [HR0.out]; exact Coll.nil_ (Below.refl _ _)⟩
set_option maxHeartbeats 400000 in
theorem WrongPlaces_I (w : World) (s t : ByteArray) (hs : s.size ≤ 1048576) (ht : t.size ≤ 1048576) :
    Calls Try.prog 27 #[.string s, .string t] w fun e w' => ∃ v, e = .returned (.tuple #[v, .int .i64 (wrongPlaces s t).2]) ∧ Coll w w' 2 v ((wrongPlaces s t).1.map (Value.int .i64)) := by
  by_cases h1 : isTxt 32 60 s = true
  · by_cases h2 : isTxt 32 60 t = true
    · have HR1 : Hid (wrongPlaces s t = (wpUp s t 60, 0)) := by unfold Hid wrongPlaces; rw [if_pos ⟨h1, h2⟩]
      have h0 := Coll.empty (e := 2) (Below.refl w.heap.size w)
      go_enter Try.func27, Try.ntmps27
      go_wp2_with (go_at_call 64; refine (isCorrectLine_any _ _ (by assumption)).mono ?_; rintro e w1 ⟨rfl, rfl⟩)
      clear h1 h2
      go_loopw [6, 17] (fun v i wr => ∃ k : Nat, k ≤ 60 ∧ i = .int .i64 k ∧ Coll w wr 2 v ((wpUp s t k).map (Value.int .i64))) (fun _ i _ => 60 - (intOf i).toNat)
      case atStart => exact ⟨0, Nat.zero_le _, rfl, h0⟩
      case round =>
        clear h0
        obtain ⟨k, hk, rfl, hco⟩ := hrel
        have hl := wpUp_len s t k
        by_cases hlt : k < 60
        · by_cases hq : atB s (k : Int) = atB t (k : Int)
          · have H2 : Hid (wpUp s t (k + 1) = wpUp s t k) := by unfold Hid; rw [wpUp, if_pos hq, List.append_nil]
            have c1 : (((atB s (k : Int)).toNat : Int) != ((atB t (k : Int)).toNat : Int)) = false := bn_eq hq
            clear hq
            go_wp2_with (go_at_call 66; refine (byteAt_any _ _ _ (by assumption) (by omega)).mono ?_; rintro e w1 ⟨rfl, rfl⟩)
            go_roundw
            case rel => exact ⟨k + 1, by omega, by go_num, by rw [H2.out]; exact hco⟩
            case measure => simp [intOf]; omega
          · have H2 : Hid (wpUp s t (k + 1) = wpUp s t k ++ [(k : Int)]) := by unfold Hid; rw [wpUp, if_neg hq]
            have c1 : (((atB s (k : Int)).toNat : Int) != ((atB t (k : Int)).toNat : Int)) = true := bn_ne hq
            clear hq
            go_wp2_with (first | (go_at_call 66; refine (byteAt_any _ _ _ (by assumption) (by omega)).mono ?_; rintro e w1 ⟨rfl, rfl⟩) | (at_builtin; refine Coll.push Try.underlying38 int64_info rfl (by decide) hco rfl (by rw [List.length_map]; omega) rfl _ _ rfl rfl rfl ?_; intro v1 w1 hc1 hg1))
            go_roundw
            case rel => exact ⟨k + 1, by omega, by go_num, by rw [H2.out]; simpa using hc1⟩
            case measure => simp [intOf]; omega
        · have hk2 : Hid (k = 60) := by unfold Hid; omega
          go_wp2
          go_ret2
          exact ⟨_, by rw [HR1.out]; rfl, by rw [HR1.out, ← hk2.out]; exact hco⟩
    · have HR0 : Hid (wrongPlaces s t = ([], 2)) := by unfold Hid wrongPlaces; rw [if_neg (fun e => h2 e.2)]
      replace h2 : isTxt 32 60 t = false := by simpa using h2
      go_enter Try.func27, Try.ntmps27
      go_wp2_with (go_at_call 64; refine (isCorrectLine_any _ _ (by assumption)).mono ?_; rintro e w1 ⟨rfl, rfl⟩)
      go_ret2
      exact ⟨_, by rw [HR0.out]; rfl, by rw [HR0.out]; exact Coll.nil_ (Below.refl _ _)⟩
  · have HR0 : Hid (wrongPlaces s t = ([], 2)) := by unfold Hid wrongPlaces; rw [if_neg (fun e => h1 e.1)]
    replace h1 : isTxt 32 60 s = false := by simpa using h1
    go_enter Try.func27, Try.ntmps27
    go_wp2_with (go_at_call 64; refine (isCorrectLine_any _ _ (by assumption)).mono ?_; rintro e w1 ⟨rfl, rfl⟩)
    go_ret2
    exact ⟨_, by rw [HR0.out]; rfl, by rw [HR0.out]; exact Coll.nil_ (Below.refl _ _)⟩
end Go.Proofs.Ytokdbkkjneadgaa
