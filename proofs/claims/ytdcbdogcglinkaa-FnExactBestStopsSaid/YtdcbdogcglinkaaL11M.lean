/-
  Rows: is a text a row; are texts rows.
-/
import Derived.Test.YtdcbdogcglinkaaLetter
namespace Go.Proofs.Ytdcbdogcglinkaa
set_option maxRecDepth 100000
open Go.RowKit

theorem isEmpty_by (x : ByteArray) : x.toList.isEmpty = (by_ x).isEmpty := by rw [ByteArray.toList_eq]; rfl
/-- At most 30 bytes from 32 to 126, the last no blank. -/
def okRow (s : ByteArray) : Bool := isTxt 32 30 s && (decide (s.size = 0) || !((by_ s)[s.size - 1]? == some 32))
theorem okRow_size {s : ByteArray} (h : okRow s = true) : s.size ≤ 30 := by
  simp [okRow, isTxt] at h; omega
theorem l11Row_any (w : World) (s : ByteArray) (hs : s.size ≤ 9223372036854775807) :
    Calls Try.prog 57 #[.string s] w fun e w' => e = .returned (.bool (okRow s)) ∧ w = w' := by
  by_cases h1 : isTxt 32 30 s = true
  · by_cases h0 : s.size = 0
    · have HR0 : Hid (okRow s = true) := by unfold Hid okRow; simp [h1, h0]
      have hem1 : s.toList.isEmpty = true := by rw [isEmpty_by, List.isEmpty_iff]; exact List.eq_nil_of_length_eq_zero (by rw [by_len]; exact h0)
      have hem2 : s.toList = [] := by simpa using hem1
      have hz : ((s.size : Int) == 0) = true := by simp [h0]
      clear h0
      go_enter Try.func57, Try.ntmps57
      go_wp2_with (go_at_call 67; refine (l00Text_any _ s _ hs).mono ?_; rintro e w1 ⟨rfl, rfl⟩)
      go_ret
      exact ⟨ret_bool HR0.out.symm, rfl⟩
    · have hp : 0 < s.size := by omega
      have hy := by_get (show s.size - 1 < s.size by omega)
      obtain ⟨d, hd⟩ : ∃ d, s[s.size - 1] = d := ⟨_, rfl⟩
      rw [hd] at hy
      have hr2 := run_last hp hy
      have HR1 : Hid (okRow s = (!(some d == some (32 : UInt8)))) := by unfold Hid okRow; rw [h1, hy]; simp [h0]
      have hem1 : s.toList.isEmpty = false := by
        rw [isEmpty_by]
        cases e : by_ s with
        | nil => have := by_len s; rw [e] at this; exact absurd this.symm h0
        | cons _ _ => rfl
      have hem2 : ¬ s.toList = [] := by simpa using hem1
      have hz : ((s.size : Int) == 0) = false := beq_eq_false_iff_ne.2 (by omega)
      clear hy hd h0
      by_cases hd32 : d = 32
      · have HR2 : Hid (okRow s = false) := by unfold Hid; rw [HR1.out, hd32]; simp
        have hdb : ((d.toNat : Int) == 32) = true := b_eq hd32
        have hdb2 : ((d.toNat : Int) != 32) = false := by rw [bne, hdb]; rfl
        clear hd32
        go_enter Try.func57, Try.ntmps57
        go_wp2_with (go_at_call 67; refine (l00Text_any _ s _ hs).mono ?_; rintro e w1 ⟨rfl, rfl⟩)
        go_ret
        exact ⟨ret_bool HR2.out.symm, rfl⟩
      · have HR2 : Hid (okRow s = true) := by unfold Hid; rw [HR1.out]; simp [hd32]
        have hdb : ((d.toNat : Int) == 32) = false := b_ne hd32
        have hdb2 : ((d.toNat : Int) != 32) = true := by rw [bne, hdb]; rfl
        clear hd32
        go_enter Try.func57, Try.ntmps57
        go_wp2_with (go_at_call 67; refine (l00Text_any _ s _ hs).mono ?_; rintro e w1 ⟨rfl, rfl⟩)
        go_ret
        exact ⟨ret_bool HR2.out.symm, rfl⟩
  · have HR0 : Hid (okRow s = false) := by unfold Hid okRow; simp [h1]
    replace h1 : isTxt 32 30 s = false := by simpa using h1
    go_enter Try.func57, Try.ntmps57
    go_wp2_with (go_at_call 67; refine (l00Text_any _ s _ hs).mono ?_; rintro e w1 ⟨rfl, rfl⟩)
    go_ret
    exact ⟨ret_bool HR0.out.symm, rfl⟩
theorem isRow_any (w : World) (s : ByteArray) (hs : s.size ≤ 9223372036854775807) :
    Calls Try.prog 59 #[.string s] w fun e w' => e = .returned (.bool (okRow s)) ∧ w = w' := by
  by_cases h1 : isTxt 32 30 s = true
  · by_cases h0 : s.size = 0
    · have HR0 : Hid (okRow s = true) := by unfold Hid okRow; simp [h1, h0]
      have hem1 : s.toList.isEmpty = true := by rw [isEmpty_by, List.isEmpty_iff]; exact List.eq_nil_of_length_eq_zero (by rw [by_len]; exact h0)
      have hem2 : s.toList = [] := by simpa using hem1
      have hz : ((s.size : Int) == 0) = true := by simp [h0]
      clear h0
      go_enter Try.func59, Try.ntmps59
      go_wp2_with (go_at_call 64; refine (isText_any _ s _ _ hs).mono ?_; rintro e w1 ⟨rfl, rfl⟩)
      go_ret
      exact ⟨ret_bool HR0.out.symm, rfl⟩
    · have hp : 0 < s.size := by omega
      have hy := by_get (show s.size - 1 < s.size by omega)
      obtain ⟨d, hd⟩ : ∃ d, s[s.size - 1] = d := ⟨_, rfl⟩
      rw [hd] at hy
      have hr2 := run_last hp hy
      have HR1 : Hid (okRow s = (!(some d == some (32 : UInt8)))) := by unfold Hid okRow; rw [h1, hy]; simp [h0]
      have hem1 : s.toList.isEmpty = false := by
        rw [isEmpty_by]
        cases e : by_ s with
        | nil => have := by_len s; rw [e] at this; exact absurd this.symm h0
        | cons _ _ => rfl
      have hem2 : ¬ s.toList = [] := by simpa using hem1
      have hz : ((s.size : Int) == 0) = false := beq_eq_false_iff_ne.2 (by omega)
      clear hy hd h0
      by_cases hd32 : d = 32
      · have HR2 : Hid (okRow s = false) := by unfold Hid; rw [HR1.out, hd32]; simp
        have hdb : ((d.toNat : Int) == 32) = true := b_eq hd32
        have hdb2 : ((d.toNat : Int) != 32) = false := by rw [bne, hdb]; rfl
        clear hd32
        go_enter Try.func59, Try.ntmps59
        go_wp2_with (go_at_call 64; refine (isText_any _ s _ _ hs).mono ?_; rintro e w1 ⟨rfl, rfl⟩)
        go_ret
        exact ⟨ret_bool HR2.out.symm, rfl⟩
      · have HR2 : Hid (okRow s = true) := by unfold Hid; rw [HR1.out]; simp [hd32]
        have hdb : ((d.toNat : Int) == 32) = false := b_ne hd32
        have hdb2 : ((d.toNat : Int) != 32) = true := by rw [bne, hdb]; rfl
        clear hd32
        go_enter Try.func59, Try.ntmps59
        go_wp2_with (go_at_call 64; refine (isText_any _ s _ _ hs).mono ?_; rintro e w1 ⟨rfl, rfl⟩)
        go_ret
        exact ⟨ret_bool HR2.out.symm, rfl⟩
  · have HR0 : Hid (okRow s = false) := by unfold Hid okRow; simp [h1]
    replace h1 : isTxt 32 30 s = false := by simpa using h1
    go_enter Try.func59, Try.ntmps59
    go_wp2_with (go_at_call 64; refine (isText_any _ s _ _ hs).mono ?_; rintro e w1 ⟨rfl, rfl⟩)
    go_ret
    exact ⟨ret_bool HR0.out.symm, rfl⟩
end Go.Proofs.Ytdcbdogcglinkaa
