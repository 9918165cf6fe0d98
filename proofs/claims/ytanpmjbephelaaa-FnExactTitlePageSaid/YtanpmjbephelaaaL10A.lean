/-
  Texts that can be set, widths, letters: the leaves of the chapter on centring.
-/
import Derived.Test.YtanpmjbephelaaaReps
namespace Go.Proofs.Ytanpmjbephelaaa
set_option maxRecDepth 100000
open Go.RowKit

theorem l00In_any (n lo hi : Int) (w : World) :
    Calls Try.prog 70 #[.int .i64 n, .int .i64 lo, .int .i64 hi] w fun e w' => e = .returned (.bool (inB n lo hi)) ∧ w = w' := by
  go_enter Try.func70, Try.ntmps70
  go_wp2
  all_goals go_ret
  all_goals (refine ⟨?_, rfl⟩; simp [inB]; try omega)

theorem between_any (n lo hi : Int) (w : World) :
    Calls Try.prog 77 #[.int .i64 n, .int .i64 lo, .int .i64 hi] w fun e w' => e = .returned (.bool (inB n lo hi)) ∧ w = w' := by
  go_enter Try.func77, Try.ntmps77
  go_wp2
  all_goals go_ret
  all_goals (refine ⟨?_, rfl⟩; simp [inB]; try omega)

theorem isWidth_any (n : Int) (w : World) :
    Calls Try.prog 73 #[.int .i64 n] w fun e w' => e = .returned (.bool (inB n 1 100)) ∧ w = w' := by
  go_enter Try.func73, Try.ntmps73
  go_wp2_with (go_at_call 77; refine (between_any _ _ _ _).mono ?_; rintro e w1 ⟨rfl, rfl⟩)
  go_ret
  exact ⟨rfl, rfl⟩

theorem isEmpty_by (x : ByteArray) : x.toList.isEmpty = (by_ x).isEmpty := by rw [ByteArray.toList_eq]; rfl
theorem run_byte0 {s : ByteArray} {b : UInt8} (h : (by_ s)[0]? = some b) (W : World) : (Instr.index 9 (.string s) (.int .i64 0)).run Try.prog W = .ok (.int .u8 (b.toNat : Int)) W := run_byte (k := 0) h W
theorem run_last {s : ByteArray} {b : UInt8} (h0 : 0 < s.size) (h : (by_ s)[s.size - 1]? = some b) (W : World) : (Instr.index 9 (.string s) (.int .i64 ((s.size : Int) - 1))).run Try.prog W = .ok (.int .u8 (b.toNat : Int)) W := by
  have := run_byte h W
  rw [show ((s.size - 1 : Nat) : Int) = (s.size : Int) - 1 from by omega] at this
  exact this
theorem b_eq {b c : UInt8} (h : b = c) : ((b.toNat : Int) == (c.toNat : Int)) = true := by simp [h]
theorem b_ne {b c : UInt8} (h : ¬ b = c) : ((b.toNat : Int) == (c.toNat : Int)) = false := by
  simp; intro e; exact h (UInt8.toNat_inj.1 (by omega))

/-- No blank at an end. -/
def okEnds (s : ByteArray) : Bool := decide (s.size = 0) || (!((by_ s)[0]? == some 32) && !((by_ s)[s.size - 1]? == some 32))
def isSet (s : ByteArray) : Bool := isTxt 32 100 s && okEnds s

def x_empty (s : ByteArray) : Prop := s.size = 0
theorem l10Text_any (w : World) (s : ByteArray) (hs : s.size ≤ 9223372036854775807) :
    Calls Try.prog 76 #[.string s] w fun e w' => e = .returned (.bool (isSet s)) ∧ w = w' := by
  by_cases h1 : isTxt 32 100 s = true
  · by_cases h0 : s.size = 0
    · have HR0 : Hid (isSet s = true) := by unfold Hid isSet okEnds; simp [h1, h0]
      have hem : x_empty s := h0
      have hem1 : s.toList.isEmpty = true := by rw [isEmpty_by, List.isEmpty_iff]; exact List.eq_nil_of_length_eq_zero (by rw [by_len]; exact h0)
      have hem2 : s.toList = [] := by simpa using hem1
      have hz : ((s.size : Int) == 0) = true := by simp [h0]
      clear h0 hem
      go_enter Try.func76, Try.ntmps76
      go_wp2_with (go_at_call 61; refine (l00Text_any _ s _ hs).mono ?_; rintro e w1 ⟨rfl, rfl⟩)
      go_ret
      exact ⟨ret_bool HR0.out.symm, rfl⟩
    · have hp : 0 < s.size := by omega
      have hx := by_get hp
      have hy := by_get (show s.size - 1 < s.size by omega)
      obtain ⟨b, hb⟩ : ∃ b, s[0] = b := ⟨_, rfl⟩
      obtain ⟨d, hd⟩ : ∃ d, s[s.size - 1] = d := ⟨_, rfl⟩
      rw [hb] at hx
      rw [hd] at hy
      have hr1 := run_byte0 hx
      have hr2 := run_last hp hy
      have HR1 : Hid (isSet s = (!(some b == some (32 : UInt8)) && !(some d == some (32 : UInt8)))) := by unfold Hid isSet okEnds; rw [h1, hx, hy]; simp [h0]
      have hem1 : s.toList.isEmpty = false := by
        rw [isEmpty_by]
        cases e : by_ s with
        | nil => have := by_len s; rw [e] at this; exact absurd this.symm h0
        | cons _ _ => rfl
      have hem2 : ¬ s.toList = [] := by simpa using hem1
      have hz : ((s.size : Int) == 0) = false := beq_eq_false_iff_ne.2 (by omega)
      clear hx hy hb hd h0
      by_cases hb32 : b = 32
      · have HR2 : Hid (isSet s = false) := by unfold Hid; rw [HR1.out, hb32]; rfl
        have hcb : ((b.toNat : Int) == 32) = true := b_eq hb32
        have hcb2 : ((b.toNat : Int) != 32) = false := by rw [bne, hcb]; rfl
        clear hb32
        go_enter Try.func76, Try.ntmps76
        go_wp2_with (go_at_call 61; refine (l00Text_any _ s _ hs).mono ?_; rintro e w1 ⟨rfl, rfl⟩)
        go_ret
        exact ⟨ret_bool HR2.out.symm, rfl⟩
      · have hcb : ((b.toNat : Int) == 32) = false := b_ne hb32
        have hcb2 : ((b.toNat : Int) != 32) = true := by rw [bne, hcb]; rfl
        by_cases hd32 : d = 32
        · have HR2 : Hid (isSet s = false) := by unfold Hid; rw [HR1.out, hd32]; simp
          have hdb : ((d.toNat : Int) == 32) = true := b_eq hd32
          have hdb2 : ((d.toNat : Int) != 32) = false := by rw [bne, hdb]; rfl
          clear hd32 hb32
          go_enter Try.func76, Try.ntmps76
          go_wp2_with (go_at_call 61; refine (l00Text_any _ s _ hs).mono ?_; rintro e w1 ⟨rfl, rfl⟩)
          go_ret
          exact ⟨ret_bool HR2.out.symm, rfl⟩
        · have HR2 : Hid (isSet s = true) := by unfold Hid; rw [HR1.out]; simp [hb32, hd32]
          have hdb : ((d.toNat : Int) == 32) = false := b_ne hd32
          have hdb2 : ((d.toNat : Int) != 32) = true := by rw [bne, hdb]; rfl
          clear hd32 hb32
          go_enter Try.func76, Try.ntmps76
          go_wp2_with (go_at_call 61; refine (l00Text_any _ s _ hs).mono ?_; rintro e w1 ⟨rfl, rfl⟩)
          go_ret
          exact ⟨ret_bool HR2.out.symm, rfl⟩
  · have HR0 : Hid (isSet s = false) := by unfold Hid isSet; simp [h1]
    replace h1 : isTxt 32 100 s = false := by simpa using h1
    go_enter Try.func76, Try.ntmps76
    go_wp2_with (go_at_call 61; refine (l00Text_any _ s _ hs).mono ?_; rintro e w1 ⟨rfl, rfl⟩)
    go_ret
    exact ⟨ret_bool HR0.out.symm, rfl⟩
theorem isSetting_any (w : World) (s : ByteArray) (hs : s.size ≤ 9223372036854775807) :
    Calls Try.prog 78 #[.string s] w fun e w' => e = .returned (.bool (isSet s)) ∧ w = w' := by
  by_cases h1 : isTxt 32 100 s = true
  · by_cases h0 : s.size = 0
    · have HR0 : Hid (isSet s = true) := by unfold Hid isSet okEnds; simp [h1, h0]
      have hem : x_empty s := h0
      have hem1 : s.toList.isEmpty = true := by rw [isEmpty_by, List.isEmpty_iff]; exact List.eq_nil_of_length_eq_zero (by rw [by_len]; exact h0)
      have hem2 : s.toList = [] := by simpa using hem1
      have hz : ((s.size : Int) == 0) = true := by simp [h0]
      clear h0 hem
      go_enter Try.func78, Try.ntmps78
      go_wp2_with (go_at_call 63; refine (isText_any _ s _ _ hs).mono ?_; rintro e w1 ⟨rfl, rfl⟩)
      go_ret
      exact ⟨ret_bool HR0.out.symm, rfl⟩
    · have hp : 0 < s.size := by omega
      have hx := by_get hp
      have hy := by_get (show s.size - 1 < s.size by omega)
      obtain ⟨b, hb⟩ : ∃ b, s[0] = b := ⟨_, rfl⟩
      obtain ⟨d, hd⟩ : ∃ d, s[s.size - 1] = d := ⟨_, rfl⟩
      rw [hb] at hx
      rw [hd] at hy
      have hr1 := run_byte0 hx
      have hr2 := run_last hp hy
      have HR1 : Hid (isSet s = (!(some b == some (32 : UInt8)) && !(some d == some (32 : UInt8)))) := by unfold Hid isSet okEnds; rw [h1, hx, hy]; simp [h0]
      have hem1 : s.toList.isEmpty = false := by
        rw [isEmpty_by]
        cases e : by_ s with
        | nil => have := by_len s; rw [e] at this; exact absurd this.symm h0
        | cons _ _ => rfl
      have hem2 : ¬ s.toList = [] := by simpa using hem1
      have hz : ((s.size : Int) == 0) = false := beq_eq_false_iff_ne.2 (by omega)
      clear hx hy hb hd h0
      by_cases hb32 : b = 32
      · have HR2 : Hid (isSet s = false) := by unfold Hid; rw [HR1.out, hb32]; rfl
        have hcb : ((b.toNat : Int) == 32) = true := b_eq hb32
        have hcb2 : ((b.toNat : Int) != 32) = false := by rw [bne, hcb]; rfl
        clear hb32
        go_enter Try.func78, Try.ntmps78
        go_wp2_with (go_at_call 63; refine (isText_any _ s _ _ hs).mono ?_; rintro e w1 ⟨rfl, rfl⟩)
        go_ret
        exact ⟨ret_bool HR2.out.symm, rfl⟩
      · have hcb : ((b.toNat : Int) == 32) = false := b_ne hb32
        have hcb2 : ((b.toNat : Int) != 32) = true := by rw [bne, hcb]; rfl
        by_cases hd32 : d = 32
        · have HR2 : Hid (isSet s = false) := by unfold Hid; rw [HR1.out, hd32]; simp
          have hdb : ((d.toNat : Int) == 32) = true := b_eq hd32
          have hdb2 : ((d.toNat : Int) != 32) = false := by rw [bne, hdb]; rfl
          clear hd32 hb32
          go_enter Try.func78, Try.ntmps78
          go_wp2_with (go_at_call 63; refine (isText_any _ s _ _ hs).mono ?_; rintro e w1 ⟨rfl, rfl⟩)
          go_ret
          exact ⟨ret_bool HR2.out.symm, rfl⟩
        · have HR2 : Hid (isSet s = true) := by unfold Hid; rw [HR1.out]; simp [hb32, hd32]
          have hdb : ((d.toNat : Int) == 32) = false := b_ne hd32
          have hdb2 : ((d.toNat : Int) != 32) = true := by rw [bne, hdb]; rfl
          clear hd32 hb32
          go_enter Try.func78, Try.ntmps78
          go_wp2_with (go_at_call 63; refine (isText_any _ s _ _ hs).mono ?_; rintro e w1 ⟨rfl, rfl⟩)
          go_ret
          exact ⟨ret_bool HR2.out.symm, rfl⟩
  · have HR0 : Hid (isSet s = false) := by unfold Hid isSet; simp [h1]
    replace h1 : isTxt 32 100 s = false := by simpa using h1
    go_enter Try.func78, Try.ntmps78
    go_wp2_with (go_at_call 63; refine (isText_any _ s _ _ hs).mono ?_; rintro e w1 ⟨rfl, rfl⟩)
    go_ret
    exact ⟨ret_bool HR0.out.symm, rfl⟩

/-- One byte from 33 to 126. -/
def isLet (s : ByteArray) : Bool := match by_ s with
  | [b] => decide (32 < (b.toNat : Int) ∧ (b.toNat : Int) < 127)
  | _ => false
theorem isLet_form {s : ByteArray} (h : isLet s = true) : ∃ b : UInt8, s = ⟨#[b]⟩ ∧ 32 < (b.toNat : Int) ∧ (b.toNat : Int) < 127 := by
  unfold isLet at h
  split at h
  · rename_i b e
    exact ⟨b, ba_eq e, by simpa using h⟩
  · cases h
theorem isLet_size {s : ByteArray} (h : ¬ s.size = 1) : isLet s = false := by
  unfold isLet
  split
  · rename_i b e
    have := by_len s; rw [e] at this; simp at this; omega
  · rfl
theorem one_form {s : ByteArray} (h : s.size = 1) : ∃ b : UInt8, s = ⟨#[b]⟩ := by
  have hl := by_len s
  rw [h] at hl
  obtain ⟨b, hb⟩ := List.length_eq_one_iff.1 hl
  exact ⟨b, ba_eq hb⟩

end Go.Proofs.Ytanpmjbephelaaa
