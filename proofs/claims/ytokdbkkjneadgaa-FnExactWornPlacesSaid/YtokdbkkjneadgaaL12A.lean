/-
  Letters, ranges: leaves of the chapter on corrections.
-/
import Derived.Test.YtokdbkkjneadgaaBytes
namespace Go.Proofs.Ytokdbkkjneadgaa
set_option maxRecDepth 100000
open Go.RowKit

theorem l00In_any (n lo hi : Int) (w : World) :
    Calls Try.prog 62 #[.int .i64 n, .int .i64 lo, .int .i64 hi] w fun e w' => e = .returned (.bool (inB n lo hi)) ∧ w = w' := by
  go_enter Try.func62, Try.ntmps62
  go_wp2
  all_goals go_ret
  all_goals (refine ⟨?_, rfl⟩; simp [inB]; try omega)

theorem between_any (n lo hi : Int) (w : World) :
    Calls Try.prog 65 #[.int .i64 n, .int .i64 lo, .int .i64 hi] w fun e w' => e = .returned (.bool (inB n lo hi)) ∧ w = w' := by
  go_enter Try.func65, Try.ntmps65
  go_wp2
  all_goals go_ret
  all_goals (refine ⟨?_, rfl⟩; simp [inB]; try omega)

theorem by_one (c : UInt8) : by_ ⟨#[c]⟩ = [c] := rfl
theorem run_byte0 {s : ByteArray} {b : UInt8} (h : (by_ s)[0]? = some b) (W : World) : (Instr.index 9 (.string s) (.int .i64 0)).run Try.prog W = .ok (.int .u8 (b.toNat : Int)) W := run_byte (k := 0) h W
theorem run_last {s : ByteArray} {b : UInt8} (h0 : 0 < s.size) (h : (by_ s)[s.size - 1]? = some b) (W : World) : (Instr.index 9 (.string s) (.int .i64 ((s.size : Int) - 1))).run Try.prog W = .ok (.int .u8 (b.toNat : Int)) W := by
  have := run_byte h W
  rw [show ((s.size - 1 : Nat) : Int) = (s.size : Int) - 1 from by omega] at this
  exact this
theorem b_eq {b c : UInt8} (h : b = c) : ((b.toNat : Int) == (c.toNat : Int)) = true := by simp [h]
theorem b_ne {b c : UInt8} (h : ¬ b = c) : ((b.toNat : Int) == (c.toNat : Int)) = false := by
  simp; intro e; exact h (UInt8.toNat_inj.1 (by omega))

theorem bn_eq {b c : UInt8} (h : b = c) : ((b.toNat : Int) != (c.toNat : Int)) = false := by rw [bne, b_eq h]; rfl
theorem bn_ne {b c : UInt8} (h : ¬ b = c) : ((b.toNat : Int) != (c.toNat : Int)) = true := by rw [bne, b_ne h]; rfl
def mkB (l : List UInt8) : ByteArray := ⟨l.toArray⟩
theorem ub_push {l : List UInt8} {b : UInt8} : (l ++ [b]).map ub = l.map ub ++ [.int .u8 (b.toNat : Int)] := by simp [ub]

/-- One byte from 33 to 126. -/
def isLet (s : ByteArray) : Bool := match by_ s with
  | [b] => decide (32 < (b.toNat : Int) ∧ (b.toNat : Int) < 127)
  | _ => false
theorem isLet_form {s : ByteArray} (h : isLet s = true) : ∃ b : UInt8, s = ⟨#[b]⟩ ∧ 32 < (b.toNat : Int) ∧ (b.toNat : Int) < 127 := by
  unfold isLet at h
  split at h
  · rename_i b e
    exact ⟨b, ba_eq e, by simpa using h⟩
  · cases h
theorem isLet_size {s : ByteArray} (h : ¬ s.size = 1) : isLet s = false := by
  unfold isLet
  split
  · rename_i b e
    have := by_len s; rw [e] at this; simp at this; omega
  · rfl
theorem one_form {s : ByteArray} (h : s.size = 1) : ∃ b : UInt8, s = ⟨#[b]⟩ := by
  have hl := by_len s
  rw [h] at hl
  obtain ⟨b, hb⟩ := List.length_eq_one_iff.1 hl
  exact ⟨b, ba_eq hb⟩

theorem l02Letter_any (w : World) (s : ByteArray) (hs : s.size ≤ 9223372036854775807) :
    Calls Try.prog 84 #[.string s] w fun e w' => e = .returned (.bool (isLet s)) ∧ w = w' := by
  by_cases h0 : s.size = 1
  · obtain ⟨b, rfl⟩ := one_form h0
    have hr1 := run_byte0 (s := ⟨#[b]⟩) (b := b) rfl
    have hz : ((⟨#[b]⟩ : ByteArray).size : Int) = 1 := rfl
    have HR0 : Hid (isLet ⟨#[b]⟩ = decide (32 < (b.toNat : Int) ∧ (b.toNat : Int) < 127)) := rfl
    clear h0 hs
    by_cases h1 : 32 < (b.toNat : Int)
    · by_cases h2 : (b.toNat : Int) < 127
      · have HR1 : Hid (isLet ⟨#[b]⟩ = true) := by unfold Hid; rw [HR0.out]; simp; omega
        go_enter Try.func84, Try.ntmps84
        go_wp2
        go_ret
        exact ⟨ret_bool HR1.out.symm, rfl⟩
      · have HR1 : Hid (isLet ⟨#[b]⟩ = false) := by unfold Hid; rw [HR0.out]; simp; omega
        go_enter Try.func84, Try.ntmps84
        go_wp2
        go_ret
        exact ⟨ret_bool HR1.out.symm, rfl⟩
    · have HR1 : Hid (isLet ⟨#[b]⟩ = false) := by unfold Hid; rw [HR0.out]; simp; omega
      go_enter Try.func84, Try.ntmps84
      go_wp2
      go_ret
      exact ⟨ret_bool HR1.out.symm, rfl⟩
  · have HR0 := hide (isLet_size h0)
    have hz : ((s.size : Int) == 1) = false := beq_eq_false_iff_ne.2 (by omega)
    clear h0
    go_enter Try.func84, Try.ntmps84
    go_wp2
    go_ret
    exact ⟨ret_bool HR0.out.symm, rfl⟩

theorem isLetter_any (w : World) (s : ByteArray) (hs : s.size ≤ 9223372036854775807) :
    Calls Try.prog 85 #[.string s] w fun e w' => e = .returned (.bool (isLet s)) ∧ w = w' := by
  by_cases h0 : s.size = 1
  · have HR1 : Hid (isTxt 33 1 s = isLet s) := by
      obtain ⟨b, rfl⟩ := one_form h0
      unfold Hid isTxt
      rw [by_one, show ((⟨#[b]⟩ : ByteArray).size : Int) = 1 from rfl, textGo, textGo]
      show (decide ((1 : Int) ≤ 1) && _) = decide (32 < (b.toNat : Int) ∧ (b.toNat : Int) < 127)
      by_cases hh : (b.toNat : Int) < 33 ∨ 126 < (b.toNat : Int)
      · rw [if_pos hh]; simp; omega
      · rw [if_neg hh]; simp; omega
    have hz : ((s.size : Int) == 1) = true := by simp [h0]
    clear h0
    go_enter Try.func85, Try.ntmps85
    go_wp2_with (go_at_call 72; refine (isText_any _ s _ _ hs).mono ?_; rintro e w1 ⟨rfl, rfl⟩)
    go_ret
    exact ⟨ret_bool HR1.out, rfl⟩
  · have HR0 := hide (isLet_size h0)
    have hz : ((s.size : Int) == 1) = false := beq_eq_false_iff_ne.2 (by omega)
    clear h0
    go_enter Try.func85, Try.ntmps85
    go_wp2
    go_ret
    exact ⟨ret_bool HR0.out.symm, rfl⟩
end Go.Proofs.Ytokdbkkjneadgaa
