/-
  Letters: a text of one byte; bytes compared.
-/
import Derived.Test.YtanpmjbephelaaaBytes
namespace Go.Proofs.Ytanpmjbephelaaa
set_option maxRecDepth 100000
open Go.RowKit

theorem by_one (c : UInt8) : by_ ⟨#[c]⟩ = [c] := rfl
theorem run_byte0 {s : ByteArray} {b : UInt8} (h : (by_ s)[0]? = some b) (W : World) : (Instr.index 9 (.string s) (.int .i64 0)).run Try.prog W = .ok (.int .u8 (b.toNat : Int)) W := run_byte (k := 0) h W
theorem run_last {s : ByteArray} {b : UInt8} (h0 : 0 < s.size) (h : (by_ s)[s.size - 1]? = some b) (W : World) : (Instr.index 9 (.string s) (.int .i64 ((s.size : Int) - 1))).run Try.prog W = .ok (.int .u8 (b.toNat : Int)) W := by
  have := run_byte h W
  rw [show ((s.size - 1 : Nat) : Int) = (s.size : Int) - 1 from by omega] at this
  exact this
theorem b_eq {b c : UInt8} (h : b = c) : ((b.toNat : Int) == (c.toNat : Int)) = true := by simp [h]
theorem b_ne {b c : UInt8} (h : ¬ b = c) : ((b.toNat : Int) == (c.toNat : Int)) = false := by
  simp; intro e; exact h (UInt8.toNat_inj.1 (by omega))

theorem bn_eq {b c : UInt8} (h : b = c) : ((b.toNat : Int) != (c.toNat : Int)) = false := by rw [bne, b_eq h]; rfl
theorem bn_ne {b c : UInt8} (h : ¬ b = c) : ((b.toNat : Int) != (c.toNat : Int)) = true := by rw [bne, b_ne h]; rfl
def mkB (l : List UInt8) : ByteArray := ⟨l.toArray⟩
theorem ub_push {l : List UInt8} {b : UInt8} : (l ++ [b]).map ub = l.map ub ++ [.int .u8 (b.toNat : Int)] := by simp [ub]

/-- One byte from 33 to 126. -/
def isLet (s : ByteArray) : Bool := match by_ s with
  | [b] => decide (32 < (b.toNat : Int) ∧ (b.toNat : Int) < 127)
  | _ => false
theorem isLet_form {s : ByteArray} (h : isLet s = true) : ∃ b : UInt8, s = ⟨#[b]⟩ ∧ 32 < (b.toNat : Int) ∧ (b.toNat : Int) < 127 := by
  unfold isLet at h
  split at h
  · rename_i b e
    exact ⟨b, ba_eq e, by simpa using h⟩
  · cases h
theorem isLet_size {s : ByteArray} (h : ¬ s.size = 1) : isLet s = false := by
  unfold isLet
  split
  · rename_i b e
    have := by_len s; rw [e] at this; simp at this; omega
  · rfl
theorem one_form {s : ByteArray} (h : s.size = 1) : ∃ b : UInt8, s = ⟨#[b]⟩ := by
  have hl := by_len s
  rw [h] at hl
  obtain ⟨b, hb⟩ := List.length_eq_one_iff.1 hl
  exact ⟨b, ba_eq hb⟩

theorem by_ext (s : ByteArray) (a b : Nat) : by_ (s.extract a b) = ((by_ s).take b).drop a := by
  simp [by_, ByteArray.data_extract, Array.toList_extract, List.extract_eq_take_drop, List.drop_take]
theorem ext_one {s : ByteArray} {k : Nat} {c : UInt8} (h : (by_ s)[k]? = some c) : s.extract k (k + 1) = ⟨#[c]⟩ := by
  apply ba_eq
  obtain ⟨h1, h2⟩ := List.getElem?_eq_some_iff.1 h
  rw [by_ext, by_one, List.take_succ_eq_append_getElem h1, h2, List.drop_append_of_le_length (by rw [List.length_take]; omega), List.drop_eq_nil_of_le (by rw [List.length_take]; omega)]; rfl
end Go.Proofs.Ytanpmjbephelaaa
