/-
  SetLine: what it returns, for all arguments.
-/
import Derived.Test.YtanpmjbephelaaaL09G
namespace Go.Proofs.Ytanpmjbephelaaa
set_option maxRecDepth 100000
open Go.RowKit

def setLineR (xs : List ByteArray) (m : Int) : ByteArray × Int := if validT xs m = true then (if m < lineL xs then (⟨#[]⟩, 5) else if xs.length = 0 then (⟨#[]⟩, 3) else (mkB (setT xs m), 0)) else (⟨#[]⟩, 1)
set_option maxHeartbeats 400000 in
theorem SetLine_S (w : World) (A : Option Addr) (n c : Nat) (xs : List ByteArray) (m : Int) (h : Sl Value.string w A n xs) (_ : n ≤ c) (hu : ∀ s ∈ xs, (s.size : Int) ≤ 1048576) :
    Calls Try.prog 26 #[.slice A n c, .int .i64 m] w fun e w' => e = .returned (.tuple #[.string (setLineR xs m).1, .int .i64 (setLineR xs m).2]) ∧ Below w.heap.size w w' := by
  replace hu := hide hu
  by_cases hv : validT xs m = true
  · obtain ⟨f1, f2, f3, f4⟩ := validT_facts hv
    rw [h.len] at f2
    have HS := hide (fun s hs => by have := f1 s hs; omega : ∀ s ∈ xs, s.size ≤ 80)
    clear f1
    obtain ⟨L, hL⟩ : ∃ L, lineL xs = L := ⟨_, rfl⟩
    have hlb := lineL_bd HS.out
    rw [hL] at hlb
    by_cases hlt : m < L
    · have HR : Hid (setLineR xs m = (⟨#[]⟩, 5)) := by unfold Hid setLineR; rw [if_pos hv, hL, if_pos hlt]
      have HL := hide hL
      replace hv := hide hv
      clear hL
      go_enter Try.func26, Try.ntmps26
      go_wp2_with (first
        | (go_at_call 65; refine (l09Ok_any _ _ _ _ xs _ h hu.out).mono ?_; rintro e w1 ⟨rfl, hb⟩; rw [hv.out])
        | (go_at_call 55; refine (l09Long_any _ _ _ _ xs (h.on hb) f2 HS.out).mono ?_; rintro e w2 ⟨rfl, rfl⟩; rw [HL.out])
        | (go_at_call 54; refine (l09Set_any _ _ _ _ xs _ (h.on hb) (by omega) f2 HS.out f4 (by rw [HL.out]; omega)).mono ?_; rintro e w3 ⟨rfl, hb3⟩))
      go_ret2
      exact ⟨by rw [HR.out]; rfl, hb⟩
    · by_cases h0 : n = 0
      · have HR : Hid (setLineR xs m = (⟨#[]⟩, 3)) := by unfold Hid setLineR; rw [if_pos hv, hL, if_neg hlt, h.len, if_pos h0]
        have hz : ((n : Int) == 0) = true := by simp [h0]
        have hz2 : (n == 0) = true := by simp [h0]
        have HL := hide hL
        replace hv := hide hv
        clear hL h0
        go_enter Try.func26, Try.ntmps26
        go_wp2_with (first
          | (go_at_call 65; refine (l09Ok_any _ _ _ _ xs _ h hu.out).mono ?_; rintro e w1 ⟨rfl, hb⟩; rw [hv.out])
          | (go_at_call 55; refine (l09Long_any _ _ _ _ xs (h.on hb) f2 HS.out).mono ?_; rintro e w2 ⟨rfl, rfl⟩; rw [HL.out])
          | (go_at_call 54; refine (l09Set_any _ _ _ _ xs _ (h.on hb) (by omega) f2 HS.out f4 (by rw [HL.out]; omega)).mono ?_; rintro e w3 ⟨rfl, hb3⟩))
        go_ret2
        exact ⟨by rw [HR.out]; rfl, hb⟩
      · have HR : Hid (setLineR xs m = (mkB (setT xs m), 0)) := by unfold Hid setLineR; rw [if_pos hv, hL, if_neg hlt, h.len, if_neg h0]
        have hz : ((n : Int) == 0) = false := beq_eq_false_iff_ne.2 (by omega)
        have hz2 : (n == 0) = false := beq_eq_false_iff_ne.2 h0
        have HL := hide hL
        replace hv := hide hv
        clear hL
        go_enter Try.func26, Try.ntmps26
        go_wp2_with (first
          | (go_at_call 65; refine (l09Ok_any _ _ _ _ xs _ h hu.out).mono ?_; rintro e w1 ⟨rfl, hb⟩; rw [hv.out])
          | (go_at_call 55; refine (l09Long_any _ _ _ _ xs (h.on hb) f2 HS.out).mono ?_; rintro e w2 ⟨rfl, rfl⟩; rw [HL.out])
          | (go_at_call 54; refine (l09Set_any _ _ _ _ xs _ (h.on hb) (by omega) f2 HS.out f4 (by rw [HL.out]; omega)).mono ?_; rintro e w3 ⟨rfl, hb3⟩))
        go_ret2
        exact ⟨by rw [HR.out]; rfl, Below.step hb hb3⟩
  · have HR : Hid (setLineR xs m = (⟨#[]⟩, 1)) := by unfold Hid setLineR; rw [if_neg hv]
    replace hv : Hid (validT xs m = false) := by unfold Hid; simpa using hv
    go_enter Try.func26, Try.ntmps26
    go_wp2_with (go_at_call 65; refine (l09Ok_any _ _ _ _ xs _ h hu.out).mono ?_; rintro e w1 ⟨rfl, hb⟩; rw [hv.out])
    go_ret2
    exact ⟨by rw [HR.out]; rfl, hb⟩
set_option maxHeartbeats 400000 in
theorem SetLine_I (w : World) (A : Option Addr) (n c : Nat) (xs : List ByteArray) (m : Int) (h : Sl Value.string w A n xs) (hcap : n ≤ c) (hu : ∀ s ∈ xs, (s.size : Int) ≤ 1048576) :
    Calls Try.prog 27 #[.slice A n c, .int .i64 m] w fun e w' => e = .returned (.tuple #[.string (setLineR xs m).1, .int .i64 (setLineR xs m).2]) ∧ Below w.heap.size w w' := by
  replace hu := hide hu
  by_cases hv : validT xs m = true
  · obtain ⟨f1, f2, f3, f4⟩ := validT_facts hv
    rw [h.len] at f2
    have HS := hide (fun s hs => by have := f1 s hs; omega : ∀ s ∈ xs, s.size ≤ 80)
    clear f1
    obtain ⟨L, hL⟩ : ∃ L, lineL xs = L := ⟨_, rfl⟩
    have hlb := lineL_bd HS.out
    rw [hL] at hlb
    by_cases hlt : m < L
    · have HR : Hid (setLineR xs m = (⟨#[]⟩, 5)) := by unfold Hid setLineR; rw [if_pos hv, hL, if_pos hlt]
      have HL := hide hL
      replace hv := hide hv
      clear hL
      go_enter Try.func27, Try.ntmps27
      go_wp2_with (first
        | (go_at_call 66; refine (ValidText_I _ _ _ _ xs _ h hu.out).mono ?_; rintro e w1 ⟨rfl, hb⟩; rw [hv.out])
        | (go_at_call 67; refine (lineLength_any _ _ _ _ xs (h.on hb) f2 HS.out).mono ?_; rintro e w2 ⟨rfl, rfl⟩; rw [HL.out])
        | (go_at_call 59; refine (setLine_any _ _ _ _ xs _ (h.on hb) hcap (by omega) f2 HS.out f4 (by rw [HL.out]; omega)).mono ?_; rintro e w3 ⟨rfl, hb3⟩))
      go_ret2
      exact ⟨by rw [HR.out]; rfl, hb⟩
    · by_cases h0 : n = 0
      · have HR : Hid (setLineR xs m = (⟨#[]⟩, 3)) := by unfold Hid setLineR; rw [if_pos hv, hL, if_neg hlt, h.len, if_pos h0]
        have hz : ((n : Int) == 0) = true := by simp [h0]
        have hz2 : (n == 0) = true := by simp [h0]
        have HL := hide hL
        replace hv := hide hv
        clear hL h0
        go_enter Try.func27, Try.ntmps27
        go_wp2_with (first
          | (go_at_call 66; refine (ValidText_I _ _ _ _ xs _ h hu.out).mono ?_; rintro e w1 ⟨rfl, hb⟩; rw [hv.out])
          | (go_at_call 67; refine (lineLength_any _ _ _ _ xs (h.on hb) f2 HS.out).mono ?_; rintro e w2 ⟨rfl, rfl⟩; rw [HL.out])
          | (go_at_call 59; refine (setLine_any _ _ _ _ xs _ (h.on hb) hcap (by omega) f2 HS.out f4 (by rw [HL.out]; omega)).mono ?_; rintro e w3 ⟨rfl, hb3⟩))
        go_ret2
        exact ⟨by rw [HR.out]; rfl, hb⟩
      · have HR : Hid (setLineR xs m = (mkB (setT xs m), 0)) := by unfold Hid setLineR; rw [if_pos hv, hL, if_neg hlt, h.len, if_neg h0]
        have hz : ((n : Int) == 0) = false := beq_eq_false_iff_ne.2 (by omega)
        have hz2 : (n == 0) = false := beq_eq_false_iff_ne.2 h0
        have HL := hide hL
        replace hv := hide hv
        clear hL
        go_enter Try.func27, Try.ntmps27
        go_wp2_with (first
          | (go_at_call 66; refine (ValidText_I _ _ _ _ xs _ h hu.out).mono ?_; rintro e w1 ⟨rfl, hb⟩; rw [hv.out])
          | (go_at_call 67; refine (lineLength_any _ _ _ _ xs (h.on hb) f2 HS.out).mono ?_; rintro e w2 ⟨rfl, rfl⟩; rw [HL.out])
          | (go_at_call 59; refine (setLine_any _ _ _ _ xs _ (h.on hb) hcap (by omega) f2 HS.out f4 (by rw [HL.out]; omega)).mono ?_; rintro e w3 ⟨rfl, hb3⟩))
        go_ret2
        exact ⟨by rw [HR.out]; rfl, Below.step hb hb3⟩
  · have HR : Hid (setLineR xs m = (⟨#[]⟩, 1)) := by unfold Hid setLineR; rw [if_neg hv]
    replace hv : Hid (validT xs m = false) := by unfold Hid; simpa using hv
    go_enter Try.func27, Try.ntmps27
    go_wp2_with (go_at_call 66; refine (ValidText_I _ _ _ _ xs _ h hu.out).mono ?_; rintro e w1 ⟨rfl, hb⟩; rw [hv.out])
    go_ret2
    exact ⟨by rw [HR.out]; rfl, hb⟩
end Go.Proofs.Ytanpmjbephelaaa
