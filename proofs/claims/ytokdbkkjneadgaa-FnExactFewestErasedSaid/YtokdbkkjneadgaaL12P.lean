/-
  CorrectionPlan, FewestErased: what each returns, for all arguments.
-/
import Derived.Test.YtokdbkkjneadgaaL12O
namespace Go.Proofs.Ytokdbkkjneadgaa
set_option maxRecDepth 100000
open Go.RowKit

def correctionPlan (xs : List Rule) (s t : ByteArray) : ByteArray × ByteArray × Int :=
  if overCode xs s t = 0 then (mkB ((planOf xs s t).map (·.1)), mkB ((planOf xs s t).map (·.2)), 0) else (⟨#[]⟩, ⟨#[]⟩, overCode xs s t)
theorem CorrectionPlan_I (w : World) (A : Option Addr) (n c : Nat) (xs : List Rule) (s t : ByteArray) (h : Sl3 Value.string w A n xs) (hcap : n ≤ c) (hu : OvB xs) (hs : s.size ≤ 1048576) (ht : t.size ≤ 1048576) :
    Calls Try.prog 45 #[.slice A n c, .string s, .string t] w fun e w' => e = .returned (.tuple #[.string (correctionPlan xs s t).1, .string (correctionPlan xs s t).2.1, .int .i64 (correctionPlan xs s t).2.2]) ∧ Below w.heap.size w w' := by
  by_cases h1 : overCode xs s t = 0
  · have HR : correctionPlan xs s t = (mkB ((planOf xs s t).map (·.1)), mkB ((planOf xs s t).map (·.2)), 0) := by unfold correctionPlan; rw [if_pos h1]
    rw [HR]
    exact CorrectionPlan_loop w A n c xs s t h hcap hu hs ht h1
  · have HR : Hid (correctionPlan xs s t = (⟨#[]⟩, ⟨#[]⟩, overCode xs s t)) := by unfold Hid correctionPlan; rw [if_neg h1]
    have h1b : (overCode xs s t != 0) = true := by simpa using h1
    replace hu := hide hu
    go_enter Try.func45, Try.ntmps45
    go_wp2_with (go_at_call 76; refine (correctCode_any _ _ _ _ xs s t h hcap hu.out hs ht).mono ?_; rintro e w1 ⟨rfl, hb⟩; have hsz := hb.size; obtain ⟨hcw, hfw⟩ := bcell hb)
    go_ret3
    exact ⟨by rw [HR.out]; rfl, by (repeat first | exact Below.refl _ _ | (refine Below.alloc ?_ (by go_size) _) | (refine Below.step ?_ (by assumption)))⟩
theorem CorrectionPlan_S (w : World) (A : Option Addr) (n c : Nat) (xs : List Rule) (s t : ByteArray) (h : Sl3 Value.string w A n xs) (hcap : n ≤ c) (hu : OvB xs) (hs : s.size ≤ 1048576) (ht : t.size ≤ 1048576) :
    Calls Try.prog 44 #[.slice A n c, .string s, .string t] w fun e w' => e = .returned (.tuple #[.string (correctionPlan xs s t).1, .string (correctionPlan xs s t).2.1, .int .i64 (correctionPlan xs s t).2.2]) ∧ Below w.heap.size w w' := by
  by_cases h1 : overCode xs s t = 0
  · have HR : Hid (correctionPlan xs s t = (mkB ((planOf xs s t).map (·.1)), mkB ((planOf xs s t).map (·.2)), 0)) := by unfold Hid correctionPlan; rw [if_pos h1]
    obtain ⟨k1, k2, k3, k4⟩ := overCode_ok h1
    have HL := hide (okOvers_lets k1).1
    have hs60 := isTxt_size k2
    have e1 : t.size ≤ s.size := by omega
    have e2 : s.size ≤ t.size := by omega
    have e3 : s.size ≤ 60 := by omega
    replace hu := hide hu
    clear k1 k2 k3 k4
    go_enter Try.func44, Try.ntmps44
    go_wp2_with (first | (go_at_call 74; refine (l12Code_any _ _ _ _ xs s t h hcap hu.out hs ht).mono ?_; rintro e w1 ⟨rfl, hb⟩; have hsz := hb.size; obtain ⟨hcw, hfw⟩ := bcell hb) | (go_at_call 75; refine (l12Plan_any _ _ _ _ xs s t (h.on hb) HL.out e3 e1 e2).mono ?_; rintro e w2 ⟨rfl, hb2⟩))
    go_ret3
    exact ⟨by rw [HR.out]; rfl, Below.step hb hb2⟩
  · have HR : Hid (correctionPlan xs s t = (⟨#[]⟩, ⟨#[]⟩, overCode xs s t)) := by unfold Hid correctionPlan; rw [if_neg h1]
    have h1b : (overCode xs s t != 0) = true := by simpa using h1
    replace hu := hide hu
    go_enter Try.func44, Try.ntmps44
    go_wp2_with (go_at_call 74; refine (l12Code_any _ _ _ _ xs s t h hcap hu.out hs ht).mono ?_; rintro e w1 ⟨rfl, hb⟩; have hsz := hb.size; obtain ⟨hcw, hfw⟩ := bcell hb)
    go_ret3
    exact ⟨by rw [HR.out]; rfl, by (repeat first | exact Below.refl _ _ | (refine Below.alloc ?_ (by go_size) _) | (refine Below.step ?_ (by assumption)))⟩

/-! ### FewestErased -/
def fewestErased (xs : List Rule) (s t : ByteArray) : Int × Int :=
  if overCode xs s t = 0 then ((erGo 0 (by_ (correctionPlan xs s t).1) : Int), 0) else (0, overCode xs s t)
theorem plan_size {xs : List Rule} {s t : ByteArray} (h : overCode xs s t = 0) : (correctionPlan xs s t).1.size ≤ 60 := by
  have hs := isTxt_size (overCode_ok h).2.1
  unfold correctionPlan
  rw [if_pos h]
  rw [← by_len]
  have := planL_len xs (by_ s) (by_ t)
  rw [by_len] at this
  show ((planOf xs s t).map (·.1)).length ≤ 60
  rw [List.length_map]
  unfold planOf
  omega
theorem corr_code (xs : List Rule) (s t : ByteArray) : (correctionPlan xs s t).2.2 = overCode xs s t := by
  unfold correctionPlan
  split
  · rename_i h; exact h.symm
  · rfl
theorem FewestErased_I (w : World) (A : Option Addr) (n c : Nat) (xs : List Rule) (s t : ByteArray) (h : Sl3 Value.string w A n xs) (hcap : n ≤ c) (hu : OvB xs) (hs : s.size ≤ 1048576) (ht : t.size ≤ 1048576) :
    Calls Try.prog 52 #[.slice A n c, .string s, .string t] w fun e w' => e = .returned (.tuple #[.int .i64 (fewestErased xs s t).1, .int .i64 (fewestErased xs s t).2]) ∧ Below w.heap.size w w' := by
  replace hu := hide hu
  have HC := hide (corr_code xs s t)
  by_cases h1 : overCode xs s t = 0
  · have HR : Hid (fewestErased xs s t = ((erGo 0 (by_ (correctionPlan xs s t).1) : Int), 0)) := by unfold Hid fewestErased; rw [if_pos h1]
    have hps := plan_size h1
    have H1 := hide h1
    clear h1
    go_enter Try.func52, Try.ntmps52
    go_wp2_with (first | (go_at_call 45; refine (CorrectionPlan_I _ _ _ _ xs s t h hcap hu.out hs ht).mono ?_; rintro e w1 ⟨rfl, hb⟩; rw [HC.out, H1.out]) | (go_at_call 58; refine (erased_any _ _ (by omega)).mono ?_; rintro e w1 ⟨rfl, rfl⟩))
    go_ret2
    exact ⟨by rw [HR.out]; rfl, hb⟩
  · have HR : Hid (fewestErased xs s t = (0, overCode xs s t)) := by unfold Hid fewestErased; rw [if_neg h1]
    have h1b : (overCode xs s t != 0) = true := by simpa using h1
    clear h1
    go_enter Try.func52, Try.ntmps52
    go_wp2_with (go_at_call 45; refine (CorrectionPlan_I _ _ _ _ xs s t h hcap hu.out hs ht).mono ?_; rintro e w1 ⟨rfl, hb⟩; rw [HC.out])
    go_ret2
    exact ⟨by rw [HR.out]; rfl, hb⟩
theorem FewestErased_S (w : World) (A : Option Addr) (n c : Nat) (xs : List Rule) (s t : ByteArray) (h : Sl3 Value.string w A n xs) (hcap : n ≤ c) (hu : OvB xs) (hs : s.size ≤ 1048576) (ht : t.size ≤ 1048576) :
    Calls Try.prog 51 #[.slice A n c, .string s, .string t] w fun e w' => e = .returned (.tuple #[.int .i64 (fewestErased xs s t).1, .int .i64 (fewestErased xs s t).2]) ∧ Below w.heap.size w w' := by
  by_cases h1 : overCode xs s t = 0
  · have HR : Hid (fewestErased xs s t = ((erGo 0 ((planOf xs s t).map (·.1)) : Int), 0)) := by unfold Hid fewestErased correctionPlan; rw [if_pos h1, if_pos h1]; rfl
    have hps : (mkB ((planOf xs s t).map (·.1))).size ≤ 60 := by
      have := plan_size h1
      unfold correctionPlan at this
      rw [if_pos h1] at this
      exact this
    obtain ⟨k1, k2, k3, k4⟩ := overCode_ok h1
    have HL := hide (okOvers_lets k1).1
    have hs60 := isTxt_size k2
    have e1 : t.size ≤ s.size := by omega
    have e2 : s.size ≤ t.size := by omega
    have e3 : s.size ≤ 60 := by omega
    replace hu := hide hu
    clear k1 k2 k3 k4
    go_enter Try.func51, Try.ntmps51
    go_wp2_with (first | (go_at_call 74; refine (l12Code_any _ _ _ _ xs s t h hcap hu.out hs ht).mono ?_; rintro e w1 ⟨rfl, hb⟩; have hsz := hb.size; obtain ⟨hcw, hfw⟩ := bcell hb) | (go_at_call 75; refine (l12Plan_any _ _ _ _ xs s t (h.on hb) HL.out e3 e1 e2).mono ?_; rintro e w2 ⟨rfl, hb2⟩) | (go_at_call 56; refine (l12Erased_any _ _ (by omega)).mono ?_; rintro e w1 ⟨rfl, rfl⟩))
    go_ret2
    exact ⟨by rw [HR.out]; rfl, Below.step hb hb2⟩
  · have HR : Hid (fewestErased xs s t = (0, overCode xs s t)) := by unfold Hid fewestErased; rw [if_neg h1]
    have h1b : (overCode xs s t != 0) = true := by simpa using h1
    replace hu := hide hu
    go_enter Try.func51, Try.ntmps51
    go_wp2_with (go_at_call 74; refine (l12Code_any _ _ _ _ xs s t h hcap hu.out hs ht).mono ?_; rintro e w1 ⟨rfl, hb⟩; have hsz := hb.size; obtain ⟨hcw, hfw⟩ := bcell hb)
    go_ret2
    exact ⟨by rw [HR.out]; rfl, by (repeat first | exact Below.refl _ _ | (refine Below.alloc ?_ (by go_size) _) | (refine Below.step ?_ (by assumption)))⟩
end Go.Proofs.Ytokdbkkjneadgaa
