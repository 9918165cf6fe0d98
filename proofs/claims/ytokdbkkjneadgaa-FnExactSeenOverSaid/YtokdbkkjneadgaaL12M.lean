/-
  SeenOver: what it returns, for all arguments.
-/
import Derived.Test.YtokdbkkjneadgaaL12K
import Derived.Test.YtokdbkkjneadgaaStrs
namespace Go.Proofs.Ytokdbkkjneadgaa
set_option maxRecDepth 100000
open Go.RowKit

def inT (b : UInt8) : Bool := decide (32 ≤ (b.toNat : Int) ∧ (b.toNat : Int) < 127)
def oneB (s : ByteArray) : Bool := match by_ s with
  | [b] => inT b
  | _ => false
theorem oneB_one (b : UInt8) : oneB ⟨#[b]⟩ = inT b := rfl
theorem oneB_size {s : ByteArray} (h : ¬ s.size = 1) : oneB s = false := by
  unfold oneB
  split
  · rename_i b e
    have := by_len s; rw [e] at this; simp at this; omega
  · rfl
theorem inT_pos {b : UInt8} (h : inT b = true) : b ≠ 0 := by rintro rfl; simp [inT] at h
theorem isTxt_two (a b : UInt8) : isTxt 32 2 (⟨#[a]⟩ ++ ⟨#[b]⟩) = (inT a && inT b) := by
  have e : by_ (⟨#[a]⟩ ++ ⟨#[b]⟩) = [a, b] := rfl
  have z : ((⟨#[a]⟩ ++ ⟨#[b]⟩ : ByteArray).size : Int) = 2 := rfl
  rw [isTxt, e, z, textGo, textGo, textGo, Bool.eq_iff_iff]
  unfold inT
  by_cases h1 : (a.toNat : Int) < 32 ∨ 126 < (a.toNat : Int)
  · rw [if_pos h1]; simp; omega
  · rw [if_neg h1]
    by_cases h2 : (b.toNat : Int) < 32 ∨ 126 < (b.toNat : Int)
    · rw [if_pos h2]; simp; omega
    · rw [if_neg h2]; simp; omega
theorem str_one (b : UInt8) : strOfNums [(b.toNat : Int)] = ⟨#[b]⟩ := by simp [strOfNums]
theorem conv_byte (b : UInt8) (W : World) : (convert 83 9 (.slice (some ⟨W.heap.size, 0, none⟩) 1 1)).run Try.prog (W.alloc (.cells #[.int .u8 (b.toNat : Int)] 5)) = .ok (.string ⟨#[b]⟩) (W.alloc (.cells #[.int .u8 (b.toNat : Int)] 5)) := by
  rw [← str_one]; exact conv_one _ _

theorem l12Byte_any (w : World) (s : ByteArray) (hs : s.size ≤ 1048576) :
    Calls Try.prog 70 #[.string s] w fun e w' => e = .returned (.bool (oneB s)) ∧ w = w' := by
  by_cases h0 : s.size = 1
  · obtain ⟨b, rfl⟩ := one_form h0
    have hr1 := run_byte0 (s := ⟨#[b]⟩) (b := b) rfl
    have hz : ((⟨#[b]⟩ : ByteArray).size : Int) = 1 := rfl
    clear h0 hs
    rw [oneB_one]
    by_cases h1 : 32 ≤ (b.toNat : Int)
    · by_cases h2 : (b.toNat : Int) < 127
      · have HR1 : Hid (inT b = true) := by unfold Hid inT; simp; omega
        go_enter Try.func70, Try.ntmps70
        go_wp2
        go_ret
        exact ⟨ret_bool HR1.out.symm, rfl⟩
      · have HR1 : Hid (inT b = false) := by unfold Hid inT; simp; omega
        go_enter Try.func70, Try.ntmps70
        go_wp2
        go_ret
        exact ⟨ret_bool HR1.out.symm, rfl⟩
    · have HR1 : Hid (inT b = false) := by unfold Hid inT; simp; omega
      go_enter Try.func70, Try.ntmps70
      go_wp2
      go_ret
      exact ⟨ret_bool HR1.out.symm, rfl⟩
  · have HR0 := hide (oneB_size h0)
    have hz : ((s.size : Int) == 1) = false := beq_eq_false_iff_ne.2 (by omega)
    clear h0
    go_enter Try.func70, Try.ntmps70
    go_wp2
    go_ret
    exact ⟨ret_bool HR0.out.symm, rfl⟩

def seenOver (xs : List Rule) (s t : ByteArray) : ByteArray × Int :=
  if okOvers xs = true then (if oneB s = true ∧ oneB t = true then (match seenB xs (hd s) (hd t) with | none => (⟨#[]⟩, 3) | some b => (⟨#[b]⟩, 0)) else (⟨#[]⟩, 2)) else (⟨#[]⟩, 1)

set_option maxHeartbeats 1000000 in
theorem SeenOver_S (w : World) (A : Option Addr) (n c : Nat) (xs : List Rule) (s t : ByteArray) (h : Sl3 Value.string w A n xs) (hu : OvB xs) (hs : s.size ≤ 1048576) (ht : t.size ≤ 1048576) :
    Calls Try.prog 42 #[.slice A n c, .string s, .string t] w fun e w' => e = .returned (.tuple #[.string (seenOver xs s t).1, .int .i64 (seenOver xs s t).2]) ∧ Below w.heap.size w w' := by
  replace hu := hide hu
  by_cases h1 : okOvers xs = true
  · have HL := hide (okOvers_lets h1).1
    by_cases h2 : oneB s = true
    · by_cases h3 : oneB t = true
      · have q1 : s.size = 1 := by
          by_cases e : s.size = 1
          · exact e
          · rw [oneB_size e] at h2; cases h2
        have q2 : t.size = 1 := by
          by_cases e : t.size = 1
          · exact e
          · rw [oneB_size e] at h3; cases h3
        obtain ⟨a, rfl⟩ := one_form q1
        obtain ⟨b, rfl⟩ := one_form q2
        have hr1 := run_byte0 (s := ⟨#[a]⟩) (b := a) rfl
        have hr2 := run_byte0 (s := ⟨#[b]⟩) (b := b) rfl
        have z1 : (0 : Int) < ((⟨#[a]⟩ : ByteArray).size : Int) := by show (0 : Int) < 1; decide
        have z2 : (0 : Int) < ((⟨#[b]⟩ : ByteArray).size : Int) := by show (0 : Int) < 1; decide
        have HR : Hid (seenOver xs ⟨#[a]⟩ ⟨#[b]⟩ = match seenB xs a b with | none => (⟨#[]⟩, 3) | some b => (⟨#[b]⟩, 0)) := by unfold Hid seenOver; rw [if_pos h1, if_pos ⟨h2, h3⟩]; rfl
        have hp1 := inT_pos (by rw [← oneB_one]; exact h2)
        have hp2 := inT_pos (by rw [← oneB_one]; exact h3)
        clear q1 q2
        obtain ⟨q, hq⟩ : ∃ q, seenB xs a b = q := ⟨_, rfl⟩
        cases q with
        | none =>
          have H2 : Hid (seenOver xs ⟨#[a]⟩ ⟨#[b]⟩ = (⟨#[]⟩, 3)) := by unfold Hid; rw [HR.out, hq]
          replace hq := hide hq
          clear hp1 hp2
          go_enter Try.func42, Try.ntmps42
          go_wp2_with (first | (go_at_call 68; refine (l12Ok_any _ _ _ _ xs h hu.out).mono ?_; rintro e w1 ⟨rfl, hb⟩; have hsz := hb.size; obtain ⟨hcw, hfw⟩ := bcell hb) | (go_at_call 70; refine (l12Byte_any _ _ (by assumption)).mono ?_; rintro e w1 ⟨rfl, rfl⟩))
          go_region_with (go_at_call 71; refine (l12Seen_any _ _ _ _ xs a b ((h.on hb).draw1) HL.out).mono ?_; rintro e w2 ⟨rfl, hb2⟩; rw [hq.out])
          all_goals
            go_wp2
            go_ret2
            exact ⟨by rw [H2.out]; rfl, Below.step hb (Below.step (Below.refl _ _).drew hb2)⟩
        | some q =>
          have H2 : Hid (seenOver xs ⟨#[a]⟩ ⟨#[b]⟩ = (⟨#[q]⟩, 0)) := by unfold Hid; rw [HR.out, hq]
          have hq0 : ((q.toNat : Int) == 0) = false := b_ne (c := 0) (seenB_pos HL.out hp1 hp2 hq)
          have hcv := conv_byte q
          replace hq := hide hq
          clear hp1 hp2
          go_enter Try.func42, Try.ntmps42
          go_wp2_with (first | (go_at_call 68; refine (l12Ok_any _ _ _ _ xs h hu.out).mono ?_; rintro e w1 ⟨rfl, hb⟩; have hsz := hb.size; obtain ⟨hcw, hfw⟩ := bcell hb) | (go_at_call 70; refine (l12Byte_any _ _ (by assumption)).mono ?_; rintro e w1 ⟨rfl, rfl⟩))
          go_region_with (go_at_call 71; refine (l12Seen_any _ _ _ _ xs a b ((h.on hb).draw1) HL.out).mono ?_; rintro e w2 ⟨rfl, hb2⟩; rw [hq.out])
          all_goals
            go_wp2
            go_ret2
            exact ⟨by rw [H2.out]; rfl, (Below.step hb (Below.step (Below.refl _ _).drew hb2)).alloc (Below.step hb (Below.step (Below.refl _ _).drew hb2)).size _⟩
      · have HR : Hid (seenOver xs s t = (⟨#[]⟩, 2)) := by unfold Hid seenOver; rw [if_pos h1, if_neg (fun e => h3 e.2)]
        replace h3 : oneB t = false := by simpa using h3
        go_enter Try.func42, Try.ntmps42
        go_wp2_with (first | (go_at_call 68; refine (l12Ok_any _ _ _ _ xs h hu.out).mono ?_; rintro e w1 ⟨rfl, hb⟩; have hsz := hb.size; obtain ⟨hcw, hfw⟩ := bcell hb) | (go_at_call 70; refine (l12Byte_any _ _ (by assumption)).mono ?_; rintro e w1 ⟨rfl, rfl⟩))
        go_ret2
        exact ⟨by rw [HR.out]; rfl, by (repeat first | exact Below.refl _ _ | (refine Below.alloc ?_ (by go_size) _) | (refine Below.step ?_ (by assumption)))⟩
    · have HR : Hid (seenOver xs s t = (⟨#[]⟩, 2)) := by unfold Hid seenOver; rw [if_pos h1, if_neg (fun e => h2 e.1)]
      replace h2 : oneB s = false := by simpa using h2
      go_enter Try.func42, Try.ntmps42
      go_wp2_with (first | (go_at_call 68; refine (l12Ok_any _ _ _ _ xs h hu.out).mono ?_; rintro e w1 ⟨rfl, hb⟩; have hsz := hb.size; obtain ⟨hcw, hfw⟩ := bcell hb) | (go_at_call 70; refine (l12Byte_any _ _ (by assumption)).mono ?_; rintro e w1 ⟨rfl, rfl⟩))
      go_ret2
      exact ⟨by rw [HR.out]; rfl, by (repeat first | exact Below.refl _ _ | (refine Below.alloc ?_ (by go_size) _) | (refine Below.step ?_ (by assumption)))⟩
  · have HR : Hid (seenOver xs s t = (⟨#[]⟩, 1)) := by unfold Hid seenOver; rw [if_neg h1]
    replace h1 : okOvers xs = false := by simpa using h1
    go_enter Try.func42, Try.ntmps42
    go_wp2_with (go_at_call 68; refine (l12Ok_any _ _ _ _ xs h hu.out).mono ?_; rintro e w1 ⟨rfl, hb⟩; have hsz := hb.size; obtain ⟨hcw, hfw⟩ := bcell hb)
    go_ret2
    exact ⟨by rw [HR.out]; rfl, by (repeat first | exact Below.refl _ _ | (refine Below.alloc ?_ (by go_size) _) | (refine Below.step ?_ (by assumption)))⟩

theorem isTxt_pair {s t : ByteArray} (h1 : s.size = 1) (h2 : t.size = 1) : isTxt 32 2 (s ++ t) = (oneB s && oneB t) := by
  obtain ⟨a, rfl⟩ := one_form h1
  obtain ⟨b, rfl⟩ := one_form h2
  rw [isTxt_two, oneB_one, oneB_one]

set_option maxHeartbeats 1000000 in
theorem SeenOver_I (w : World) (A : Option Addr) (n c : Nat) (xs : List Rule) (s t : ByteArray) (h : Sl3 Value.string w A n xs) (hcap : n ≤ c) (hu : OvB xs) (hs : s.size ≤ 1048576) (ht : t.size ≤ 1048576) :
    Calls Try.prog 43 #[.slice A n c, .string s, .string t] w fun e w' => e = .returned (.tuple #[.string (seenOver xs s t).1, .int .i64 (seenOver xs s t).2]) ∧ Below w.heap.size w w' := by
  replace hu := hide hu
  have hsz : (s ++ t).size = s.size + t.size := ByteArray.size_append
  by_cases h1 : okOvers xs = true
  · have HL := hide (okOvers_lets h1).1
    by_cases q1 : s.size = 1
    · have y1 : ((s.size : Int) != 1) = false := by simp; omega
      by_cases q2 : t.size = 1
      · have y2 : ((t.size : Int) != 1) = false := by simp; omega
        have hst : (s ++ t).size ≤ 9223372036854775807 := by rw [hsz]; omega
        have HT := hide (isTxt_pair q1 q2)
        by_cases h2 : (oneB s && oneB t) = true
        · rw [Bool.and_eq_true] at h2
          obtain ⟨h2, h3⟩ := h2
          have HT2 : Hid (isTxt 32 2 (s ++ t) = true) := by unfold Hid; rw [HT.out, h2, h3]; rfl
          have HR : Hid (seenOver xs s t = match seenB xs (hd s) (hd t) with | none => (⟨#[]⟩, 3) | some b => (⟨#[b]⟩, 0)) := by unfold Hid seenOver; rw [if_pos h1, if_pos ⟨h2, h3⟩]
          obtain ⟨a, ha⟩ := one_form q1
          obtain ⟨b, hb⟩ := one_form q2
          have hr1 : ∀ W : World, (Instr.index 9 (.string s) (.int .i64 0)).run Try.prog W = .ok (.int .u8 (a.toNat : Int)) W := fun W => run_byte0 (b := a) (by rw [ha]; rfl) W
          have hr2 : ∀ W : World, (Instr.index 9 (.string t) (.int .i64 0)).run Try.prog W = .ok (.int .u8 (b.toNat : Int)) W := fun W => run_byte0 (b := b) (by rw [hb]; rfl) W
          have z1 : (0 : Int) < (s.size : Int) := by omega
          have z2 : (0 : Int) < (t.size : Int) := by omega
          rw [ha, hb, hd_one, hd_one, ← ha, ← hb] at HR
          clear q1 q2 ha hb hsz
          obtain ⟨q, hq⟩ : ∃ q, seenB xs a b = q := ⟨_, rfl⟩
          cases q with
          | none =>
            have H2 : Hid (seenOver xs s t = (⟨#[]⟩, 3)) := by unfold Hid; rw [HR.out, hq]
            replace hq := hide hq
            go_enter Try.func43, Try.ntmps43
            go_wp2_with (first | (go_at_call 34; refine (ValidOvers_any _ _ _ _ xs h hcap hu.out).mono ?_; rintro e w1 ⟨rfl, hb⟩; have hsz := hb.size; obtain ⟨hcw, hfw⟩ := bcell hb) | (go_at_call 72; refine (isText_any _ _ _ _ hst).mono ?_; rintro e w2 ⟨rfl, rfl⟩; rw [HT2.out]))
            go_region_with (go_at_call 73; refine (seen_any _ _ _ _ xs a b ((h.on hb).draw1) HL.out).mono ?_; rintro e w2 ⟨rfl, hb2⟩; rw [hq.out])
            all_goals
              go_wp2
              go_ret2
              exact ⟨by rw [H2.out]; rfl, Below.step hb (Below.step (Below.refl _ _).drew hb2)⟩
          | some q =>
            have H2 : Hid (seenOver xs s t = (⟨#[q]⟩, 0)) := by unfold Hid; rw [HR.out, hq]
            have hcv := conv_byte q
            replace hq := hide hq
            go_enter Try.func43, Try.ntmps43
            go_wp2_with (first | (go_at_call 34; refine (ValidOvers_any _ _ _ _ xs h hcap hu.out).mono ?_; rintro e w1 ⟨rfl, hb⟩; have hsz := hb.size; obtain ⟨hcw, hfw⟩ := bcell hb) | (go_at_call 72; refine (isText_any _ _ _ _ hst).mono ?_; rintro e w2 ⟨rfl, rfl⟩; rw [HT2.out]))
            go_region_with (go_at_call 73; refine (seen_any _ _ _ _ xs a b ((h.on hb).draw1) HL.out).mono ?_; rintro e w2 ⟨rfl, hb2⟩; rw [hq.out])
            all_goals
              go_wp2
              go_ret2
              exact ⟨by rw [H2.out]; rfl, (Below.step hb (Below.step (Below.refl _ _).drew hb2)).alloc (Below.step hb (Below.step (Below.refl _ _).drew hb2)).size _⟩
        · have HR : Hid (seenOver xs s t = (⟨#[]⟩, 2)) := by unfold Hid seenOver; rw [if_pos h1, if_neg (fun e => h2 (by rw [e.1, e.2]; rfl))]
          have HT2 : Hid (isTxt 32 2 (s ++ t) = false) := by unfold Hid; rw [HT.out]; simpa using h2
          clear q1 q2 h2 hsz
          go_enter Try.func43, Try.ntmps43
          go_wp2_with (first | (go_at_call 34; refine (ValidOvers_any _ _ _ _ xs h hcap hu.out).mono ?_; rintro e w1 ⟨rfl, hb⟩; have hsz := hb.size; obtain ⟨hcw, hfw⟩ := bcell hb) | (go_at_call 72; refine (isText_any _ _ _ _ hst).mono ?_; rintro e w2 ⟨rfl, rfl⟩; rw [HT2.out]))
          go_ret2
          exact ⟨by rw [HR.out]; rfl, by (repeat first | exact Below.refl _ _ | (refine Below.alloc ?_ (by go_size) _) | (refine Below.step ?_ (by assumption)))⟩
      · have y2 : ((t.size : Int) != 1) = true := by simp; omega
        have HR : Hid (seenOver xs s t = (⟨#[]⟩, 2)) := by unfold Hid seenOver; rw [if_pos h1, if_neg (fun e => by rw [oneB_size q2] at e; cases e.2)]
        clear q1 q2 hsz
        go_enter Try.func43, Try.ntmps43
        go_wp2_with (go_at_call 34; refine (ValidOvers_any _ _ _ _ xs h hcap hu.out).mono ?_; rintro e w1 ⟨rfl, hb⟩; have hsz := hb.size; obtain ⟨hcw, hfw⟩ := bcell hb)
        go_ret2
        exact ⟨by rw [HR.out]; rfl, by (repeat first | exact Below.refl _ _ | (refine Below.alloc ?_ (by go_size) _) | (refine Below.step ?_ (by assumption)))⟩
    · have y1 : ((s.size : Int) != 1) = true := by simp; omega
      have HR : Hid (seenOver xs s t = (⟨#[]⟩, 2)) := by unfold Hid seenOver; rw [if_pos h1, if_neg (fun e => by rw [oneB_size q1] at e; cases e.1)]
      clear q1 hsz
      go_enter Try.func43, Try.ntmps43
      go_wp2_with (go_at_call 34; refine (ValidOvers_any _ _ _ _ xs h hcap hu.out).mono ?_; rintro e w1 ⟨rfl, hb⟩; have hsz := hb.size; obtain ⟨hcw, hfw⟩ := bcell hb)
      go_ret2
      exact ⟨by rw [HR.out]; rfl, by (repeat first | exact Below.refl _ _ | (refine Below.alloc ?_ (by go_size) _) | (refine Below.step ?_ (by assumption)))⟩
  · have HR : Hid (seenOver xs s t = (⟨#[]⟩, 1)) := by unfold Hid seenOver; rw [if_neg h1]
    replace h1 : okOvers xs = false := by simpa using h1
    clear hsz
    go_enter Try.func43, Try.ntmps43
    go_wp2_with (go_at_call 34; refine (ValidOvers_any _ _ _ _ xs h hcap hu.out).mono ?_; rintro e w1 ⟨rfl, hb⟩; have hsz := hb.size; obtain ⟨hcw, hfw⟩ := bcell hb)
    go_ret2
    exact ⟨by rw [HR.out]; rfl, by (repeat first | exact Below.refl _ _ | (refine Below.alloc ?_ (by go_size) _) | (refine Below.step ?_ (by assumption)))⟩
end Go.Proofs.Ytokdbkkjneadgaa
