/-
  FewestLines, LeastWidth: what they return, for all arguments.
-/
import Derived.Test.YtdfhibkennbliaaL09B
namespace Go.Proofs.Ytdfhibkennbliaa
set_option maxRecDepth 100000
open Go.RowKit

def fewest (xs : List ByteArray) (m : Int) : Int := if xs.length = 0 then 0 else ((firstB xs m).length : Int) + 1
def fewestR (xs : List ByteArray) (m : Int) : Int × Int := if validT xs m = true then (fewest xs m, 0) else (0, 1)
set_option maxHeartbeats 400000 in
theorem fewestLines_any (w : World) (A : Option Addr) (n c : Nat) (xs : List ByteArray) (m : Int) (h : Sl Value.string w A n xs) (hcap : n ≤ c) (hn : n ≤ 40) (hs : ∀ s ∈ xs, s.size ≤ 80) :
    Calls Try.prog 52 #[.slice A n c, .int .i64 m] w fun e w' => e = .returned (.int .i64 (fewest xs m)) ∧ Below w.heap.size w w' := by
  by_cases h0 : n = 0
  · have HR : Hid (fewest xs m = 0) := by unfold Hid fewest; rw [h.len, if_pos h0]
    have hz : ((n : Int) == 0) = true := by simp [h0]
    clear h0
    go_enter Try.func52, Try.ntmps52
    go_wp2
    go_ret
    exact ⟨ret_int HR.out.symm, Below.refl _ _⟩
  · have HR : Hid (fewest xs m = ((firstB xs m).length : Int) + 1) := by unfold Hid fewest; rw [h.len, if_neg h0]
    have hz : ((n : Int) == 0) = false := beq_eq_false_iff_ne.2 (by omega)
    have hfl := firstB_len xs m
    rw [h.len] at hfl
    clear h0
    go_enter Try.func52, Try.ntmps52
    go_wp2_with fail
    refine (firstBreaks_any _ _ _ _ xs m h hcap hn hs).mono ?_
    rintro e w2 ⟨v2, rfl, hc2⟩
    obtain ⟨A2, c2, rfl, -, -, -⟩ := Sl.of_coll hc2
    have HB := hide hc2.below
    clear hc2
    go_wp2
    go_ret
    exact ⟨ret_int HR.out.symm, HB.out⟩
set_option maxHeartbeats 400000 in
theorem FewestLines_I (w : World) (A : Option Addr) (n c : Nat) (xs : List ByteArray) (m : Int) (h : Sl Value.string w A n xs) (hcap : n ≤ c) (hu : ∀ s ∈ xs, (s.size : Int) ≤ 1048576) :
    Calls Try.prog 25 #[.slice A n c, .int .i64 m] w fun e w' => e = .returned (.tuple #[.int .i64 (fewestR xs m).1, .int .i64 (fewestR xs m).2]) ∧ Below w.heap.size w w' := by
  replace hu := hide hu
  by_cases hv : validT xs m = true
  · have HR : Hid (fewestR xs m = (fewest xs m, 0)) := by unfold Hid fewestR; rw [if_pos hv]
    obtain ⟨f1, f2, f3, f4⟩ := validT_facts hv
    rw [h.len] at f2
    have HS := hide (fun s hs => by have := f1 s hs; omega : ∀ s ∈ xs, s.size ≤ 80)
    clear f1
    go_enter Try.func25, Try.ntmps25
    go_wp2_with (go_at_call 23; refine (ValidText_I _ _ _ _ xs _ h hu.out).mono ?_; rintro e w1 ⟨rfl, hb⟩)
    refine (fewestLines_any _ _ _ _ xs m (h.on hb) hcap f2 HS.out).mono ?_
    rintro e w2 ⟨rfl, hb2⟩
    go_wp2
    go_ret2
    exact ⟨by rw [HR.out]; rfl, Below.step hb hb2⟩
  · have HR : Hid (fewestR xs m = (0, 1)) := by unfold Hid fewestR; rw [if_neg hv]
    replace hv : validT xs m = false := by simpa using hv
    go_enter Try.func25, Try.ntmps25
    go_wp2_with (go_at_call 23; refine (ValidText_I _ _ _ _ xs _ h hu.out).mono ?_; rintro e w1 ⟨rfl, hb⟩)
    go_ret2
    exact ⟨by rw [HR.out]; rfl, hb⟩
set_option maxHeartbeats 400000 in
theorem FewestLines_S (w : World) (A : Option Addr) (n c : Nat) (xs : List ByteArray) (m : Int) (h : Sl Value.string w A n xs) (hcap : n ≤ c) (hu : ∀ s ∈ xs, (s.size : Int) ≤ 1048576) :
    Calls Try.prog 24 #[.slice A n c, .int .i64 m] w fun e w' => e = .returned (.tuple #[.int .i64 (fewestR xs m).1, .int .i64 (fewestR xs m).2]) ∧ Below w.heap.size w w' := by
  replace hu := hide hu
  by_cases hv : validT xs m = true
  · obtain ⟨f1, f2, f3, f4⟩ := validT_facts hv
    rw [h.len] at f2
    have HS := hide (fun s hs => by have := f1 s hs; omega : ∀ s ∈ xs, s.size ≤ 80)
    clear f1
    by_cases h0 : n = 0
    · have HR : Hid (fewestR xs m = (0, 0)) := by unfold Hid fewestR fewest; rw [if_pos hv, h.len, if_pos h0]
      have hz : ((n : Int) == 0) = true := by simp [h0]
      clear h0
      go_enter Try.func24, Try.ntmps24
      go_wp2_with (go_at_call 48; refine (l09Ok_any _ _ _ _ xs _ h hu.out).mono ?_; rintro e w1 ⟨rfl, hb⟩)
      go_ret2
      exact ⟨by rw [HR.out]; rfl, hb⟩
    · have HR : Hid (fewestR xs m = (((firstB xs m).length : Int) + 1, 0)) := by unfold Hid fewestR fewest; rw [if_pos hv, h.len, if_neg h0]
      have hz : ((n : Int) == 0) = false := beq_eq_false_iff_ne.2 (by omega)
      have hfl := firstB_len xs m
      rw [h.len] at hfl
      clear h0
      go_enter Try.func24, Try.ntmps24
      go_wp2_with (go_at_call 48; refine (l09Ok_any _ _ _ _ xs _ h hu.out).mono ?_; rintro e w1 ⟨rfl, hb⟩)
      refine (l09First_any _ _ _ _ xs m (h.on hb) hcap f2 HS.out).mono ?_
      rintro e w2 ⟨v2, rfl, hc2⟩
      obtain ⟨A2, c2, rfl, -, -, -⟩ := Sl.of_coll hc2
      have HB := hide (Below.step hb hc2.below)
      clear hc2
      go_wp2
      go_ret2
      exact ⟨by rw [HR.out]; rfl, HB.out⟩
  · have HR : Hid (fewestR xs m = (0, 1)) := by unfold Hid fewestR; rw [if_neg hv]
    replace hv : validT xs m = false := by simpa using hv
    go_enter Try.func24, Try.ntmps24
    go_wp2_with (go_at_call 48; refine (l09Ok_any _ _ _ _ xs _ h hu.out).mono ?_; rintro e w1 ⟨rfl, hb⟩)
    go_ret2
    exact ⟨by rw [HR.out]; rfl, hb⟩

/-! ### LeastWidth -/
def leastGo (xs : List ByteArray) (l : Int) : Nat → Nat → Int × Int
  | 0, _ => (0, 5)
  | f + 1, k => if validT xs (k : Int) = true ∧ fewest xs (k : Int) ≤ l then ((k : Int), 0) else leastGo xs l f (k + 1)
def leastR (xs : List ByteArray) (l : Int) : Int × Int := if validT xs 80 = true then (if inB l 1 40 = true then leastGo xs l 80 1 else (0, 2)) else (0, 1)
theorem leastGo_step {xs : List ByteArray} {l : Int} {k : Nat} (h : k ≤ 80) : leastGo xs l (81 - k) k = if validT xs (k : Int) = true ∧ fewest xs (k : Int) ≤ l then ((k : Int), 0) else leastGo xs l (81 - (k + 1)) (k + 1) := by
  rw [show 81 - k = (81 - (k + 1)) + 1 from by omega, leastGo]
theorem fewest_lt {xs : List ByteArray} {m l : Int} (hl : 1 ≤ l) : fewest xs m ≤ l ↔ ((firstB xs m).length : Int) < l := by
  unfold fewest
  by_cases h : xs.length = 0
  · rw [if_pos h]
    have := firstB_len xs m
    rw [h] at this
    constructor <;> omega
  · rw [if_neg h]; constructor <;> omega
set_option maxHeartbeats 1000000 in
theorem LeastWidth_I (w : World) (A : Option Addr) (n c : Nat) (xs : List ByteArray) (l : Int) (h : Sl Value.string w A n xs) (hcap : n ≤ c) (hu : ∀ s ∈ xs, (s.size : Int) ≤ 1048576) :
    Calls Try.prog 29 #[.slice A n c, .int .i64 l] w fun e w' => e = .returned (.tuple #[.int .i64 (leastR xs l).1, .int .i64 (leastR xs l).2]) ∧ Below w.heap.size w w' := by
  replace hu := hide hu
  by_cases hv : validT xs 80 = true
  · obtain ⟨f1, f2, f3, f4⟩ := validT_facts hv
    rw [h.len] at f2
    have HS := hide (fun s hs => by have := f1 s hs; omega : ∀ s ∈ xs, s.size ≤ 80)
    clear f1
    by_cases hl : inB l 1 40 = true
    · have HR : Hid (leastR xs l = leastGo xs l 80 1) := by unfold Hid leastR; rw [if_pos hv, if_pos hl]
      have hlb := inB_iff.1 hl
      replace hv := hide hv
      go_enter Try.func29, Try.ntmps29
      go_wp2_with (first | (go_at_call 23; refine (ValidText_I _ _ _ _ xs _ h hu.out).mono ?_; rintro e w1 ⟨rfl, hb⟩; rw [hv.out]) | (go_at_call 49; refine (between_any _ _ _ _).mono ?_; rintro e w1 ⟨rfl, rfl⟩))
      go_loopw [6] (fun i wr => ∃ k : Nat, 1 ≤ k ∧ k ≤ 81 ∧ i = .int .i64 k ∧ Below w.heap.size w wr ∧ leastGo xs l (81 - k) k = leastGo xs l 80 1) (fun i _ => 81 - (intOf i).toNat)
      case atStart => exact ⟨1, Nat.le_refl _, by decide, rfl, hb, rfl⟩
      case round =>
        clear hb
        obtain ⟨k, hk1, hk, rfl, hb, HG⟩ := hrel
        by_cases hlt : (k : Int) ≤ 80
        · rw [leastGo_step (by omega)] at HG
          obtain ⟨z, hz⟩ : ∃ z, validT xs (k : Int) = z := ⟨_, rfl⟩
          have HZ := hide hz
          rw [hz] at HG
          clear hz
          cases z with
          | false =>
            rw [if_neg (by simp)] at HG
            have HN := hide HG
            clear HG
            go_wp2_with (go_at_call 23; refine (ValidText_I _ _ _ _ xs _ (h.on hb) hu.out).mono ?_; rintro e w2 ⟨rfl, hb2⟩; rw [HZ.out])
            go_roundw
            case rel => exact ⟨k + 1, by omega, by omega, by go_num, Below.step hb hb2, HN.out⟩
            case measure => simp [intOf]; omega
          | true =>
            obtain ⟨q, hq⟩ : ∃ q, fewest xs (k : Int) = q := ⟨_, rfl⟩
            have HQ := hide hq
            rw [hq] at HG
            clear hq
            by_cases hql : q ≤ l
            · rw [if_pos ⟨rfl, hql⟩] at HG
              have HN := hide HG
              clear HG
              go_wp2_with (first
                | (go_at_call 23; refine (ValidText_I _ _ _ _ xs _ (h.on hb) hu.out).mono ?_; rintro e w2 ⟨rfl, hb2⟩; rw [HZ.out])
                | (go_at_call 52; refine (fewestLines_any _ _ _ _ xs _ ((h.on hb).on hb2) hcap f2 HS.out).mono ?_; rintro e w3 ⟨rfl, hb3⟩; rw [HQ.out]))
              go_ret2
              exact ⟨by rw [HR.out, ← HN.out]; rfl, Below.step (Below.step hb hb2) hb3⟩
            · rw [if_neg (fun e => hql e.2)] at HG
              have HN := hide HG
              clear HG
              go_wp2_with (first
                | (go_at_call 23; refine (ValidText_I _ _ _ _ xs _ (h.on hb) hu.out).mono ?_; rintro e w2 ⟨rfl, hb2⟩; rw [HZ.out])
                | (go_at_call 52; refine (fewestLines_any _ _ _ _ xs _ ((h.on hb).on hb2) hcap f2 HS.out).mono ?_; rintro e w3 ⟨rfl, hb3⟩; rw [HQ.out]))
              go_roundw
              case rel => exact ⟨k + 1, by omega, by omega, by go_num, Below.step (Below.step hb hb2) hb3, HN.out⟩
              case measure => simp [intOf]; omega
        · have HN : Hid (leastGo xs l 80 1 = (0, 5)) := by
            unfold Hid
            rw [← HG, show 81 - k = 0 from by omega, leastGo]
          clear HG
          go_wp2
          go_ret2
          exact ⟨by rw [HR.out, HN.out]; rfl, hb⟩
    · have HR : Hid (leastR xs l = (0, 2)) := by unfold Hid leastR; rw [if_pos hv, if_neg hl]
      replace hl : inB l 1 40 = false := by simpa using hl
      replace hv := hide hv
      go_enter Try.func29, Try.ntmps29
      go_wp2_with (first | (go_at_call 23; refine (ValidText_I _ _ _ _ xs _ h hu.out).mono ?_; rintro e w1 ⟨rfl, hb⟩; rw [hv.out]) | (go_at_call 49; refine (between_any _ _ _ _).mono ?_; rintro e w1 ⟨rfl, rfl⟩))
      go_ret2
      exact ⟨by rw [HR.out]; rfl, hb⟩
  · have HR : Hid (leastR xs l = (0, 1)) := by unfold Hid leastR; rw [if_neg hv]
    replace hv : Hid (validT xs 80 = false) := by unfold Hid; simpa using hv
    go_enter Try.func29, Try.ntmps29
    go_wp2_with (go_at_call 23; refine (ValidText_I _ _ _ _ xs _ h hu.out).mono ?_; rintro e w1 ⟨rfl, hb⟩; rw [hv.out])
    go_ret2
    exact ⟨by rw [HR.out]; rfl, hb⟩
set_option maxHeartbeats 1000000 in
theorem LeastWidth_S (w : World) (A : Option Addr) (n c : Nat) (xs : List ByteArray) (l : Int) (h : Sl Value.string w A n xs) (hcap : n ≤ c) (hu : ∀ s ∈ xs, (s.size : Int) ≤ 1048576) :
    Calls Try.prog 28 #[.slice A n c, .int .i64 l] w fun e w' => e = .returned (.tuple #[.int .i64 (leastR xs l).1, .int .i64 (leastR xs l).2]) ∧ Below w.heap.size w w' := by
  replace hu := hide hu
  by_cases hv : validT xs 80 = true
  · obtain ⟨f1, f2, f3, f4⟩ := validT_facts hv
    rw [h.len] at f2
    have HS := hide (fun s hs => by have := f1 s hs; omega : ∀ s ∈ xs, s.size ≤ 80)
    clear f1
    by_cases hl : inB l 1 40 = true
    · have HR : Hid (leastR xs l = leastGo xs l 80 1) := by unfold Hid leastR; rw [if_pos hv, if_pos hl]
      have hlb := inB_iff.1 hl
      replace hv := hide hv
      go_enter Try.func28, Try.ntmps28
      go_wp2_with (first | (go_at_call 48; refine (l09Ok_any _ _ _ _ xs _ h hu.out).mono ?_; rintro e w1 ⟨rfl, hb⟩; rw [hv.out]) | (go_at_call 56; refine (l00In_any _ _ _ _).mono ?_; rintro e w1 ⟨rfl, rfl⟩))
      go_loopw [6] (fun i wr => ∃ k : Nat, 1 ≤ k ∧ k ≤ 81 ∧ i = .int .i64 k ∧ Below w.heap.size w wr ∧ leastGo xs l (81 - k) k = leastGo xs l 80 1) (fun i _ => 81 - (intOf i).toNat)
      case atStart => exact ⟨1, Nat.le_refl _, by decide, rfl, hb, rfl⟩
      case round =>
        clear hb
        obtain ⟨k, hk1, hk, rfl, hb, HG⟩ := hrel
        by_cases hlt : (k : Int) ≤ 80
        · rw [leastGo_step (by omega)] at HG
          obtain ⟨z, hz⟩ : ∃ z, validT xs (k : Int) = z := ⟨_, rfl⟩
          have HZ := hide hz
          rw [hz] at HG
          clear hz
          cases z with
          | false =>
            rw [if_neg (by simp)] at HG
            have HN := hide HG
            clear HG
            go_wp2_with (go_at_call 48; refine (l09Ok_any _ _ _ _ xs _ (h.on hb) hu.out).mono ?_; rintro e w2 ⟨rfl, hb2⟩; rw [HZ.out])
            go_roundw
            case rel => exact ⟨k + 1, by omega, by omega, by go_num, Below.step hb hb2, HN.out⟩
            case measure => simp [intOf]; omega
          | true =>
            obtain ⟨q, hq⟩ : ∃ q, (firstB xs (k : Int)).length = q := ⟨_, rfl⟩
            have HQ := hide hq
            by_cases hql : (q : Int) < l
            · rw [if_pos ⟨rfl, (fewest_lt hlb.1).2 (by rw [hq]; exact hql)⟩] at HG
              have HN := hide HG
              clear HG hq
              go_wp2_with (first
                | (go_at_call 48; refine (l09Ok_any _ _ _ _ xs _ (h.on hb) hu.out).mono ?_; rintro e w2 ⟨rfl, hb2⟩; rw [HZ.out])
                | (go_at_call 51; refine (l09First_any _ _ _ _ xs _ ((h.on hb).on hb2) hcap f2 HS.out).mono ?_; rintro e w3 ⟨v3, rfl, hc3⟩; have hb3 := hide hc3.below; obtain ⟨A3, c3, rfl, -, -, -⟩ := Sl.of_coll hc3; rw [HQ.out]; clear hc3))
              go_ret2
              exact ⟨by rw [HR.out, ← HN.out]; rfl, Below.step (Below.step hb hb2) hb3.out⟩
            · rw [if_neg (fun e => hql (by rw [← hq]; exact (fewest_lt hlb.1).1 e.2))] at HG
              have HN := hide HG
              clear HG hq
              go_wp2_with (first
                | (go_at_call 48; refine (l09Ok_any _ _ _ _ xs _ (h.on hb) hu.out).mono ?_; rintro e w2 ⟨rfl, hb2⟩; rw [HZ.out])
                | (go_at_call 51; refine (l09First_any _ _ _ _ xs _ ((h.on hb).on hb2) hcap f2 HS.out).mono ?_; rintro e w3 ⟨v3, rfl, hc3⟩; have hb3 := hide hc3.below; obtain ⟨A3, c3, rfl, -, -, -⟩ := Sl.of_coll hc3; rw [HQ.out]; clear hc3))
              go_roundw
              case rel => exact ⟨k + 1, by omega, by omega, by go_num, Below.step (Below.step hb hb2) hb3.out, HN.out⟩
              case measure => simp [intOf]; omega
        · have HN : Hid (leastGo xs l 80 1 = (0, 5)) := by
            unfold Hid
            rw [← HG, show 81 - k = 0 from by omega, leastGo]
          clear HG
          go_wp2
          go_ret2
          exact ⟨by rw [HR.out, HN.out]; rfl, hb⟩
    · have HR : Hid (leastR xs l = (0, 2)) := by unfold Hid leastR; rw [if_pos hv, if_neg hl]
      replace hl : inB l 1 40 = false := by simpa using hl
      replace hv := hide hv
      go_enter Try.func28, Try.ntmps28
      go_wp2_with (first | (go_at_call 48; refine (l09Ok_any _ _ _ _ xs _ h hu.out).mono ?_; rintro e w1 ⟨rfl, hb⟩; rw [hv.out]) | (go_at_call 56; refine (l00In_any _ _ _ _).mono ?_; rintro e w1 ⟨rfl, rfl⟩))
      go_ret2
      exact ⟨by rw [HR.out]; rfl, hb⟩
  · have HR : Hid (leastR xs l = (0, 1)) := by unfold Hid leastR; rw [if_neg hv]
    replace hv : Hid (validT xs 80 = false) := by unfold Hid; simpa using hv
    go_enter Try.func28, Try.ntmps28
    go_wp2_with (go_at_call 48; refine (l09Ok_any _ _ _ _ xs _ h hu.out).mono ?_; rintro e w1 ⟨rfl, hb⟩; rw [hv.out])
    go_ret2
    exact ⟨by rw [HR.out]; rfl, hb⟩
end Go.Proofs.Ytdfhibkennbliaa
