/-
  PlanMoves: what it returns, for all arguments.
-/
import Derived.Test.YtdcbdogcglinkaaL11A
import Derived.Test.YtdcbdogcglinkaaLetter
import Derived.Laws.DeepStrings4
namespace Go.Proofs.Ytdcbdogcglinkaa
set_option maxRecDepth 100000
open Go.RowKit

/-- A letter: a byte from 33 to 126. -/
def ltr (b : UInt8) : Bool := decide (33 ≤ (b.toNat : Int) ∧ (b.toNat : Int) ≤ 126)
def isMv (b : UInt8) : Bool := b == 62 || b == 60 || b == 35
/-- The number of moves; none for a text that is no plan. -/
def pmGo : Nat → List UInt8 → Option Nat
  | n, [] => some n
  | n, b :: bs => if b = 39 then (match bs with
      | [] => none
      | c :: cs => if ltr c = true then pmGo n cs else none)
    else if isMv b = true then pmGo (n + 1) bs else none
def planMoves (s : ByteArray) : Int × Int := if s.size ≤ 200 then (match pmGo 0 (by_ s) with | none => (0, 7) | some n => ((n : Int), 0)) else (0, 7)

/-- The index of a move's byte; -1 for another. -/
def mvIx (b : UInt8) : Int := if b = 35 then 0 else if b = 60 then 1 else if b = 62 then 2 else -1
theorem mvIx_neg (b : UInt8) : (mvIx b < 0) ↔ ¬ isMv b = true := by
  unfold mvIx isMv
  by_cases h1 : b = 35
  · simp [h1]
  · by_cases h2 : b = 60
    · simp [h2]
    · by_cases h3 : b = 62
      · simp [h3]
      · simp [h1, h2, h3]
set_option maxHeartbeats 400000 in
theorem mvIndex_any (w : World) (b : UInt8) :
    Calls Try.prog 46 #[.string ⟨#[35, 60, 62]⟩, .int .u8 b.toNat] w fun e w' => e = .returned (.int .i64 (mvIx b)) ∧ w = w' := by
  obtain ⟨s, hs⟩ : ∃ s : ByteArray, s = ⟨#[35, 60, 62]⟩ := ⟨_, rfl⟩
  have hsz : s.size ≤ 3 ∧ 3 ≤ s.size := by rw [hs]; exact ⟨Nat.le_refl _, Nat.le_refl _⟩
  have HB : Hid (by_ s = [35, 60, 62]) := by unfold Hid; rw [hs]; rfl
  rw [← hs]
  clear hs
  obtain ⟨hz1, hz2⟩ := hsz
  go_enter Try.func46, Try.ntmps46
  go_wp2
  go_loop [5] (fun i => ∃ k : Nat, k ≤ 3 ∧ i = .int .i64 k ∧ ((k = 0) ∨ (k = 1 ∧ ¬ b = 35) ∨ (k = 2 ∧ ¬ b = 35 ∧ ¬ b = 60) ∨ (k = 3 ∧ ¬ b = 35 ∧ ¬ b = 60 ∧ ¬ b = 62))) (fun i => 3 - (intOf i).toNat)
  case atStart => exact ⟨0, by omega, rfl, Or.inl rfl⟩
  case round =>
    obtain ⟨k, hk, rfl, HK⟩ := hrel
    replace HK := hide HK
    by_cases hlt : k < s.size
    · have hx := by_get hlt
      obtain ⟨c, hc⟩ : ∃ c, s[k] = c := ⟨_, rfl⟩
      rw [hc] at hx
      have hrun := run_byte hx
      rw [HB.out] at hx
      by_cases hcb : c = b
      · have c1 : ((c.toNat : Int) == (b.toNat : Int)) = true := b_eq hcb
        have H2 : Hid (mvIx b = (k : Int)) := by
          have hK := HK.out
          unfold Hid mvIx
          rcases hK with rfl | ⟨rfl, h1⟩ | ⟨rfl, h1, h2⟩ | ⟨rfl, h1, h2, h3⟩
          · simp at hx; rw [if_pos (by rw [← hcb, ← hx])]; rfl
          · simp at hx; rw [if_neg h1, if_pos (by rw [← hcb, ← hx])]; rfl
          · simp at hx; rw [if_neg h1, if_neg h2, if_pos (by rw [← hcb, ← hx])]; rfl
          · simp at hx
        clear hx hc hcb
        go_wp2
        go_ret
        exact ⟨ret_int H2.out.symm, rfl⟩
      · have c1 : ((c.toNat : Int) == (b.toNat : Int)) = false := b_ne hcb
        have H2 : Hid (((k + 1 = 0) ∨ (k + 1 = 1 ∧ ¬ b = 35) ∨ (k + 1 = 2 ∧ ¬ b = 35 ∧ ¬ b = 60) ∨ (k + 1 = 3 ∧ ¬ b = 35 ∧ ¬ b = 60 ∧ ¬ b = 62))) := by
          have hK := HK.out
          rcases hK with rfl | ⟨rfl, h1⟩ | ⟨rfl, h1, h2⟩ | ⟨rfl, h1, h2, h3⟩
          · simp at hx; exact Or.inr (Or.inl ⟨rfl, fun e => hcb (by rw [← hx, e])⟩)
          · simp at hx; exact Or.inr (Or.inr (Or.inl ⟨rfl, h1, fun e => hcb (by rw [← hx, e])⟩))
          · simp at hx; exact Or.inr (Or.inr (Or.inr ⟨rfl, h1, h2, fun e => hcb (by rw [← hx, e])⟩))
          · simp at hx
        clear hx hc hcb
        go_wp2
        go_round
        case rel => exact ⟨k + 1, by omega, by go_num, H2.out⟩
        case measure => simp [intOf]; omega
    · have H2 : Hid (mvIx b = -1) := by
        have hK := HK.out
        unfold Hid mvIx
        rcases hK with rfl | ⟨rfl, h1⟩ | ⟨rfl, h1, h2⟩ | ⟨rfl, h1, h2, h3⟩
        · omega
        · omega
        · omega
        · rw [if_neg h1, if_neg h2, if_neg h3]
      go_wp2
      go_ret
      exact ⟨ret_int H2.out.symm, rfl⟩

theorem pm_quote_end {n : Nat} {b : UInt8} (hb : b = 39) : pmGo n [b] = none := by rw [pmGo, if_pos hb]
theorem pm_quote {n : Nat} {b c : UInt8} {cs : List UInt8} (hb : b = 39) : pmGo n (b :: c :: cs) = if ltr c = true then pmGo n cs else none := by rw [pmGo, if_pos hb]
theorem pm_move {n : Nat} {b : UInt8} {bs : List UInt8} (hb : ¬ b = 39) : pmGo n (b :: bs) = if isMv b = true then pmGo (n + 1) bs else none := by cases bs <;> simp [pmGo, hb]
theorem plan_bad {s : ByteArray} (h : s.size ≤ 200) (hn : pmGo 0 (by_ s) = none) : planMoves s = (0, 7) := by unfold planMoves; rw [if_pos h, hn]
theorem plan_good {s : ByteArray} {n : Nat} (h : s.size ≤ 200) (hn : pmGo 0 (by_ s) = some n) : planMoves s = ((n : Int), 0) := by unfold planMoves; rw [if_pos h, hn]

set_option maxHeartbeats 1000000 in
theorem PlanMoves_S (w : World) (s : ByteArray) (hs : s.size ≤ 1048576) :
    Calls Try.prog 24 #[.string s] w fun e w' => e = .returned (.tuple #[.int .i64 (planMoves s).1, .int .i64 (planMoves s).2]) ∧ Below w.heap.size w w' := by
  by_cases hs2 : s.size ≤ 200
  · go_enter Try.func24, Try.ntmps24
    go_wp2
    go_loop [4, 5] (fun v i => ∃ k n : Nat, k ≤ s.size ∧ n ≤ k ∧ i = .int .i64 k ∧ v = .int .i64 n ∧ pmGo n ((by_ s).drop k) = pmGo 0 (by_ s)) (fun _ i => s.size - (intOf i).toNat)
    case atStart => exact ⟨0, 0, Nat.zero_le _, Nat.le_refl _, rfl, rfl, by simp⟩
    case round =>
      obtain ⟨k, n, hk, hn, rfl, rfl, HR⟩ := hrel
      by_cases hlt : k < s.size
      · have hx := by_get hlt
        obtain ⟨b, hb⟩ : ∃ b, s[k] = b := ⟨_, rfl⟩
        rw [hb] at hx
        have hrun := run_byte hx
        rw [drop_get hx] at HR
        clear hx hb
        by_cases h39 : b = 39
        · by_cases hlt2 : k + 1 < s.size
          · have hy := by_get hlt2
            obtain ⟨c, hc⟩ : ∃ c, s[k + 1] = c := ⟨_, rfl⟩
            rw [hc] at hy
            have hrun2 := run_byte hy
            rw [show ((k + 1 : Nat) : Int) = (k : Int) + 1 from by omega] at hrun2
            rw [drop_get hy, pm_quote h39] at HR
            have HY := hide hy
            clear hy hc
            by_cases hl : ltr c = true
            · have hl2 : 33 ≤ (c.toNat : Int) ∧ (c.toNat : Int) ≤ 126 := by simpa [ltr] using hl
              obtain ⟨hl3, hl4⟩ := hl2
              rw [if_pos hl] at HR
              have H2 := hide HR
              have c1 : ((b.toNat : Int) == 39) = true := b_eq (c := 39) h39
              have c2 : ((k : Int) + 1 == (s.size : Int)) = false := beq_eq_false_iff_ne.2 (by omega)
              clear HR h39 hl
              go_wp2
              go_round
              case rel => exact ⟨k + 2, n, by omega, by omega, by go_num, rfl, H2.out⟩
              case measure => simp [intOf]; omega
            · rw [if_neg hl] at HR
              have H2 := hide (plan_bad hs2 HR.symm)
              have hl2 : (c.toNat : Int) < 33 ∨ 126 < (c.toNat : Int) := by simp [ltr] at hl; omega
              have c1 : ((b.toNat : Int) == 39) = true := b_eq (c := 39) h39
              have c2 : ((k : Int) + 1 == (s.size : Int)) = false := beq_eq_false_iff_ne.2 (by omega)
              clear HR h39 hl
              rcases hl2 with hl2 | hl2
              all_goals
                go_wp2
                all_goals go_ret2
                all_goals exact ⟨by rw [H2.out]; rfl, Below.refl _ _⟩
          · have e : (by_ s).drop (k + 1) = [] := List.drop_eq_nil_of_le (by rw [by_len]; omega)
            rw [e, pm_quote_end h39] at HR
            have H2 := hide (plan_bad hs2 HR.symm)
            have hke : Hid ((s.size : Int) = (k : Int) + 1) := by unfold Hid; omega
            have c1 : ((b.toNat : Int) == 39) = true := b_eq (c := 39) h39
            have c2 : ((k : Int) + 1 == (s.size : Int)) = true := by rw [hke.out]; simp
            clear HR h39 e
            go_wp2
            go_ret2
            exact ⟨by rw [H2.out]; rfl, Below.refl _ _⟩
        · rw [pm_move h39] at HR
          by_cases hm : isMv b = true
          · rw [if_pos hm] at HR
            have H2 := hide HR
            have c1 : ((b.toNat : Int) == 39) = false := b_ne (c := 39) h39
            have hge : ¬ mvIx b < 0 := fun e => (mvIx_neg b).1 e hm
            clear HR h39 hm
            go_wp2_with (go_at_call 46; refine (mvIndex_any _ _).mono ?_; rintro e w1 ⟨rfl, rfl⟩)
            go_round
            case rel => exact ⟨k + 1, n + 1, by omega, by omega, by go_num, by go_num, H2.out⟩
            case measure => simp [intOf]; omega
          · rw [if_neg hm] at HR
            have H2 := hide (plan_bad hs2 HR.symm)
            have c1 : ((b.toNat : Int) == 39) = false := b_ne (c := 39) h39
            have hge : mvIx b < 0 := (mvIx_neg b).2 hm
            clear HR h39 hm
            go_wp2_with (go_at_call 46; refine (mvIndex_any _ _).mono ?_; rintro e w1 ⟨rfl, rfl⟩)
            go_ret2
            exact ⟨by rw [H2.out]; rfl, Below.refl _ _⟩
      · have e : (by_ s).drop k = [] := List.drop_eq_nil_of_le (by rw [by_len]; omega)
        rw [e, pmGo] at HR
        have H2 := hide (plan_good hs2 HR.symm)
        clear HR e
        go_wp2
        go_ret2
        exact ⟨by rw [H2.out]; rfl, Below.refl _ _⟩
  · have H2 : Hid (planMoves s = (0, 7)) := by unfold Hid planMoves; rw [if_neg hs2]
    go_enter Try.func24, Try.ntmps24
    go_wp2
    go_ret2
    exact ⟨by rw [H2.out]; rfl, Below.refl _ _⟩

theorem mv_cases {b : UInt8} (h : isMv b = true) : b = 62 ∨ (¬ b = 62 ∧ b = 60) ∨ (¬ b = 62 ∧ ¬ b = 60 ∧ b = 35) := by
  unfold isMv at h
  by_cases h1 : b = 62
  · exact Or.inl h1
  · by_cases h2 : b = 60
    · exact Or.inr (Or.inl ⟨h1, h2⟩)
    · refine Or.inr (Or.inr ⟨h1, h2, ?_⟩)
      simpa [h1, h2] using h
theorem mv_not {b : UInt8} (h : ¬ isMv b = true) : ¬ b = 62 ∧ ¬ b = 60 ∧ ¬ b = 35 := by
  refine ⟨?_, ?_, ?_⟩ <;> (rintro rfl; exact h rfl)
theorem isLet_byte (c : UInt8) : isLet ⟨#[c]⟩ = ltr c := by
  show decide (32 < (c.toNat : Int) ∧ (c.toNat : Int) < 127) = decide (33 ≤ (c.toNat : Int) ∧ (c.toNat : Int) ≤ 126)
  rw [Bool.eq_iff_iff]; simp; omega
set_option maxHeartbeats 1000000 in
theorem PlanMoves_I (w : World) (s : ByteArray) (hs : s.size ≤ 1048576) :
    Calls Try.prog 25 #[.string s] w fun e w' => e = .returned (.tuple #[.int .i64 (planMoves s).1, .int .i64 (planMoves s).2]) ∧ Below w.heap.size w w' := by
  by_cases hs2 : s.size ≤ 200
  · go_enter Try.func25, Try.ntmps25
    go_wp2
    go_loop [4, 5] (fun v i => ∃ k n : Nat, k ≤ s.size ∧ n ≤ k ∧ i = .int .i64 k ∧ v = .int .i64 n ∧ pmGo n ((by_ s).drop k) = pmGo 0 (by_ s)) (fun _ i => s.size - (intOf i).toNat)
    case atStart => exact ⟨0, 0, Nat.zero_le _, Nat.le_refl _, rfl, rfl, by simp⟩
    case round =>
      obtain ⟨k, n, hk, hn, rfl, rfl, HR⟩ := hrel
      by_cases hlt : k < s.size
      · have hx := by_get hlt
        obtain ⟨b, hb⟩ : ∃ b, s[k] = b := ⟨_, rfl⟩
        rw [hb] at hx
        have hrun := run_byte hx
        rw [drop_get hx] at HR
        clear hx hb
        by_cases h39 : b = 39
        · by_cases hlt2 : k + 1 < s.size
          · have hy := by_get hlt2
            obtain ⟨c, hc⟩ : ∃ c, s[k + 1] = c := ⟨_, rfl⟩
            rw [hc] at hy
            have hrun2 := run_byte hy
            rw [show ((k + 1 : Nat) : Int) = (k : Int) + 1 from by omega] at hrun2
            rw [drop_get hy, pm_quote h39] at HR
            have HY := hide hy
            clear hy hc
            by_cases hl : ltr c = true
            · have hl2 : 33 ≤ (c.toNat : Int) ∧ (c.toNat : Int) ≤ 126 := by simpa [ltr] using hl
              obtain ⟨hl3, hl4⟩ := hl2
              rw [if_pos hl] at HR
              have H2 := hide HR
              have c1 : ((b.toNat : Int) == 39) = true := b_eq (c := 39) h39
              have d1 : ((b.toNat : Int) == 62) = false := b_ne (c := 62) (by rw [h39]; decide)
              have d2 : ((b.toNat : Int) == 60) = false := b_ne (c := 60) (by rw [h39]; decide)
              have d3 : ((b.toNat : Int) == 35) = false := b_ne (c := 35) (by rw [h39]; decide)
              have hlt3 : (k : Int) + 1 + 1 ≤ (s.size : Int) := by omega
              have hsl : ∀ W : World, (Instr.slice 9 (.string s) (some (.int .i64 ((k : Int) + 1))) (some (.int .i64 ((k : Int) + 1 + 1))) none).run Try.prog W = .ok (.string ⟨#[c]⟩) W := by
                intro W
                rw [run_slice_string_if W 9 s .i64 .i64 _ _ Try.underlying9, if_pos ⟨by omega, by omega⟩, if_pos ⟨by omega, by omega⟩, show ((k : Int) + 1).toNat = k + 1 from by omega, show ((k : Int) + 1 + 1).toNat = k + 1 + 1 from by omega, ext_one HY.out]
              have hone : (⟨#[c]⟩ : ByteArray).size ≤ 9223372036854775807 := by show 1 ≤ 9223372036854775807; omega
              have hil : Hid (isLet ⟨#[c]⟩ = true) := by unfold Hid; rw [isLet_byte]; simpa using hl
              clear HR h39 hl hrun2
              go_wp2_with (go_at_call 47; refine (isLetter_any _ _ hone).mono ?_; rintro e w2 ⟨rfl, rfl⟩; rw [hil.out])
              go_round
              case rel => exact ⟨k + 2, n, by omega, by omega, by go_num, rfl, H2.out⟩
              case measure => simp [intOf]; omega
            · rw [if_neg hl] at HR
              have H2 := hide (plan_bad hs2 HR.symm)
              have hl2 : (c.toNat : Int) < 33 ∨ 126 < (c.toNat : Int) := by simp [ltr] at hl; omega
              have c1 : ((b.toNat : Int) == 39) = true := b_eq (c := 39) h39
              have d1 : ((b.toNat : Int) == 62) = false := b_ne (c := 62) (by rw [h39]; decide)
              have d2 : ((b.toNat : Int) == 60) = false := b_ne (c := 60) (by rw [h39]; decide)
              have d3 : ((b.toNat : Int) == 35) = false := b_ne (c := 35) (by rw [h39]; decide)
              have hlt3 : (k : Int) + 1 + 1 ≤ (s.size : Int) := by omega
              have hsl : ∀ W : World, (Instr.slice 9 (.string s) (some (.int .i64 ((k : Int) + 1))) (some (.int .i64 ((k : Int) + 1 + 1))) none).run Try.prog W = .ok (.string ⟨#[c]⟩) W := by
                intro W
                rw [run_slice_string_if W 9 s .i64 .i64 _ _ Try.underlying9, if_pos ⟨by omega, by omega⟩, if_pos ⟨by omega, by omega⟩, show ((k : Int) + 1).toNat = k + 1 from by omega, show ((k : Int) + 1 + 1).toNat = k + 1 + 1 from by omega, ext_one HY.out]
              have hone : (⟨#[c]⟩ : ByteArray).size ≤ 9223372036854775807 := by show 1 ≤ 9223372036854775807; omega
              have hil : Hid (isLet ⟨#[c]⟩ = false) := by unfold Hid; rw [isLet_byte]; simpa using hl
              clear HR h39 hl hrun2
              clear hl2
              go_wp2_with (go_at_call 47; refine (isLetter_any _ _ hone).mono ?_; rintro e w2 ⟨rfl, rfl⟩; rw [hil.out])
              go_ret2
              exact ⟨by rw [H2.out]; rfl, Below.refl _ _⟩
          · have e : (by_ s).drop (k + 1) = [] := List.drop_eq_nil_of_le (by rw [by_len]; omega)
            rw [e, pm_quote_end h39] at HR
            have H2 := hide (plan_bad hs2 HR.symm)
            have hke : Hid ((s.size : Int) = (k : Int) + 1) := by unfold Hid; omega
            have c1 : ((b.toNat : Int) == 39) = true := b_eq (c := 39) h39
            have d1 : ((b.toNat : Int) == 62) = false := b_ne (c := 62) (by rw [h39]; decide)
            have d2 : ((b.toNat : Int) == 60) = false := b_ne (c := 60) (by rw [h39]; decide)
            have d3 : ((b.toNat : Int) == 35) = false := b_ne (c := 35) (by rw [h39]; decide)
            clear HR h39 e
            go_wp2
            go_ret2
            exact ⟨by rw [H2.out]; rfl, Below.refl _ _⟩
        · rw [pm_move h39] at HR
          by_cases hm : isMv b = true
          · rw [if_pos hm] at HR
            have H2 := hide HR
            have c1 : ((b.toNat : Int) == 39) = false := b_ne (c := 39) h39
            rcases mv_cases hm with m1 | ⟨m1, m2⟩ | ⟨m1, m2, m3⟩
            · have d1 : ((b.toNat : Int) == 62) = true := b_eq (c := 62) m1
              clear HR h39 hm m1
              go_wp2
              go_round
              case rel => exact ⟨k + 1, n + 1, by omega, by omega, by go_num, by go_num, H2.out⟩
              case measure => simp [intOf]; omega
            · have d1 : ((b.toNat : Int) == 62) = false := b_ne (c := 62) m1
              have d2 : ((b.toNat : Int) == 60) = true := b_eq (c := 60) m2
              clear HR h39 hm m1 m2
              go_wp2
              go_round
              case rel => exact ⟨k + 1, n + 1, by omega, by omega, by go_num, by go_num, H2.out⟩
              case measure => simp [intOf]; omega
            · have d1 : ((b.toNat : Int) == 62) = false := b_ne (c := 62) m1
              have d2 : ((b.toNat : Int) == 60) = false := b_ne (c := 60) m2
              have d3 : ((b.toNat : Int) == 35) = true := b_eq (c := 35) m3
              clear HR h39 hm m1 m2 m3
              go_wp2
              go_round
              case rel => exact ⟨k + 1, n + 1, by omega, by omega, by go_num, by go_num, H2.out⟩
              case measure => simp [intOf]; omega
          · rw [if_neg hm] at HR
            have H2 := hide (plan_bad hs2 HR.symm)
            obtain ⟨m1, m2, m3⟩ := mv_not hm
            have c1 : ((b.toNat : Int) == 39) = false := b_ne (c := 39) h39
            have d1 : ((b.toNat : Int) == 62) = false := b_ne (c := 62) m1
            have d2 : ((b.toNat : Int) == 60) = false := b_ne (c := 60) m2
            have d3 : ((b.toNat : Int) == 35) = false := b_ne (c := 35) m3
            clear HR h39 hm m1 m2 m3
            go_wp2
            go_ret2
            exact ⟨by rw [H2.out]; rfl, Below.refl _ _⟩
      · have e : (by_ s).drop k = [] := List.drop_eq_nil_of_le (by rw [by_len]; omega)
        rw [e, pmGo] at HR
        have H2 := hide (plan_good hs2 HR.symm)
        clear HR e
        go_wp2
        go_ret2
        exact ⟨by rw [H2.out]; rfl, Below.refl _ _⟩
  · have H2 : Hid (planMoves s = (0, 7)) := by unfold Hid planMoves; rw [if_neg hs2]
    go_enter Try.func25, Try.ntmps25
    go_wp2
    go_ret2
    exact ⟨by rw [H2.out]; rfl, Below.refl _ _⟩
end Go.Proofs.Ytdcbdogcglinkaa
