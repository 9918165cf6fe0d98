/-
  Widths of columns: WidestGap, StopsFor: what each returns, for all arguments.
-/
import Derived.Test.YtfaaeckcehaheaaL08B
namespace Go.Proofs.Ytfaaeckcehaheaa
open Go.RowKit

def allGo (lo hi : Int) : List Int → Bool
  | [] => true
  | x :: xs => if inB x lo hi = true then allGo lo hi xs else false
theorem allGo_iff {lo hi : Int} (xs : List Int) : allGo lo hi xs = true ↔ ∀ x ∈ xs, lo ≤ x ∧ x ≤ hi := by
  induction xs with
  | nil => simp [allGo]
  | cons x xs ih =>
    rw [allGo]
    by_cases h : inB x lo hi = true
    · rw [if_pos h, ih]
      have := inB_iff.1 h
      simp [this]
    · rw [if_neg h]
      rw [inB_iff] at h
      constructor
      · intro e; cases e
      · intro e; exact absurd (e x (List.mem_cons_self ..)) h
def okWidths (xs : List Int) : Bool := allGo 0 120 xs && inB (xs.length : Int) 1 12

set_option maxHeartbeats 400000 in
theorem l08Columns_any (w : World) (A : Option Addr) (n c : Nat) (xs : List Int) (h : Sl (Value.int .i64) w A n xs) :
    Calls Try.prog 51 #[.slice A n c] w fun e w' => e = .returned (.bool (okWidths xs)) ∧ w = w' := by
  have hn := h.max
  go_enter Try.func51, Try.ntmps51
  go_wp2
  go_loop [3] (fun i => ∃ k : Nat, k ≤ n ∧ i = .int .i64 k ∧ allGo 0 120 (xs.drop k) = allGo 0 120 xs) (fun i => n - (intOf i).toNat)
  case atStart => exact ⟨0, Nat.zero_le _, rfl, by simp⟩
  case round =>
    obtain ⟨k, hk, rfl, HR⟩ := hrel
    by_cases hlt : k < n
    · obtain ⟨b, o, x, rfl, hx, hc⟩ := h.at_ (Below.refl _ _) hlt
      rw [drop_get hx, allGo] at HR
      by_cases hcx : inB x 0 120 = true
      · rw [if_pos hcx] at HR
        have H2 := hide HR
        clear HR hx
        go_wp2_with (go_at_call 52; refine (l00In_any _ _ _ _).mono ?_; rintro e w1 ⟨rfl, rfl⟩)
        go_round
        case rel => exact ⟨k + 1, by omega, by go_num, H2.out⟩
        case measure => simp [intOf]; omega
      · rw [if_neg hcx] at HR
        replace hcx : inB x 0 120 = false := by simpa using hcx
        have H2 := hide HR
        clear HR hx
        go_wp2_with (go_at_call 52; refine (l00In_any _ _ _ _).mono ?_; rintro e w1 ⟨rfl, rfl⟩)
        go_ret
        exact ⟨ret_bool (by rw [okWidths, ← H2.out, Bool.false_and]), rfl⟩
    · rw [h.end_ hlt] at HR
      have H2 : Hid (okWidths xs = inB (n : Int) 1 12) := by unfold Hid; rw [okWidths, ← HR, h.len]; simp [allGo]
      clear HR
      go_wp2_with (go_at_call 52; refine (l00In_any _ _ _ _).mono ?_; rintro e w1 ⟨rfl, rfl⟩)
      go_ret
      exact ⟨ret_bool H2.out.symm, rfl⟩
set_option maxHeartbeats 400000 in
theorem areWidths_any (w : World) (A : Option Addr) (n c : Nat) (xs : List Int) (h : Sl (Value.int .i64) w A n xs) :
    Calls Try.prog 54 #[.slice A n c] w fun e w' => e = .returned (.bool (okWidths xs)) ∧ w = w' := by
  have hn := h.max
  go_enter Try.func54, Try.ntmps54
  go_wp2
  go_loop [7] (fun i => ∃ k : Nat, k ≤ n ∧ i = .int .i64 k ∧ allGo 0 120 (xs.drop k) = allGo 0 120 xs) (fun i => n - (intOf i).toNat)
  case atStart => exact ⟨0, Nat.zero_le _, rfl, by simp⟩
  case round =>
    obtain ⟨k, hk, rfl, HR⟩ := hrel
    by_cases hlt : k < n
    · obtain ⟨b, o, x, rfl, hx, hc⟩ := h.at_ (Below.refl _ _) hlt
      rw [drop_get hx, allGo] at HR
      by_cases hcx : inB x 0 120 = true
      · rw [if_pos hcx] at HR
        have H2 := hide HR
        clear HR hx
        go_wp2_with (go_at_call 61; refine (between_any _ _ _ _).mono ?_; rintro e w1 ⟨rfl, rfl⟩)
        go_round
        case rel => exact ⟨k + 1, by omega, by go_num, H2.out⟩
        case measure => simp [intOf]; omega
      · rw [if_neg hcx] at HR
        replace hcx : inB x 0 120 = false := by simpa using hcx
        have H2 := hide HR
        clear HR hx
        go_wp2_with (go_at_call 61; refine (between_any _ _ _ _).mono ?_; rintro e w1 ⟨rfl, rfl⟩)
        go_ret
        exact ⟨ret_bool (by rw [okWidths, ← H2.out, Bool.false_and]), rfl⟩
    · rw [h.end_ hlt] at HR
      have H2 : Hid (okWidths xs = inB (n : Int) 1 12) := by unfold Hid; rw [okWidths, ← HR, h.len]; simp [allGo]
      clear HR
      go_wp2_with (go_at_call 61; refine (between_any _ _ _ _).mono ?_; rintro e w1 ⟨rfl, rfl⟩)
      go_ret
      exact ⟨ret_bool H2.out.symm, rfl⟩

def sumI : List Int → Int
  | [] => 0
  | x :: xs => x + sumI xs
theorem sumI_take {xs : List Int} {k : Nat} {x : Int} (hx : xs[k]? = some x) : sumI (xs.take (k + 1)) = sumI (xs.take k) + x := by
  induction xs generalizing k with
  | nil => simp at hx
  | cons y ys ih =>
    cases k with
    | zero => simp at hx; subst hx; simp [sumI]
    | succ k =>
      simp only [List.getElem?_cons_succ] at hx
      rw [List.take_succ_cons, sumI, ih hx, List.take_succ_cons, sumI]
      omega
theorem sumI_bd {xs : List Int} (h : ∀ x ∈ xs, 0 ≤ x ∧ x ≤ 120) (k : Nat) : 0 ≤ sumI (xs.take k) ∧ sumI (xs.take k) ≤ 120 * k := by
  induction xs generalizing k with
  | nil => simp [sumI]; omega
  | cons y ys ih =>
    cases k with
    | zero => simp [sumI]
    | succ k =>
      have h1 := h y (List.mem_cons_self ..)
      have h2 := ih (fun x hx => h x (List.mem_cons_of_mem _ hx)) k
      rw [List.take_succ_cons, sumI]
      omega

theorem l00Sum_any (w : World) (A : Option Addr) (n c : Nat) (xs : List Int) (h : Sl (Value.int .i64) w A n xs) (hb : ∀ x ∈ xs, 0 ≤ x ∧ x ≤ 120) (hl : n ≤ 12) :
    Calls Try.prog 53 #[.slice A n c] w fun e w' => e = .returned (.int .i64 (sumI xs)) ∧ w = w' := by
  have HB := hide hb
  clear hb
  go_enter Try.func53, Try.ntmps53
  go_wp2
  go_loop [3, 4] (fun sv i => ∃ k : Nat, k ≤ n ∧ i = .int .i64 k ∧ sv = .int .i64 (sumI (xs.take k))) (fun _ i => n - (intOf i).toNat)
  case atStart => exact ⟨0, Nat.zero_le _, rfl, by simp [sumI]⟩
  case round =>
    obtain ⟨k, hk, rfl, rfl⟩ := hrel
    have hbd := sumI_bd HB.out k
    by_cases hlt : k < n
    · obtain ⟨b, o, x, rfl, hx, hc⟩ := h.at_ (Below.refl _ _) hlt
      have hxb := HB.out x (List.mem_of_getElem? hx)
      have H2 := hide (sumI_take hx)
      clear hx
      go_wp2
      go_round
      case rel => exact ⟨k + 1, by omega, by go_num, by rw [H2.out]⟩
      case measure => simp [intOf]; omega
    · have H2 : Hid (sumI (xs.take k) = sumI xs) := by unfold Hid; rw [List.take_of_length_le (by have := h.len; omega)]
      go_wp2
      go_ret
      exact ⟨ret_int H2.out, rfl⟩

/-! ### WidestGap -/
def widestGap (ws : List Int) (l r : Int) : Int × Int :=
  if okWidths ws = true ∧ 0 ≤ l ∧ l ≤ r ∧ r ≤ 120 then
    (if ws.length = 1 then (0, 6) else if r - l - sumI ws < (ws.length : Int) - 1 then (0, 5) else ((r - l - sumI ws) / ((ws.length : Int) - 1), 0))
  else (0, 2)

theorem okWidths_all {ws : List Int} (h : okWidths ws = true) : (∀ x ∈ ws, 0 ≤ x ∧ x ≤ 120) ∧ 1 ≤ ws.length ∧ ws.length ≤ 12 := by
  rw [okWidths, Bool.and_eq_true, inB_iff, allGo_iff] at h
  exact ⟨h.1, by omega, by omega⟩

theorem WidestGap_s (w : World) (A : Option Addr) (n c : Nat) (ws : List Int) (l r : Int) (h : Sl (Value.int .i64) w A n ws) :
    Calls Try.prog 18 #[.slice A n c, .int .i64 l, .int .i64 r] w fun e w' => e = .returned (.tuple #[.int .i64 (widestGap ws l r).1, .int .i64 (widestGap ws l r).2]) ∧ Below w.heap.size w w' := by
  have hn := h.max
  by_cases h1 : okWidths ws = true
  · obtain ⟨hall, hl1, hl2⟩ := okWidths_all h1
    rw [h.len] at hl1 hl2
    have hsum := sumI_bd hall n
    rw [List.take_of_length_le (by rw [h.len]; exact Nat.le_refl _)] at hsum
    replace hall := hide hall
    by_cases h2 : inB l 0 120 = true
    · by_cases h3 : inB r l 120 = true
      · have h2' := inB_iff.1 h2
        have h3' := inB_iff.1 h3
        by_cases h4 : n = 1
        · have HR0 : Hid (widestGap ws l r = (0, 6)) := by unfold Hid widestGap; rw [if_pos ⟨h1, by omega, by omega, by omega⟩, if_pos (by rw [h.len]; exact h4)]
          have h4b : ((n : Int) == 1) = true := by simp; omega
          clear h4
          go_enter Try.func18, Try.ntmps18
          go_wp2_with (first | (go_at_call 51; refine (l08Columns_any _ _ _ _ ws h).mono ?_; rintro e w1 ⟨rfl, rfl⟩) | (go_at_call 52; refine (l00In_any _ _ _ _).mono ?_; rintro e w1 ⟨rfl, rfl⟩))
          go_ret2
          exact ⟨by rw [HR0.out]; rfl, Below.refl _ _⟩
        · have h4b : ((n : Int) == 1) = false := by simp; omega
          have hn2 : 2 ≤ n := by omega
          by_cases h5 : r - l - sumI ws < (n : Int) - 1
          · have HR0 : Hid (widestGap ws l r = (0, 5)) := by unfold Hid widestGap; rw [if_pos ⟨h1, by omega, by omega, by omega⟩, if_neg (by rw [h.len]; exact h4), if_pos (by rw [h.len]; exact h5)]
            clear h4
            go_enter Try.func18, Try.ntmps18
            go_wp2_with (first | (go_at_call 51; refine (l08Columns_any _ _ _ _ ws h).mono ?_; rintro e w1 ⟨rfl, rfl⟩) | (go_at_call 52; refine (l00In_any _ _ _ _).mono ?_; rintro e w1 ⟨rfl, rfl⟩) | (go_at_call 53; refine (l00Sum_any _ _ _ _ ws h hall.out hl2).mono ?_; rintro e w1 ⟨rfl, rfl⟩))
            go_ret2
            exact ⟨by rw [HR0.out]; rfl, Below.refl _ _⟩
          · have HR0 : Hid (widestGap ws l r = ((r - l - sumI ws) / ((n : Int) - 1), 0)) := by unfold Hid widestGap; rw [if_pos ⟨h1, by omega, by omega, by omega⟩, if_neg (by rw [h.len]; exact h4), if_neg (by rw [h.len]; exact h5), h.len]
            clear h4
            go_enter Try.func18, Try.ntmps18
            go_wp2_with (first | (go_at_call 51; refine (l08Columns_any _ _ _ _ ws h).mono ?_; rintro e w1 ⟨rfl, rfl⟩) | (go_at_call 52; refine (l00In_any _ _ _ _).mono ?_; rintro e w1 ⟨rfl, rfl⟩) | (go_at_call 53; refine (l00Sum_any _ _ _ _ ws h hall.out hl2).mono ?_; rintro e w1 ⟨rfl, rfl⟩))
            go_ret2
            exact ⟨by rw [HR0.out]; rfl, Below.refl _ _⟩
      · have HR0 : Hid (widestGap ws l r = (0, 2)) := by
          rw [inB_iff] at h2 h3
          unfold Hid widestGap; rw [if_neg (by rintro ⟨_, _, h5, h6⟩; exact h3 ⟨h5, h6⟩)]
        replace h3 : inB r l 120 = false := by simpa using h3
        go_enter Try.func18, Try.ntmps18
        go_wp2_with (first | (go_at_call 51; refine (l08Columns_any _ _ _ _ ws h).mono ?_; rintro e w1 ⟨rfl, rfl⟩) | (go_at_call 52; refine (l00In_any _ _ _ _).mono ?_; rintro e w1 ⟨rfl, rfl⟩))
        go_ret2
        exact ⟨by rw [HR0.out]; rfl, Below.refl _ _⟩
    · have HR0 : Hid (widestGap ws l r = (0, 2)) := by
        rw [inB_iff] at h2
        unfold Hid widestGap; rw [if_neg (by rintro ⟨_, h4, h5, h6⟩; exact h2 ⟨h4, by omega⟩)]
      replace h2 : inB l 0 120 = false := by simpa using h2
      go_enter Try.func18, Try.ntmps18
      go_wp2_with (first | (go_at_call 51; refine (l08Columns_any _ _ _ _ ws h).mono ?_; rintro e w1 ⟨rfl, rfl⟩) | (go_at_call 52; refine (l00In_any _ _ _ _).mono ?_; rintro e w1 ⟨rfl, rfl⟩))
      go_ret2
      exact ⟨by rw [HR0.out]; rfl, Below.refl _ _⟩
  · have HR0 : Hid (widestGap ws l r = (0, 2)) := by unfold Hid widestGap; rw [if_neg (fun e => h1 e.1)]
    replace h1 : okWidths ws = false := by simpa using h1
    go_enter Try.func18, Try.ntmps18
    go_wp2_with (first | (go_at_call 51; refine (l08Columns_any _ _ _ _ ws h).mono ?_; rintro e w1 ⟨rfl, rfl⟩) | (go_at_call 52; refine (l00In_any _ _ _ _).mono ?_; rintro e w1 ⟨rfl, rfl⟩))
    go_ret2
    exact ⟨by rw [HR0.out]; rfl, Below.refl _ _⟩

theorem WidestGap_i (w : World) (A : Option Addr) (n c : Nat) (ws : List Int) (l r : Int) (h : Sl (Value.int .i64) w A n ws) (hl : -9223372036854775808 ≤ l ∧ l ≤ 9223372036854775807) (hr : -9223372036854775808 ≤ r ∧ r ≤ 9223372036854775807) :
    Calls Try.prog 19 #[.slice A n c, .int .i64 l, .int .i64 r] w fun e w' => e = .returned (.tuple #[.int .i64 (widestGap ws l r).1, .int .i64 (widestGap ws l r).2]) ∧ Below w.heap.size w w' := by
  have hn := h.max
  by_cases h1 : okWidths ws = true
  · obtain ⟨hall, hl1, hl2⟩ := okWidths_all h1
    rw [h.len] at hl1 hl2
    by_cases h2 : l < 0
    · have HR0 : Hid (widestGap ws l r = (0, 2)) := by unfold Hid widestGap; rw [if_neg (by omega)]
      go_enter Try.func19, Try.ntmps19
      go_wp2_with (go_at_call 54; refine (areWidths_any _ _ _ _ ws h).mono ?_; rintro e w1 ⟨rfl, rfl⟩)
      go_ret2
      exact ⟨by rw [HR0.out]; rfl, Below.refl _ _⟩
    · by_cases h3 : r < l
      · have HR0 : Hid (widestGap ws l r = (0, 2)) := by unfold Hid widestGap; rw [if_neg (by omega)]
        go_enter Try.func19, Try.ntmps19
        go_wp2_with (go_at_call 54; refine (areWidths_any _ _ _ _ ws h).mono ?_; rintro e w1 ⟨rfl, rfl⟩)
        go_ret2
        exact ⟨by rw [HR0.out]; rfl, Below.refl _ _⟩
      · by_cases h3b : 120 < r
        · have HR0 : Hid (widestGap ws l r = (0, 2)) := by unfold Hid widestGap; rw [if_neg (by omega)]
          go_enter Try.func19, Try.ntmps19
          go_wp2_with (go_at_call 54; refine (areWidths_any _ _ _ _ ws h).mono ?_; rintro e w1 ⟨rfl, rfl⟩)
          go_ret2
          exact ⟨by rw [HR0.out]; rfl, Below.refl _ _⟩
        · have HR1 : Hid (widestGap ws l r = if n = 1 then (0, 6) else if r - l - sumI ws < (n : Int) - 1 then (0, 5) else ((r - l - sumI ws) / ((n : Int) - 1), 0)) := by
            unfold Hid widestGap; rw [if_pos ⟨h1, by omega, by omega, by omega⟩, h.len]
          by_cases h4 : n = 1
          · rw [if_pos h4] at HR1
            have h4b : ((n : Int) == 1) = true := by simp; omega
            clear h4
            go_enter Try.func19, Try.ntmps19
            go_wp2_with (go_at_call 54; refine (areWidths_any _ _ _ _ ws h).mono ?_; rintro e w1 ⟨rfl, rfl⟩)
            go_ret2
            exact ⟨by rw [HR1.out]; rfl, Below.refl _ _⟩
          · rw [if_neg h4] at HR1
            have h4b : ((n : Int) == 1) = false := by simp; omega
            have hn2 : 2 ≤ n := by omega
            have HB := hide hall
            clear h4 hall
            go_enter Try.func19, Try.ntmps19
            go_wp2_with (go_at_call 54; refine (areWidths_any _ _ _ _ ws h).mono ?_; rintro e w1 ⟨rfl, rfl⟩)
            go_loop [8, 39] (fun sv i => ∃ k : Nat, k ≤ n ∧ i = .int .i64 k ∧ sv = .int .i64 (r - l - sumI (ws.take k))) (fun _ i => n - (intOf i).toNat)
            case atStart => exact ⟨0, Nat.zero_le _, rfl, by simp [sumI]⟩
            case round =>
              obtain ⟨k, hk, rfl, rfl⟩ := hrel
              have hbd := sumI_bd HB.out k
              by_cases hlt : k < n
              · obtain ⟨b, o, x, rfl, hx, hc⟩ := h.at_ (Below.refl _ _) hlt
                have hxb := HB.out x (List.mem_of_getElem? hx)
                have H2 : Hid (r - l - sumI (ws.take k) - x = r - l - sumI (ws.take (k + 1))) := by unfold Hid; rw [sumI_take hx]; omega
                clear hx
                go_wp2
                go_round
                case rel => exact ⟨k + 1, by omega, by go_num, by rw [H2.out]⟩
                case measure => simp [intOf]; omega
              · have H2 : sumI (ws.take k) = sumI ws := by rw [List.take_of_length_le (by have := h.len; omega)]
                rw [← H2] at HR1
                clear H2
                by_cases h5 : r - l - sumI (ws.take k) < (n : Int) - 1
                · rw [if_pos h5] at HR1
                  go_wp2
                  go_ret2
                  exact ⟨by rw [HR1.out]; rfl, Below.refl _ _⟩
                · rw [if_neg h5] at HR1
                  go_wp2
                  go_ret2
                  exact ⟨by rw [HR1.out]; rfl, Below.refl _ _⟩
  · have HR0 : Hid (widestGap ws l r = (0, 2)) := by unfold Hid widestGap; rw [if_neg (fun e => h1 e.1)]
    replace h1 : okWidths ws = false := by simpa using h1
    go_enter Try.func19, Try.ntmps19
    go_wp2_with (go_at_call 54; refine (areWidths_any _ _ _ _ ws h).mono ?_; rintro e w1 ⟨rfl, rfl⟩)
    go_ret2
    exact ⟨by rw [HR0.out]; rfl, Below.refl _ _⟩

/-! ### StopsFor -/
/-- The stops, and the column behind the last gap. -/
def stopsGo (gap : Int) : Int → List Int → List Int × Int
  | at_, [] => ([], at_)
  | at_, x :: xs => (at_ :: (stopsGo gap (at_ + (x + gap)) xs).1, (stopsGo gap (at_ + (x + gap)) xs).2)
def stopsFor (ws : List Int) (l gap : Int) : List Int × Int :=
  if okWidths ws = true ∧ inB l 0 119 = true ∧ inB gap 1 120 = true then
    (if okRack (stopsGo gap l ws).1 = true ∧ (stopsGo gap l ws).2 - gap ≤ 120 then ((stopsGo gap l ws).1, 0) else ([], 5))
  else ([], 2)
theorem stopsGo_len (gap : Int) (ws : List Int) : ∀ l, (stopsGo gap l ws).1.length = ws.length := by
  induction ws with
  | nil => intro l; simp [stopsGo]
  | cons x xs ih => intro l; simp [stopsGo, ih]
theorem stopsFor_len (ws : List Int) (l gap : Int) : (stopsFor ws l gap).1.length ≤ ws.length := by
  unfold stopsFor
  split
  · split
    · rw [stopsGo_len]; exact Nat.le_refl _
    · simp
  · simp


set_option maxHeartbeats 400000 in
theorem StopsFor_s (w : World) (A : Option Addr) (n c : Nat) (ws : List Int) (l gap : Int) (h : Sl (Value.int .i64) w A n ws) :
    Calls Try.prog 26 #[.slice A n c, .int .i64 l, .int .i64 gap] w fun e w' => ∃ v, e = .returned (.tuple #[v, .int .i64 (stopsFor ws l gap).2]) ∧ Coll w w' 2 v ((stopsFor ws l gap).1.map (Value.int .i64)) := by
  have hn := h.max
  by_cases h1 : okWidths ws = true
  · obtain ⟨hall, hl1, hl2⟩ := okWidths_all h1
    rw [h.len] at hl1 hl2
    have HB := hide hall
    clear hall
    by_cases h2 : inB l 0 119 = true
    · by_cases h3 : inB gap 1 120 = true
      · have h2' := inB_iff.1 h2
        have h3' := inB_iff.1 h3
        have HR1 : Hid (stopsFor ws l gap = if okRack (stopsGo gap l ws).1 = true ∧ (stopsGo gap l ws).2 - gap ≤ 120 then ((stopsGo gap l ws).1, 0) else ([], 5)) := by
          unfold Hid stopsFor; rw [if_pos ⟨h1, h2, h3⟩]
        have h0 := Coll.empty (e := 2) (Below.refl w.heap.size w)
        go_enter Try.func26, Try.ntmps26
        go_wp2_with (first | (go_at_call 51; refine (l08Columns_any _ _ _ _ ws h).mono ?_; rintro e w1 ⟨rfl, rfl⟩) | (go_at_call 52; refine (l00In_any _ _ _ _).mono ?_; rintro e w1 ⟨rfl, rfl⟩))
        go_loopw [8, 9, 10] (fun v av i wr => ∃ (k : Nat) (acc : List Int) (z : Int), k ≤ n ∧ acc.length = k ∧ i = .int .i64 k ∧ av = .int .i64 z ∧ 0 ≤ z ∧ z ≤ 119 + 240 * k ∧ Coll w wr 2 v (acc.map (Value.int .i64)) ∧ acc ++ (stopsGo gap z (ws.drop k)).1 = (stopsGo gap l ws).1 ∧ (stopsGo gap z (ws.drop k)).2 = (stopsGo gap l ws).2) (fun _ _ i _ => n - (intOf i).toNat)
        case atStart => exact ⟨0, [], l, Nat.zero_le _, rfl, rfl, rfl, by omega, by omega, h0, by simp, by simp⟩
        case round =>
          clear h0
          obtain ⟨k, acc, z, hk, hal, rfl, rfl, hz0, hz1, hco, HR, HS⟩ := hrel
          by_cases hlt : k < n
          · obtain ⟨b, o, x, rfl, hx, hc⟩ := h.at_ hco.below hlt
            have hxb := HB.out x (List.mem_of_getElem? hx)
            rw [drop_get hx, stopsGo] at HR HS
            have H2 : Hid ((acc ++ [z]) ++ (stopsGo gap (z + (x + gap)) (ws.drop (k + 1))).1 = (stopsGo gap l ws).1) := by unfold Hid; rw [← HR]; simp
            have H3 := hide HS
            have hal2 : acc.length ≤ k := by omega
            replace hal := hide hal
            have HX := hide hx
            clear HR HS hx
            go_wp2_with (at_builtin; refine Coll.push Try.underlying22 int64_info rfl (by decide) hco rfl (by rw [List.length_map]; omega) rfl _ _ rfl rfl rfl ?_; intro v1 w1 hc1 hg1; have hcx := h.cell hc1.below HX.out)
            go_roundw
            case rel => exact ⟨k + 1, acc ++ [z], z + (x + gap), by omega, by simp [hal.out], by go_num, by go_num, by omega, by omega, by simpa using hc1, H2.out, H3.out⟩
            case measure => simp [intOf]; omega
          · rw [h.end_ hlt, stopsGo] at HR HS
            have H2 : Hid (acc = (stopsGo gap l ws).1) := by unfold Hid; rw [← HR]; simp
            have HS2 : z = (stopsGo gap l ws).2 := HS
            rw [← H2.out, ← HS2] at HR1
            have hkn : k = n := by omega
            replace hal := hide hal
            clear HR HS HS2 hkn
            obtain ⟨A1, c1, rfl, -, -, hs1⟩ := Sl.of_coll hco
            by_cases h5 : z - gap ≤ 120
            · by_cases h6 : okRack acc = true
              · rw [if_pos ⟨h6, h5⟩] at HR1
                go_wp2_with (go_at_call 49; refine (l08Ok_any _ _ _ _ acc hs1).mono ?_; rintro e w1 ⟨rfl, hb⟩; have hsz := hb.size; obtain ⟨hcw, hfw⟩ := bcell hb)
                go_ret2
                exact ⟨_, by rw [HR1.out]; rfl, by rw [HR1.out]; exact hco.on hb⟩
              · rw [if_neg (fun e => h6 e.1)] at HR1
                replace h6 : okRack acc = false := by simpa using h6
                go_wp2_with (go_at_call 49; refine (l08Ok_any _ _ _ _ acc hs1).mono ?_; rintro e w1 ⟨rfl, hb⟩; have hsz := hb.size; obtain ⟨hcw, hfw⟩ := bcell hb)
                go_ret2
                exact ⟨_, by rw [HR1.out]; rfl, by rw [HR1.out]; exact Coll.nil_ (Below.step hco.below hb)⟩
            · rw [if_neg (fun e => h5 e.2)] at HR1
              go_wp2
              go_ret2
              exact ⟨_, by rw [HR1.out]; rfl, by rw [HR1.out]; exact Coll.nil_ hco.below⟩
      · have HR0 : Hid (stopsFor ws l gap = ([], 2)) := by unfold Hid stopsFor; rw [if_neg (fun e => h3 e.2.2)]
        replace h3 : inB gap 1 120 = false := by simpa using h3
        go_enter Try.func26, Try.ntmps26
        go_wp2_with (first | (go_at_call 51; refine (l08Columns_any _ _ _ _ ws h).mono ?_; rintro e w1 ⟨rfl, rfl⟩) | (go_at_call 52; refine (l00In_any _ _ _ _).mono ?_; rintro e w1 ⟨rfl, rfl⟩))
        go_ret2
        exact ⟨_, by rw [HR0.out]; rfl, by rw [HR0.out]; exact Coll.nil_ (Below.refl _ _)⟩
    · have HR0 : Hid (stopsFor ws l gap = ([], 2)) := by unfold Hid stopsFor; rw [if_neg (fun e => h2 e.2.1)]
      replace h2 : inB l 0 119 = false := by simpa using h2
      go_enter Try.func26, Try.ntmps26
      go_wp2_with (first | (go_at_call 51; refine (l08Columns_any _ _ _ _ ws h).mono ?_; rintro e w1 ⟨rfl, rfl⟩) | (go_at_call 52; refine (l00In_any _ _ _ _).mono ?_; rintro e w1 ⟨rfl, rfl⟩))
      go_ret2
      exact ⟨_, by rw [HR0.out]; rfl, by rw [HR0.out]; exact Coll.nil_ (Below.refl _ _)⟩
  · have HR0 : Hid (stopsFor ws l gap = ([], 2)) := by unfold Hid stopsFor; rw [if_neg (fun e => h1 e.1)]
    replace h1 : okWidths ws = false := by simpa using h1
    go_enter Try.func26, Try.ntmps26
    go_wp2_with (first | (go_at_call 51; refine (l08Columns_any _ _ _ _ ws h).mono ?_; rintro e w1 ⟨rfl, rfl⟩) | (go_at_call 52; refine (l00In_any _ _ _ _).mono ?_; rintro e w1 ⟨rfl, rfl⟩))
    go_ret2
    exact ⟨_, by rw [HR0.out]; rfl, by rw [HR0.out]; exact Coll.nil_ (Below.refl _ _)⟩

set_option maxHeartbeats 400000 in
theorem StopsFor_i (w : World) (A : Option Addr) (n c : Nat) (ws : List Int) (l gap : Int) (h : Sl (Value.int .i64) w A n ws) :
    Calls Try.prog 27 #[.slice A n c, .int .i64 l, .int .i64 gap] w fun e w' => ∃ v, e = .returned (.tuple #[v, .int .i64 (stopsFor ws l gap).2]) ∧ Coll w w' 2 v ((stopsFor ws l gap).1.map (Value.int .i64)) := by
  have hn := h.max
  by_cases h1 : okWidths ws = true
  · obtain ⟨hall, hl1, hl2⟩ := okWidths_all h1
    rw [h.len] at hl1 hl2
    have HB := hide hall
    clear hall
    by_cases h2 : inB l 0 119 = true
    · by_cases h3 : inB gap 1 120 = true
      · have h2' := inB_iff.1 h2
        have h3' := inB_iff.1 h3
        have HR1 : Hid (stopsFor ws l gap = if okRack (stopsGo gap l ws).1 = true ∧ (stopsGo gap l ws).2 - gap ≤ 120 then ((stopsGo gap l ws).1, 0) else ([], 5)) := by
          unfold Hid stopsFor; rw [if_pos ⟨h1, h2, h3⟩]
        have h0 := Coll.empty (e := 2) (Below.refl w.heap.size w)
        go_enter Try.func27, Try.ntmps27
        go_wp2_with (first | (go_at_call 54; refine (areWidths_any _ _ _ _ ws h).mono ?_; rintro e w1 ⟨rfl, rfl⟩) | (go_at_call 50; refine (isColumn_any _ _).mono ?_; rintro e w1 ⟨rfl, rfl⟩) | (go_at_call 61; refine (between_any _ _ _ _).mono ?_; rintro e w1 ⟨rfl, rfl⟩))
        go_loopw [8, 9, 29] (fun v av i wr => ∃ (k : Nat) (acc : List Int) (z : Int), k ≤ n ∧ acc.length = k ∧ i = .int .i64 k ∧ av = .int .i64 z ∧ 0 ≤ z ∧ z ≤ 119 + 240 * k ∧ Coll w wr 2 v (acc.map (Value.int .i64)) ∧ acc ++ (stopsGo gap z (ws.drop k)).1 = (stopsGo gap l ws).1 ∧ (stopsGo gap z (ws.drop k)).2 = (stopsGo gap l ws).2) (fun _ _ i _ => n - (intOf i).toNat)
        case atStart => exact ⟨0, [], l, Nat.zero_le _, rfl, rfl, rfl, by omega, by omega, h0, by simp, by simp⟩
        case round =>
          clear h0
          obtain ⟨k, acc, z, hk, hal, rfl, rfl, hz0, hz1, hco, HR, HS⟩ := hrel
          by_cases hlt : k < n
          · obtain ⟨b, o, x, rfl, hx, hc⟩ := h.at_ hco.below hlt
            have hxb := HB.out x (List.mem_of_getElem? hx)
            rw [drop_get hx, stopsGo] at HR HS
            have H2 : Hid ((acc ++ [z]) ++ (stopsGo gap (z + (x + gap)) (ws.drop (k + 1))).1 = (stopsGo gap l ws).1) := by unfold Hid; rw [← HR]; simp
            have H3 := hide HS
            have hal2 : acc.length ≤ k := by omega
            replace hal := hide hal
            have HX := hide hx
            clear HR HS hx
            go_wp2_with (at_builtin; refine Coll.push Try.underlying22 int64_info rfl (by decide) hco rfl (by rw [List.length_map]; omega) rfl _ _ rfl rfl rfl ?_; intro v1 w1 hc1 hg1)
            go_roundw
            case rel => exact ⟨k + 1, acc ++ [z], z + (x + gap), by omega, by simp [hal.out], by go_num, by go_num, by omega, by omega, by simpa using hc1, H2.out, H3.out⟩
            case measure => simp [intOf]; omega
          · rw [h.end_ hlt, stopsGo] at HR HS
            have H2 : Hid (acc = (stopsGo gap l ws).1) := by unfold Hid; rw [← HR]; simp
            have HS2 : z = (stopsGo gap l ws).2 := HS
            rw [← H2.out, ← HS2] at HR1
            have hkn : k = n := by omega
            replace hal := hide hal
            clear HR HS HS2 hkn
            obtain ⟨A1, c1, rfl, -, -, hs1⟩ := Sl.of_coll hco
            by_cases h6 : okRack acc = true
            · by_cases h5 : z - gap ≤ 120
              · rw [if_pos ⟨h6, h5⟩] at HR1
                go_wp2_with (go_at_call 16; refine (ValidRack_i _ _ _ _ acc hs1).mono ?_; rintro e w1 ⟨rfl, hb⟩; have hsz := hb.size; obtain ⟨hcw, hfw⟩ := bcell hb)
                go_ret2
                exact ⟨_, by rw [HR1.out]; rfl, by rw [HR1.out]; exact hco.on hb⟩
              · rw [if_neg (fun e => h5 e.2)] at HR1
                go_wp2_with (go_at_call 16; refine (ValidRack_i _ _ _ _ acc hs1).mono ?_; rintro e w1 ⟨rfl, hb⟩; have hsz := hb.size; obtain ⟨hcw, hfw⟩ := bcell hb)
                go_ret2
                exact ⟨_, by rw [HR1.out]; rfl, by rw [HR1.out]; exact Coll.nil_ (Below.step hco.below hb)⟩
            · rw [if_neg (fun e => h6 e.1)] at HR1
              replace h6 : okRack acc = false := by simpa using h6
              go_wp2_with (go_at_call 16; refine (ValidRack_i _ _ _ _ acc hs1).mono ?_; rintro e w1 ⟨rfl, hb⟩; have hsz := hb.size; obtain ⟨hcw, hfw⟩ := bcell hb)
              go_ret2
              exact ⟨_, by rw [HR1.out]; rfl, by rw [HR1.out]; exact Coll.nil_ (Below.step hco.below hb)⟩
      · have HR0 : Hid (stopsFor ws l gap = ([], 2)) := by unfold Hid stopsFor; rw [if_neg (fun e => h3 e.2.2)]
        replace h3 : inB gap 1 120 = false := by simpa using h3
        go_enter Try.func27, Try.ntmps27
        go_wp2_with (first | (go_at_call 54; refine (areWidths_any _ _ _ _ ws h).mono ?_; rintro e w1 ⟨rfl, rfl⟩) | (go_at_call 50; refine (isColumn_any _ _).mono ?_; rintro e w1 ⟨rfl, rfl⟩) | (go_at_call 61; refine (between_any _ _ _ _).mono ?_; rintro e w1 ⟨rfl, rfl⟩))
        go_ret2
        exact ⟨_, by rw [HR0.out]; rfl, by rw [HR0.out]; exact Coll.nil_ (Below.refl _ _)⟩
    · have HR0 : Hid (stopsFor ws l gap = ([], 2)) := by unfold Hid stopsFor; rw [if_neg (fun e => h2 e.2.1)]
      replace h2 : inB l 0 119 = false := by simpa using h2
      go_enter Try.func27, Try.ntmps27
      go_wp2_with (first | (go_at_call 54; refine (areWidths_any _ _ _ _ ws h).mono ?_; rintro e w1 ⟨rfl, rfl⟩) | (go_at_call 50; refine (isColumn_any _ _).mono ?_; rintro e w1 ⟨rfl, rfl⟩) | (go_at_call 61; refine (between_any _ _ _ _).mono ?_; rintro e w1 ⟨rfl, rfl⟩))
      go_ret2
      exact ⟨_, by rw [HR0.out]; rfl, by rw [HR0.out]; exact Coll.nil_ (Below.refl _ _)⟩
  · have HR0 : Hid (stopsFor ws l gap = ([], 2)) := by unfold Hid stopsFor; rw [if_neg (fun e => h1 e.1)]
    replace h1 : okWidths ws = false := by simpa using h1
    go_enter Try.func27, Try.ntmps27
    go_wp2_with (first | (go_at_call 54; refine (areWidths_any _ _ _ _ ws h).mono ?_; rintro e w1 ⟨rfl, rfl⟩) | (go_at_call 50; refine (isColumn_any _ _).mono ?_; rintro e w1 ⟨rfl, rfl⟩) | (go_at_call 61; refine (between_any _ _ _ _).mono ?_; rintro e w1 ⟨rfl, rfl⟩))
    go_ret2
    exact ⟨_, by rw [HR0.out]; rfl, by rw [HR0.out]; exact Coll.nil_ (Below.refl _ _)⟩
end Go.Proofs.Ytfaaeckcehaheaa
