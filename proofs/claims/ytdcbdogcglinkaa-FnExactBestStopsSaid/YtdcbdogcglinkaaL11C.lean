/-
  Moves: the column behind a tab, behind a move; the codes of stops and two columns.
-/
import Derived.Test.YtdcbdogcglinkaaL11A
import Derived.Test.YtdcbdogcglinkaaLetter
namespace Go.Proofs.Ytdcbdogcglinkaa
set_option maxRecDepth 100000
open Go.RowKit

/-- The first stop behind a column. -/
def tabOf (c : Int) : List Int → Option Int
  | [] => none
  | x :: xs => if c < x then some x else tabOf c xs
theorem tabOf_some {c t : Int} {xs : List Int} (h : tabOf c xs = some t) : c < t ∧ t ∈ xs := by
  induction xs with
  | nil => cases h
  | cons x xs ih =>
    rw [tabOf] at h
    split at h
    · rename_i hc; cases h; exact ⟨hc, List.mem_cons_self ..⟩
    · have := ih h; exact ⟨this.1, List.mem_cons_of_mem _ this.2⟩
theorem okStops_all {xs : List Int} (h : okStops xs = true) : ∀ x ∈ xs, 1 ≤ x ∧ x ≤ 30 := by
  rw [okStops, Bool.and_eq_true] at h
  have h2 := h.2
  have go : ∀ (xs : List Int) p, rises 1 30 p xs = true → ∀ x ∈ xs, 1 ≤ x ∧ x ≤ 30 := by
    intro xs
    induction xs with
    | nil => simp
    | cons x xs ih =>
      intro p h
      rw [rises] at h
      split at h
      · rename_i hin
        split at h
        · simp at h
        · intro y hy
          rcases List.mem_cons.1 hy with rfl | hy
          · exact inB_iff.1 hin
          · exact ih _ h y hy
      · simp at h
  exact go xs none h2
/-- The column behind a move; none if the move does not exist. -/
def mvTo (xs : List Int) (c : Int) (m : UInt8) : Option Int :=
  if m = 62 then (if c < 30 then some (c + 1) else none)
  else if m = 60 then (if 0 < c then some (c - 1) else none)
  else if m = 35 then tabOf c xs else none
theorem mvTo_bd {xs : List Int} (h : ∀ x ∈ xs, 1 ≤ x ∧ x ≤ 30) {c t : Int} {m : UInt8} (hc : 0 ≤ c ∧ c ≤ 30) (ht : mvTo xs c m = some t) : 0 ≤ t ∧ t ≤ 30 := by
  unfold mvTo at ht
  split at ht
  · split at ht
    · cases ht; omega
    · cases ht
  · split at ht
    · split at ht
      · cases ht; omega
      · cases ht
    · split at ht
      · have := h _ (tabOf_some ht).2; omega
      · cases ht

set_option maxHeartbeats 400000 in
theorem l11Tab_any (w : World) (A : Option Addr) (n c : Nat) (xs : List Int) (col : Int) (h : Sl (Value.int .i64) w A n xs) :
    Calls Try.prog 66 #[.slice A n c, .int .i64 col] w fun e w' => e = .returned (.int .i64 ((tabOf col xs).getD (-1))) ∧ w = w' := by
  have hn := h.max
  go_enter Try.func66, Try.ntmps66
  go_wp2
  go_loop [5] (fun i => ∃ k : Nat, k ≤ n ∧ i = .int .i64 k ∧ tabOf col (xs.drop k) = tabOf col xs) (fun i => n - (intOf i).toNat)
  case atStart => exact ⟨0, Nat.zero_le _, rfl, by simp⟩
  case round =>
    obtain ⟨k, hk, rfl, HR⟩ := hrel
    by_cases hlt : k < n
    · obtain ⟨b, o, x, rfl, hx, hc⟩ := h.at_ (Below.refl _ _) hlt
      rw [drop_get hx, tabOf] at HR
      by_cases hcx : col < x
      · rw [if_pos hcx] at HR
        have H2 := hide HR
        clear HR hx
        go_wp2
        go_ret
        exact ⟨ret_int (by rw [← H2.out]; rfl), rfl⟩
      · rw [if_neg hcx] at HR
        have H2 := hide HR
        clear HR hx
        go_wp2
        go_round
        case rel => exact ⟨k + 1, by omega, by go_num, H2.out⟩
        case measure => simp [intOf]; omega
    · rw [h.end_ hlt, tabOf] at HR
      have H2 := hide HR
      clear HR
      go_wp2
      go_ret
      exact ⟨ret_int (by rw [← H2.out]; rfl), rfl⟩

def GotMv (r : Option Int) (w : World) (e : Ending) (w' : World) : Prop := ∃ t : Int, e = .returned (.tuple #[.int .i64 t, .bool r.isSome]) ∧ (∀ q, r = some q → t = q) ∧ w = w'
set_option maxHeartbeats 1000000 in
/-- A move that is one of the three. -/
theorem moved_any (w : World) (A : Option Addr) (n c : Nat) (xs : List Int) (col : Int) (m : UInt8) (h : Sl (Value.int .i64) w A n xs) (hc : 0 ≤ col ∧ col ≤ 30) (hm : m = 62 ∨ m = 60 ∨ m = 35) :
    Calls Try.prog 53 #[.slice A n c, .int .i64 col, .int .u8 m.toNat] w (GotMv (mvTo xs col m) w) := by
  have hn := h.max
  obtain ⟨hc0, hc1⟩ := hc
  by_cases h1 : m = 62
  · have c1 : ((m.toNat : Int) == 62) = true := b_eq (c := 62) h1
    by_cases h2 : col < 30
    · have HR : Hid (mvTo xs col m = some (col + 1)) := by unfold Hid mvTo; rw [if_pos h1, if_pos h2]
      clear h1 hm
      go_enter Try.func53, Try.ntmps53
      go_wp2
      go_ret2
      exact ⟨_, by rw [HR.out]; rfl, by rw [HR.out]; intro q hq; cases hq; rfl, rfl⟩
    · have HR : Hid (mvTo xs col m = none) := by unfold Hid mvTo; rw [if_pos h1, if_neg h2]
      clear h1 hm
      go_enter Try.func53, Try.ntmps53
      go_wp2
      go_ret2
      exact ⟨_, by rw [HR.out]; rfl, (by rw [HR.out]; intro q hq; cases hq), rfl⟩
  · have c1 : ((m.toNat : Int) == 62) = false := b_ne (c := 62) h1
    by_cases h2 : m = 60
    · have c2 : ((m.toNat : Int) == 60) = true := b_eq (c := 60) h2
      by_cases h3 : 0 < col
      · have HR : Hid (mvTo xs col m = some (col - 1)) := by unfold Hid mvTo; rw [if_neg h1, if_pos h2, if_pos h3]
        clear h1 h2 hm
        go_enter Try.func53, Try.ntmps53
        go_wp2
        go_ret2
        exact ⟨_, by rw [HR.out]; rfl, by rw [HR.out]; intro q hq; cases hq; rfl, rfl⟩
      · have HR : Hid (mvTo xs col m = none) := by unfold Hid mvTo; rw [if_neg h1, if_pos h2, if_neg h3]
        clear h1 h2 hm
        go_enter Try.func53, Try.ntmps53
        go_wp2
        go_ret2
        exact ⟨_, by rw [HR.out]; rfl, (by rw [HR.out]; intro q hq; cases hq), rfl⟩
    · have c2 : ((m.toNat : Int) == 60) = false := b_ne (c := 60) h2
      have h35 : m = 35 := by rcases hm with e | e | e; exact absurd e h1; exact absurd e h2; exact e
      have HT : Hid (mvTo xs col m = tabOf col xs) := by unfold Hid mvTo; rw [if_neg h1, if_neg h2, if_pos h35]
      clear h1 h2 hm h35
      go_enter Try.func53, Try.ntmps53
      go_wp2
      go_loop [25] (fun i => ∃ k : Nat, k ≤ n ∧ i = .int .i64 k ∧ tabOf col (xs.drop k) = tabOf col xs) (fun i => n - (intOf i).toNat)
      case atStart => exact ⟨0, Nat.zero_le _, rfl, by simp⟩
      case round =>
        obtain ⟨k, hk, rfl, HR⟩ := hrel
        by_cases hlt : k < n
        · obtain ⟨b, o, x, rfl, hx, hc⟩ := h.at_ (Below.refl _ _) hlt
          rw [drop_get hx, tabOf] at HR
          by_cases hcx : col < x
          · rw [if_pos hcx] at HR
            have H2 : Hid (mvTo xs col m = some x) := by unfold Hid; rw [HT.out, ← HR]
            clear HR hx
            go_wp2
            go_ret2
            exact ⟨_, by rw [H2.out]; rfl, by rw [H2.out]; intro q hq; cases hq; rfl, rfl⟩
          · rw [if_neg hcx] at HR
            have H2 := hide HR
            clear HR hx
            go_wp2
            go_round
            case rel => exact ⟨k + 1, by omega, by go_num, H2.out⟩
            case measure => simp [intOf]; omega
        · rw [h.end_ hlt, tabOf] at HR
          have H2 : Hid (mvTo xs col m = none) := by unfold Hid; rw [HT.out, ← HR]
          clear HR
          go_wp2
          go_ret2
          exact ⟨_, by rw [H2.out]; rfl, (by rw [H2.out]; intro q hq; cases hq), rfl⟩

set_option maxHeartbeats 1000000 in
theorem l11Next_any (w : World) (A : Option Addr) (n c : Nat) (xs : List Int) (col : Int) (m : UInt8) (h : Sl (Value.int .i64) w A n xs) (hx : ∀ x ∈ xs, 1 ≤ x ∧ x ≤ 30) (hc : 0 ≤ col ∧ col ≤ 30) :
    Calls Try.prog 52 #[.slice A n c, .int .i64 col, .int .u8 m.toNat] w fun e w' => e = .returned (.int .i64 ((mvTo xs col m).getD (-1))) ∧ w = w' := by
  have HX := hide hx
  obtain ⟨hc0, hc1⟩ := hc
  clear hx
  obtain ⟨v, hv⟩ : ∃ v, mvTo xs col m = v := ⟨_, rfl⟩
  have HV := hide hv
  rw [hv]
  by_cases h1 : m = 62
  · have c1 : ((m.toNat : Int) == 62) = true := b_eq (c := 62) h1
    unfold mvTo at hv
    rw [if_pos h1] at hv
    clear h1
    by_cases h2 : col < 30
    · rw [if_pos h2] at hv
      subst hv
      have hin : inB (col + 1) 0 30 = true := inB_iff.2 (by omega)
      go_enter Try.func52, Try.ntmps52
      go_wp2_with (go_at_call 65; refine (l11Column_any _ _).mono ?_; rintro e w1 ⟨rfl, rfl⟩)
      go_ret
      exact ⟨rfl, rfl⟩
    · rw [if_neg h2] at hv
      subst hv
      have hin : inB (col + 1) 0 30 = false := by simp [inB]; omega
      go_enter Try.func52, Try.ntmps52
      go_wp2_with (go_at_call 65; refine (l11Column_any _ _).mono ?_; rintro e w1 ⟨rfl, rfl⟩)
      go_ret
      exact ⟨rfl, rfl⟩
  · have c1 : ((m.toNat : Int) == 62) = false := b_ne (c := 62) h1
    by_cases h2 : m = 60
    · have c2 : ((m.toNat : Int) == 60) = true := b_eq (c := 60) h2
      unfold mvTo at hv
      rw [if_neg h1, if_pos h2] at hv
      clear h1 h2
      by_cases h3 : 0 < col
      · rw [if_pos h3] at hv
        subst hv
        have hin : inB (col - 1) 0 30 = true := inB_iff.2 (by omega)
        go_enter Try.func52, Try.ntmps52
        go_wp2_with (go_at_call 65; refine (l11Column_any _ _).mono ?_; rintro e w1 ⟨rfl, rfl⟩)
        go_ret
        exact ⟨rfl, rfl⟩
      · rw [if_neg h3] at hv
        subst hv
        have hin : inB (col - 1) 0 30 = false := by simp [inB]; omega
        go_enter Try.func52, Try.ntmps52
        go_wp2_with (go_at_call 65; refine (l11Column_any _ _).mono ?_; rintro e w1 ⟨rfl, rfl⟩)
        go_ret
        exact ⟨rfl, rfl⟩
    · have c2 : ((m.toNat : Int) == 60) = false := b_ne (c := 60) h2
      by_cases h3 : m = 35
      · have c3 : ((m.toNat : Int) == 35) = true := b_eq (c := 35) h3
        unfold mvTo at hv
        rw [if_neg h1, if_neg h2, if_pos h3] at hv
        clear h1 h2 h3
        cases v with
        | none =>
          have H3 := hide hv
          have hin : inB (-1) 0 30 = false := by decide
          clear hv
          go_enter Try.func52, Try.ntmps52
          go_wp2_with (first | (go_at_call 66; refine (l11Tab_any _ _ _ _ _ _ h).mono ?_; rintro e w1 ⟨rfl, rfl⟩; rw [H3.out]) | (go_at_call 65; refine (l11Column_any _ _).mono ?_; rintro e w1 ⟨rfl, rfl⟩))
          go_ret
          exact ⟨rfl, rfl⟩
        | some t =>
          have hb := HX.out _ (tabOf_some hv).2
          have H3 := hide hv
          have hin : inB t 0 30 = true := inB_iff.2 (by omega)
          clear hv
          go_enter Try.func52, Try.ntmps52
          go_wp2_with (first | (go_at_call 66; refine (l11Tab_any _ _ _ _ _ _ h).mono ?_; rintro e w1 ⟨rfl, rfl⟩; rw [H3.out]) | (go_at_call 65; refine (l11Column_any _ _).mono ?_; rintro e w1 ⟨rfl, rfl⟩))
          go_ret
          exact ⟨rfl, rfl⟩
      · have c3 : ((m.toNat : Int) == 35) = false := b_ne (c := 35) h3
        unfold mvTo at hv
        rw [if_neg h1, if_neg h2, if_neg h3] at hv
        subst hv
        have hin : inB (-1) 0 30 = false := by decide
        clear h1 h2 h3
        go_enter Try.func52, Try.ntmps52
        go_wp2_with (go_at_call 65; refine (l11Column_any _ _).mono ?_; rintro e w1 ⟨rfl, rfl⟩)
        go_ret
        exact ⟨rfl, rfl⟩
end Go.Proofs.Ytdcbdogcglinkaa
