/-
  Boards and layouts: are they valid; where a byte stands in a layout.
-/
import Derived.Test.YtcgjgelapjdihaaL07A
import Derived.Test.YtcgjgelapjdihaaRises
import Derived.Test.YtcgjgelapjdihaaTexts
namespace Go.Proofs.Ytcgjgelapjdihaa
set_option maxRecDepth 100000
open Go.RowKit

theorem between_any (n lo hi : Int) (w : World) :
    Calls Try.prog 35 #[.int .i64 n, .int .i64 lo, .int .i64 hi] w fun e w' => e = .returned (.bool (inB n lo hi)) ∧ w = w' := by
  go_enter Try.func35, Try.ntmps35
  go_wp2
  all_goals go_ret
  all_goals (refine ⟨?_, rfl⟩; simp [inB]; try omega)
def okPl (x : Pl) : Bool := inB x.1 0 7 && (inB x.2.1 0 3 && inB x.2.2 0 50)
def boardGo : List Pl → Bool
  | [] => true
  | x :: xs => if okPl x = true then boardGo xs else false
def okBoard (xs : List Pl) : Bool := boardGo xs && inB (xs.length : Int) 1 6
theorem boardGo_all {xs : List Pl} (h : boardGo xs = true) : ∀ x ∈ xs, (0 ≤ x.1 ∧ x.1 ≤ 7) ∧ (0 ≤ x.2.1 ∧ x.2.1 ≤ 3) ∧ (0 ≤ x.2.2 ∧ x.2.2 ≤ 50) := by
  induction xs with
  | nil => simp
  | cons y ys ih =>
    rw [boardGo] at h
    by_cases hy : okPl y = true
    · rw [if_pos hy] at h
      intro x hx
      rcases List.mem_cons.1 hx with rfl | hx
      · simp only [okPl, Bool.and_eq_true] at hy
        exact ⟨inB_iff.1 hy.1, inB_iff.1 hy.2.1, inB_iff.1 hy.2.2⟩
      · exact ih h x hx
    · rw [if_neg hy] at h; cases h
set_option maxHeartbeats 2000000 in
theorem l07Ok_any (w : World) (A : Option Addr) (n c : Nat) (xs : List Pl) (h : Sl3 (Value.int .i64) w A n xs) :
    Calls Try.prog 19 #[.slice A n c] w fun e w' => e = .returned (.bool (okBoard xs)) ∧ Below w.heap.size w w' := by
  have hn := h.max
  go_enter Try.func19, Try.ntmps19
  go_wp2
  go_loopw [3] (fun i wr => ∃ k : Nat, k ≤ n ∧ i = .int .i64 k ∧ Below w.heap.size w wr ∧ boardGo (xs.drop k) = boardGo xs) (fun i _ => n - (intOf i).toNat)
  case atStart => exact ⟨0, Nat.zero_le _, rfl, Below.refl _ _, by simp⟩
  case round =>
    obtain ⟨k, hk, rfl, hb, HR⟩ := hrel
    by_cases hlt : k < n
    · obtain ⟨b, o, x, y, z, rfl, hbl, hx, c0, c1, c2⟩ := h.at_ hb hlt
      rw [drop_get hx, boardGo] at HR
      by_cases h1 : inB x 0 7 = true
      · by_cases h2 : inB y 0 3 = true
        · by_cases h3 : inB z 0 50 = true
          · rw [if_pos (by simp [okPl, h1, h2, h3])] at HR
            have H2 := hide HR
            clear HR hx
            go_wp2_with (go_at_call 32; refine (l00In_any _ _ _ _).mono ?_; rintro e w1 ⟨rfl, rfl⟩)
            go_roundw
            case rel => exact ⟨k + 1, by omega, by go_num, hb.alloc hb.size _, H2.out⟩
            case measure => simp [intOf]; omega
          · rw [if_neg (by simp [okPl, h3])] at HR
            have HF : Hid (okBoard xs = false) := by unfold Hid okBoard; rw [← HR]; rfl
            replace h3 : inB z 0 50 = false := by simpa using h3
            clear HR hx
            go_wp2_with (go_at_call 32; refine (l00In_any _ _ _ _).mono ?_; rintro e w1 ⟨rfl, rfl⟩)
            go_ret
            exact ⟨ret_bool HF.out.symm, hb.alloc hb.size _⟩
        · rw [if_neg (by simp [okPl, h2])] at HR
          have HF : Hid (okBoard xs = false) := by unfold Hid okBoard; rw [← HR]; rfl
          replace h2 : inB y 0 3 = false := by simpa using h2
          clear HR hx
          go_wp2_with (go_at_call 32; refine (l00In_any _ _ _ _).mono ?_; rintro e w1 ⟨rfl, rfl⟩)
          go_ret
          exact ⟨ret_bool HF.out.symm, hb.alloc hb.size _⟩
      · rw [if_neg (by simp [okPl, h1])] at HR
        have HF : Hid (okBoard xs = false) := by unfold Hid okBoard; rw [← HR]; rfl
        replace h1 : inB x 0 7 = false := by simpa using h1
        clear HR hx
        go_wp2_with (go_at_call 32; refine (l00In_any _ _ _ _).mono ?_; rintro e w1 ⟨rfl, rfl⟩)
        go_ret
        exact ⟨ret_bool HF.out.symm, hb.alloc hb.size _⟩
    · rw [h.end_ hlt, boardGo] at HR
      have HF : Hid (okBoard xs = inB (n : Int) 1 6) := by unfold Hid okBoard; rw [← HR, h.len, Bool.true_and]
      clear HR
      go_wp2_with (go_at_call 32; refine (l00In_any _ _ _ _).mono ?_; rintro e w1 ⟨rfl, rfl⟩)
      go_ret
      exact ⟨ret_bool HF.out.symm, hb⟩
set_option maxHeartbeats 2000000 in
theorem ValidBoard_any (w : World) (A : Option Addr) (n c : Nat) (xs : List Pl) (h : Sl3 (Value.int .i64) w A n xs) :
    Calls Try.prog 24 #[.slice A n c] w fun e w' => e = .returned (.bool (okBoard xs)) ∧ Below w.heap.size w w' := by
  have hn := h.max
  by_cases hn0 : inB (n : Int) 1 6 = true
  · have HN0 := hide hn0
    go_enter Try.func24, Try.ntmps24
    go_wp2_with (go_at_call 35; refine (between_any _ _ _ _).mono ?_; rintro e w1 ⟨rfl, rfl⟩)
    clear hn0
    go_loopw [11] (fun i wr => ∃ k : Nat, k ≤ n ∧ i = .int .i64 k ∧ Below w.heap.size w wr ∧ boardGo (xs.drop k) = boardGo xs) (fun i _ => n - (intOf i).toNat)
    case atStart => exact ⟨0, Nat.zero_le _, rfl, Below.refl _ _, by simp⟩
    case round =>
      obtain ⟨k, hk, rfl, hb, HR⟩ := hrel
      by_cases hlt : k < n
      · obtain ⟨b, o, x, y, z, rfl, hbl, hx, c0, c1, c2⟩ := h.at_ hb hlt
        rw [drop_get hx, boardGo] at HR
        by_cases h1 : inB x 0 7 = true
        · by_cases h2 : inB y 0 3 = true
          · by_cases h3 : inB z 0 50 = true
            · rw [if_pos (by simp [okPl, h1, h2, h3])] at HR
              have H2 := hide HR
              clear HR hx
              go_wp2_with (go_at_call 35; refine (between_any _ _ _ _).mono ?_; rintro e w1 ⟨rfl, rfl⟩)
              go_roundw
              case rel => exact ⟨k + 1, by omega, by go_num, hb.alloc hb.size _, H2.out⟩
              case measure => simp [intOf]; omega
            · rw [if_neg (by simp [okPl, h3])] at HR
              have HF : Hid (okBoard xs = false) := by unfold Hid okBoard; rw [← HR]; rfl
              replace h3 : inB z 0 50 = false := by simpa using h3
              clear HR hx
              go_wp2_with (go_at_call 35; refine (between_any _ _ _ _).mono ?_; rintro e w1 ⟨rfl, rfl⟩)
              go_ret
              exact ⟨ret_bool HF.out.symm, hb.alloc hb.size _⟩
          · rw [if_neg (by simp [okPl, h2])] at HR
            have HF : Hid (okBoard xs = false) := by unfold Hid okBoard; rw [← HR]; rfl
            replace h2 : inB y 0 3 = false := by simpa using h2
            clear HR hx
            go_wp2_with (go_at_call 35; refine (between_any _ _ _ _).mono ?_; rintro e w1 ⟨rfl, rfl⟩)
            go_ret
            exact ⟨ret_bool HF.out.symm, hb.alloc hb.size _⟩
        · rw [if_neg (by simp [okPl, h1])] at HR
          have HF : Hid (okBoard xs = false) := by unfold Hid okBoard; rw [← HR]; rfl
          replace h1 : inB x 0 7 = false := by simpa using h1
          clear HR hx
          go_wp2_with (go_at_call 35; refine (between_any _ _ _ _).mono ?_; rintro e w1 ⟨rfl, rfl⟩)
          go_ret
          exact ⟨ret_bool HF.out.symm, hb.alloc hb.size _⟩
      · rw [h.end_ hlt, boardGo] at HR
        have HF : Hid (okBoard xs = true) := by unfold Hid okBoard; rw [← HR, h.len, HN0.out]; rfl
        clear HR
        go_wp2
        go_ret
        exact ⟨ret_bool HF.out.symm, hb⟩
  · have HF : Hid (okBoard xs = false) := by unfold Hid okBoard; rw [h.len]; simp [hn0]
    replace hn0 : inB (n : Int) 1 6 = false := by simpa using hn0
    go_enter Try.func24, Try.ntmps24
    go_wp2_with (go_at_call 35; refine (between_any _ _ _ _).mono ?_; rintro e w1 ⟨rfl, rfl⟩)
    go_ret
    exact ⟨ret_bool HF.out.symm, Below.refl _ _⟩

/-! ### where a byte stands -/
def idx (c : UInt8) : List UInt8 → Option Nat
  | [] => none
  | b :: bs => if b = c then some 0 else (idx c bs).map (· + 1)
def idV : Option Nat → Int
  | none => -1
  | some i => (i : Int)
theorem idx_lt {c : UInt8} {l : List UInt8} : ∀ {i}, idx c l = some i → i < l.length ∧ l[i]? = some c := by
  induction l with
  | nil => intro i h; cases h
  | cons b bs ih =>
    intro i h
    rw [idx] at h
    split at h
    · rename_i hb; cases h; exact ⟨by simp, by simp [hb]⟩
    · cases hq : idx c bs with
      | none => rw [hq] at h; cases h
      | some j =>
        rw [hq] at h
        cases h
        have := ih hq
        exact ⟨by simp; omega, by simpa using this.2⟩
theorem idx_none {c : UInt8} {l : List UInt8} : idx c l = none ↔ c ∉ l := by
  induction l with
  | nil => simp [idx]
  | cons b bs ih =>
    rw [idx]
    split
    · rename_i hb; simp [hb]
    · rename_i hb; simp [ih, Ne.symm hb]
theorem idx_snoc {c b : UInt8} {l : List UInt8} : idx c (l ++ [b]) = match idx c l with | some i => some i | none => if b = c then some l.length else none := by
  induction l with
  | nil => simp [idx]
  | cons a as' ih =>
    rw [List.cons_append, idx, idx]
    split
    · rfl
    · rw [ih]
      cases idx c as' with
      | some i => rfl
      | none => simp only; split <;> simp
theorem nodup_inj {l : List UInt8} : l.Nodup ↔ ∀ (i j : Nat) (hi : i < l.length) (hj : j < l.length), l[i] = l[j] → i = j := by
  unfold List.Nodup
  rw [List.pairwise_iff_getElem]
  constructor
  · intro h i j hi hj e
    rcases Nat.lt_trichotomy i j with h1 | h1 | h1
    · exact absurd e (h i j hi hj h1)
    · exact h1
    · exact absurd e.symm (h j i hj hi h1)
  · intro h i j hi hj hij e
    have := h i j hi hj e
    omega
theorem idx_take {c b : UInt8} {l : List UInt8} {k : Nat} (hn : l.Nodup) (hb : l[k]? = some b) : idx c (l.take (k + 1)) = if b = c then some k else idx c (l.take k) := by
  obtain ⟨h1, h2⟩ := List.getElem?_eq_some_iff.1 hb
  rw [List.take_succ_eq_append_getElem h1, h2, idx_snoc]
  have hlen : (l.take k).length = k := by rw [List.length_take]; omega
  by_cases hbc : b = c
  · rw [if_pos hbc]
    have : idx c (l.take k) = none := by
      rw [idx_none]
      intro hm
      obtain ⟨j, hj, e⟩ := List.getElem_of_mem hm
      rw [List.getElem_take] at e
      rw [List.length_take] at hj
      have := nodup_inj.1 hn j k (by omega) h1 (by rw [e, h2, hbc])
      omega
    rw [this, if_pos hbc, hlen]
  · cases idx c (l.take k) with
    | some i => simp [hbc]
    | none => simp [hbc]
theorem idx_self {l : List UInt8} : (∀ i b, l[i]? = some b → idx b l = some i) ↔ l.Nodup := by
  constructor
  · intro h
    rw [nodup_inj]
    intro i j hi hj e
    have h1 := h i _ (List.getElem?_eq_getElem hi)
    have h2 := h j _ (List.getElem?_eq_getElem hj)
    rw [e, h2] at h1
    exact (Option.some.inj h1).symm
  · intro hn i b hb
    obtain ⟨h1, h2⟩ := List.getElem?_eq_some_iff.1 hb
    cases hq : idx b l with
    | none => rw [idx_none] at hq; exact absurd (List.mem_of_getElem? hb) hq
    | some j =>
      obtain ⟨h3, h4⟩ := idx_lt hq
      obtain ⟨_, h5⟩ := List.getElem?_eq_some_iff.1 h4
      rw [nodup_inj.1 hn j i h3 h1 (by rw [h5, h2])]
theorem l05Index_any (w : World) (s : ByteArray) (c : UInt8) (hs : s.size ≤ 1048576) :
    Calls Try.prog 20 #[.string s, .int .u8 c.toNat] w fun e w' => e = .returned (.int .i64 (idV (idx c (by_ s)))) ∧ w = w' := by
  go_enter Try.func20, Try.ntmps20
  go_wp2
  go_loop [5] (fun i => ∃ k : Nat, k ≤ s.size ∧ i = .int .i64 k ∧ idx c (by_ s) = (idx c ((by_ s).drop k)).map (· + k)) (fun i => s.size - (intOf i).toNat)
  case atStart => exact ⟨0, Nat.zero_le _, rfl, by simp⟩
  case round =>
    obtain ⟨k, hk, rfl, HR⟩ := hrel
    by_cases hlt : k < s.size
    · have hx := by_get hlt
      obtain ⟨b, hb⟩ : ∃ b, s[k] = b := ⟨_, rfl⟩
      rw [hb] at hx
      have hrun := run_byte hx
      rw [drop_get hx, idx] at HR
      by_cases hbc : b = c
      · rw [if_pos hbc] at HR
        have hcb : ((b.toNat : Int) == (c.toNat : Int)) = true := by simp [hbc]
        have H2 : Hid (idx c (by_ s) = some k) := by unfold Hid; rw [HR]; simp
        clear HR hx hb hbc
        go_wp2
        go_ret
        exact ⟨ret_int (by rw [H2.out]; rfl), rfl⟩
      · rw [if_neg hbc] at HR
        have hcb : ((b.toNat : Int) == (c.toNat : Int)) = false := by
          simp; intro e; exact hbc (UInt8.toNat_inj.1 (by omega))
        have H2 : Hid (idx c (by_ s) = (idx c ((by_ s).drop (k + 1))).map (· + (k + 1))) := by
          unfold Hid
          rw [HR]
          cases idx c ((by_ s).drop (k + 1)) with
          | none => rfl
          | some i => simp; omega
        clear HR hx hb hbc
        go_wp2
        go_round
        case rel => exact ⟨k + 1, by omega, by go_num, H2.out⟩
        case measure => simp [intOf]; omega
    · rw [List.drop_eq_nil_of_le (by rw [by_len]; omega), idx] at HR
      have H2 : Hid (idx c (by_ s) = none) := HR
      clear HR
      go_wp2
      go_ret
      exact ⟨ret_int (by rw [H2.out]; rfl), rfl⟩
end Go.Proofs.Ytcgjgelapjdihaa
