/-
  Words: can they be set in a width; ValidText; the length of a line.
-/
import Derived.Test.YtanpmjbephelaaaRises
import Derived.Test.YtanpmjbephelaaaTexts
namespace Go.Proofs.Ytanpmjbephelaaa
set_option maxRecDepth 100000
open Go.RowKit

theorem between_any (n lo hi : Int) (w : World) :
    Calls Try.prog 77 #[.int .i64 n, .int .i64 lo, .int .i64 hi] w fun e w' => e = .returned (.bool (inB n lo hi)) ∧ w = w' := by
  go_enter Try.func77, Try.ntmps77
  go_wp2
  all_goals go_ret
  all_goals (refine ⟨?_, rfl⟩; simp [inB]; try omega)

/-- A word of at most m bytes, one at least, each from 33 to 126. -/
def wordOk (m : Int) (s : ByteArray) : Bool := textGo 33 (by_ s) && inB (s.size : Int) 1 m
def allW (m : Int) : List ByteArray → Bool
  | [] => true
  | s :: ss => if wordOk m s = true then allW m ss else false
def validT (xs : List ByteArray) (m : Int) : Bool := allW m xs && (decide (xs.length ≤ 40) && inB m 1 80)
theorem allW_all {m : Int} {ss : List ByteArray} (h : allW m ss = true) : ∀ s ∈ ss, wordOk m s = true := by
  induction ss with
  | nil => simp
  | cons y ys ih =>
    rw [allW] at h
    by_cases hy : wordOk m y = true
    · rw [if_pos hy] at h
      intro s hs
      rcases List.mem_cons.1 hs with rfl | hs
      · exact hy
      · exact ih h s hs
    · rw [if_neg hy] at h; cases h
theorem validT_facts {xs : List ByteArray} {m : Int} (h : validT xs m = true) : (∀ s ∈ xs, 1 ≤ s.size ∧ (s.size : Int) ≤ m) ∧ xs.length ≤ 40 ∧ 1 ≤ m ∧ m ≤ 80 := by
  simp only [validT, Bool.and_eq_true, decide_eq_true_eq] at h
  obtain ⟨h1, h2, h3⟩ := h
  have h4 := inB_iff.1 h3
  refine ⟨fun s hs => ?_, h2, h4.1, h4.2⟩
  have := allW_all h1 s hs
  simp only [wordOk, Bool.and_eq_true] at this
  have := inB_iff.1 this.2
  omega
theorem wordOk_txt {m : Int} {s : ByteArray} (h : ¬ s.size = 0) : isTxt 33 m s = wordOk m s := by
  unfold isTxt wordOk
  rw [Bool.and_comm]
  congr 1
  unfold inB
  rw [decide_eq_decide]; omega
theorem wordOk_none {m : Int} {s : ByteArray} (h : s.size = 0) : wordOk m s = false := by
  unfold wordOk inB
  rw [show decide (1 ≤ (s.size : Int) ∧ (s.size : Int) ≤ m) = false from by rw [decide_eq_false_iff_not]; omega, Bool.and_false]

theorem l09Word_any (w : World) (s : ByteArray) (m : Int) (hs : s.size ≤ 9223372036854775807) :
    Calls Try.prog 102 #[.string s, .int .i64 m] w fun e w' => e = .returned (.bool (wordOk m s)) ∧ w = w' := by
  go_enter Try.func102, Try.ntmps102
  go_wp2
  go_loop [5] (fun i => ∃ k : Nat, k ≤ s.size ∧ i = .int .i64 k ∧ textGo 33 ((by_ s).drop k) = textGo 33 (by_ s)) (fun i => s.size - (intOf i).toNat)
  case atStart => exact ⟨0, Nat.zero_le _, rfl, by simp⟩
  case round =>
    obtain ⟨k, hk, rfl, HR⟩ := hrel
    by_cases hlt : k < s.size
    · have hx := by_get hlt
      obtain ⟨b, hb⟩ : ∃ b, s[k] = b := ⟨_, rfl⟩
      rw [hb] at hx
      have hrun := run_byte hx
      rw [drop_get hx, textGo] at HR
      by_cases hbad : (b.toNat : Int) < 33 ∨ 126 < (b.toNat : Int)
      · rw [if_pos hbad] at HR
        have H2 := hide HR
        clear HR hx hb
        rcases hbad with hbad | hbad
        all_goals
          go_wp2
          all_goals go_ret
          all_goals exact ⟨ret_bool (by rw [wordOk, ← H2.out]; rfl), rfl⟩
      · rw [if_neg hbad] at HR
        have H2 := hide HR
        have hb1 : ¬ (b.toNat : Int) < 33 := fun h => hbad (.inl h)
        have hb2 : ¬ 126 < (b.toNat : Int) := fun h => hbad (.inr h)
        clear HR hx hb hbad
        go_wp2
        go_round
        case rel => exact ⟨k + 1, by omega, by go_num, H2.out⟩
        case measure => simp [intOf]; omega
    · have H2 : Hid (textGo 33 (by_ s) = true) := by
        unfold Hid
        rw [← HR, List.drop_eq_nil_of_le (by rw [by_len]; omega)]; rfl
      clear HR
      go_wp2_with (go_at_call 70; refine (l00In_any _ _ _ _).mono ?_; rintro e w1 ⟨rfl, rfl⟩)
      go_ret
      exact ⟨ret_bool (by rw [wordOk, H2.out, Bool.true_and]), rfl⟩

set_option maxHeartbeats 400000 in
theorem l09Ok_any (w : World) (A : Option Addr) (n c : Nat) (xs : List ByteArray) (m : Int) (h : Sl Value.string w A n xs) (hu : ∀ s ∈ xs, (s.size : Int) ≤ 1048576) :
    Calls Try.prog 65 #[.slice A n c, .int .i64 m] w fun e w' => e = .returned (.bool (validT xs m)) ∧ Below w.heap.size w w' := by
  have hn := h.max
  have HU := hide hu
  clear hu
  go_enter Try.func65, Try.ntmps65
  go_wp2
  go_loopw [5] (fun i wr => ∃ k : Nat, k ≤ n ∧ i = .int .i64 k ∧ Below w.heap.size w wr ∧ allW m (xs.drop k) = allW m xs) (fun i _ => n - (intOf i).toNat)
  case atStart => exact ⟨0, Nat.zero_le _, rfl, Below.refl _ _, by simp⟩
  case round =>
    obtain ⟨k, hk, rfl, hb, HR⟩ := hrel
    by_cases hlt : k < n
    · obtain ⟨b, o, p, rfl, hx, hc⟩ := h.at_ hb hlt
      have hps := HU.out _ (List.mem_of_getElem? hx)
      rw [drop_get hx, allW] at HR
      by_cases hp : wordOk m p = true
      · rw [if_pos hp] at HR
        have H2 := hide HR
        clear HR hx
        go_wp2_with (go_at_call 102; refine (l09Word_any _ _ _ (by omega)).mono ?_; rintro e w1 ⟨rfl, rfl⟩)
        go_roundw
        case rel => exact ⟨k + 1, by omega, by go_num, hb, H2.out⟩
        case measure => simp [intOf]; omega
      · rw [if_neg hp] at HR
        have H2 : Hid (validT xs m = false) := by unfold Hid validT; rw [← HR]; rfl
        replace hp : wordOk m p = false := by simpa using hp
        clear HR hx
        go_wp2_with (go_at_call 102; refine (l09Word_any _ _ _ (by omega)).mono ?_; rintro e w1 ⟨rfl, rfl⟩)
        go_ret
        exact ⟨ret_bool H2.out.symm, hb⟩
    · rw [h.end_ hlt, allW] at HR
      have H2 : Hid (validT xs m = (decide (n ≤ 40) && inB m 1 80)) := by unfold Hid validT; rw [← HR, h.len]; rfl
      clear HR
      by_cases h40 : n ≤ 40
      · rw [show decide (n ≤ 40) = true from decide_eq_true h40, Bool.true_and] at H2
        have h40i : decide ((n : Int) ≤ 40) = true := by rw [decide_eq_true_eq]; omega
        go_wp2_with (go_at_call 70; refine (l00In_any _ _ _ _).mono ?_; rintro e w1 ⟨rfl, rfl⟩)
        go_ret
        exact ⟨ret_bool H2.out.symm, hb⟩
      · rw [show decide (n ≤ 40) = false from decide_eq_false h40, Bool.false_and] at H2
        have h40i : decide ((n : Int) ≤ 40) = false := by rw [decide_eq_false_iff_not]; omega
        go_wp2
        go_ret
        exact ⟨ret_bool H2.out.symm, hb⟩
set_option maxHeartbeats 400000 in
theorem ValidText_I (w : World) (A : Option Addr) (n c : Nat) (xs : List ByteArray) (m : Int) (h : Sl Value.string w A n xs) (hu : ∀ s ∈ xs, (s.size : Int) ≤ 1048576) :
    Calls Try.prog 66 #[.slice A n c, .int .i64 m] w fun e w' => e = .returned (.bool (validT xs m)) ∧ Below w.heap.size w w' := by
  have hn := h.max
  have HU := hide hu
  clear hu
  by_cases hm : inB m 1 80 = true
  · have hmb := inB_iff.1 hm
    by_cases h40 : n ≤ 40
    · have HV : Hid (validT xs m = allW m xs) := by unfold Hid validT; rw [h.len, hm, show decide (n ≤ 40) = true from decide_eq_true h40]; simp
      go_enter Try.func66, Try.ntmps66
      go_wp2_with (go_at_call 77; refine (between_any _ _ _ _).mono ?_; rintro e w1 ⟨rfl, rfl⟩)
      go_loopw [17] (fun i wr => ∃ k : Nat, k ≤ n ∧ i = .int .i64 k ∧ Below w.heap.size w wr ∧ allW m (xs.drop k) = allW m xs) (fun i _ => n - (intOf i).toNat)
      case atStart => exact ⟨0, Nat.zero_le _, rfl, Below.refl _ _, by simp⟩
      case round =>
        obtain ⟨k, hk, rfl, hb, HR⟩ := hrel
        by_cases hlt : k < n
        · obtain ⟨b, o, p, rfl, hx, hc⟩ := h.at_ hb hlt
          have hps := HU.out _ (List.mem_of_getElem? hx)
          rw [drop_get hx, allW] at HR
          by_cases hp0 : p.size = 0
          · rw [if_neg (by rw [wordOk_none hp0]; decide)] at HR
            have H2 : Hid (validT xs m = false) := by unfold Hid; rw [HV.out, ← HR]
            have hz : ((p.size : Int) == 0) = true := by simp [hp0]
            clear HR hx hp0
            go_wp2
            go_ret
            exact ⟨ret_bool H2.out.symm, hb⟩
          · have hz : ((p.size : Int) == 0) = false := beq_eq_false_iff_ne.2 (by omega)
            have HT := hide (wordOk_txt (m := m) hp0)
            clear hp0
            by_cases hp : wordOk m p = true
            · rw [if_pos hp] at HR
              have H2 := hide HR
              replace hp := hide hp
              clear HR hx
              go_wp2_with (go_at_call 63; refine (isText_any _ _ _ _ (by omega)).mono ?_; rintro e w2 ⟨rfl, rfl⟩; rw [HT.out, hp.out])
              go_roundw
              case rel => exact ⟨k + 1, by omega, by go_num, hb, H2.out⟩
              case measure => simp [intOf]; omega
            · rw [if_neg hp] at HR
              have H2 : Hid (validT xs m = false) := by unfold Hid; rw [HV.out, ← HR]
              replace hp : Hid (wordOk m p = false) := by unfold Hid; simpa using hp
              clear HR hx
              go_wp2_with (go_at_call 63; refine (isText_any _ _ _ _ (by omega)).mono ?_; rintro e w2 ⟨rfl, rfl⟩; rw [HT.out, hp.out])
              go_ret
              exact ⟨ret_bool H2.out.symm, hb⟩
        · rw [h.end_ hlt, allW] at HR
          have H2 : Hid (validT xs m = true) := by unfold Hid; rw [HV.out, ← HR]
          clear HR
          go_wp2
          go_ret
          exact ⟨ret_bool H2.out.symm, hb⟩
    · have HV : Hid (validT xs m = false) := by unfold Hid validT; rw [h.len, show decide (n ≤ 40) = false from decide_eq_false h40]; simp
      go_enter Try.func66, Try.ntmps66
      go_wp2_with (go_at_call 77; refine (between_any _ _ _ _).mono ?_; rintro e w1 ⟨rfl, rfl⟩)
      go_ret
      exact ⟨ret_bool HV.out.symm, Below.refl _ _⟩
  · replace hm : inB m 1 80 = false := by simpa using hm
    have HV : Hid (validT xs m = false) := by unfold Hid validT; rw [hm]; simp
    go_enter Try.func66, Try.ntmps66
    go_wp2_with (go_at_call 77; refine (between_any _ _ _ _).mono ?_; rintro e w1 ⟨rfl, rfl⟩)
    go_ret
    exact ⟨ret_bool HV.out.symm, Below.refl _ _⟩

/-! ### the length of a line -/
def sumSz : List ByteArray → Nat
  | [] => 0
  | s :: ss => s.size + sumSz ss
theorem sumSz_take {ss : List ByteArray} {k : Nat} {s : ByteArray} (h : ss[k]? = some s) : sumSz (ss.take (k + 1)) = sumSz (ss.take k) + s.size := by
  obtain ⟨h1, h2⟩ := List.getElem?_eq_some_iff.1 h
  rw [List.take_succ_eq_append_getElem h1, h2]
  generalize ss.take k = l
  induction l with
  | nil => simp [sumSz]
  | cons a l ih => simp only [List.cons_append, sumSz, ih]; omega
theorem sumSz_le {ss : List ByteArray} {M : Nat} (h : ∀ s ∈ ss, s.size ≤ M) : sumSz ss ≤ M * ss.length := by
  induction ss with
  | nil => simp [sumSz]
  | cons a ss ih =>
    have h1 := h a (List.mem_cons_self ..)
    have h2 := ih (fun s hs => h s (List.mem_cons_of_mem _ hs))
    simp only [sumSz, List.length_cons, Nat.mul_succ]; omega
def lineL (xs : List ByteArray) : Int := max 0 ((xs.length : Int) - 1 + (sumSz xs : Int))
theorem lineL_bd {xs : List ByteArray} (h : ∀ s ∈ xs, s.size ≤ 80) : 0 ≤ lineL xs ∧ lineL xs ≤ 81 * xs.length := by
  have := sumSz_le h
  unfold lineL
  constructor <;> omega
theorem l00Max_any (a b : Int) (w : World) :
    Calls Try.prog 82 #[.int .i64 a, .int .i64 b] w fun e w' => e = .returned (.int .i64 (max a b)) ∧ w = w' := by
  go_enter Try.func82, Try.ntmps82
  go_wp2
  all_goals go_ret
  all_goals (refine ⟨?_, rfl⟩; simp; try omega)
set_option maxHeartbeats 400000 in
theorem l09Long_any (w : World) (A : Option Addr) (n c : Nat) (xs : List ByteArray) (h : Sl Value.string w A n xs) (hn : n ≤ 40) (hs : ∀ s ∈ xs, s.size ≤ 80) :
    Calls Try.prog 55 #[.slice A n c] w fun e w' => e = .returned (.int .i64 (lineL xs)) ∧ w = w' := by
  have HS := hide hs
  clear hs
  go_enter Try.func55, Try.ntmps55
  go_wp2
  go_loop [3, 4] (fun m i => ∃ k : Nat, k ≤ n ∧ i = .int .i64 k ∧ m = .int .i64 ((n : Int) - 1 + (sumSz (xs.take k) : Int))) (fun _ i => n - (intOf i).toNat)
  case atStart => exact ⟨0, Nat.zero_le _, rfl, by simp [sumSz]⟩
  case round =>
    obtain ⟨k, hk, rfl, rfl⟩ := hrel
    have hb := sumSz_le (ss := xs.take k) (M := 80) (fun s hs => HS.out s (List.mem_of_mem_take hs))
    have hl : (xs.take k).length ≤ k := List.length_take_le _ _
    by_cases hlt : k < n
    · obtain ⟨b, o, p, rfl, hx, hc⟩ := h.at_ (Below.refl _ _) hlt
      have hps := HS.out _ (List.mem_of_getElem? hx)
      have HT := hide (sumSz_take hx)
      clear hx
      go_wp2
      go_round
      case rel => exact ⟨k + 1, by omega, by go_num, by rw [HT.out]; go_num⟩
      case measure => simp [intOf]; omega
    · have HE : Hid (xs.take k = xs) := by unfold Hid; rw [List.take_of_length_le (by rw [h.len]; omega)]
      rw [HE.out] at hb ⊢
      have HL := hide h.len
      clear hl
      go_wp2_with (go_at_call 82; refine (l00Max_any _ _ _).mono ?_; rintro e w1 ⟨rfl, rfl⟩)
      go_ret
      exact ⟨ret_int (by rw [lineL, HL.out]), rfl⟩
set_option maxHeartbeats 400000 in
theorem lineLength_any (w : World) (A : Option Addr) (n c : Nat) (xs : List ByteArray) (h : Sl Value.string w A n xs) (hn : n ≤ 40) (hs : ∀ s ∈ xs, s.size ≤ 80) :
    Calls Try.prog 67 #[.slice A n c] w fun e w' => e = .returned (.int .i64 (lineL xs)) ∧ w = w' := by
  have HS := hide hs
  clear hs
  go_enter Try.func67, Try.ntmps67
  go_wp2
  go_loop [3, 11] (fun m i => ∃ k : Nat, k ≤ n ∧ i = .int .i64 k ∧ m = .int .i64 ((n : Int) - 1 + (sumSz (xs.take k) : Int))) (fun _ i => n - (intOf i).toNat)
  case atStart => exact ⟨0, Nat.zero_le _, rfl, by simp [sumSz]⟩
  case round =>
    obtain ⟨k, hk, rfl, rfl⟩ := hrel
    have hb := sumSz_le (ss := xs.take k) (M := 80) (fun s hs => HS.out s (List.mem_of_mem_take hs))
    have hl : (xs.take k).length ≤ k := List.length_take_le _ _
    by_cases hlt : k < n
    · obtain ⟨b, o, p, rfl, hx, hc⟩ := h.at_ (Below.refl _ _) hlt
      have hps := HS.out _ (List.mem_of_getElem? hx)
      have HT := hide (sumSz_take hx)
      clear hx
      go_wp2
      go_round
      case rel => exact ⟨k + 1, by omega, by go_num, by rw [HT.out]; go_num⟩
      case measure => simp [intOf]; omega
    · have HE : Hid (xs.take k = xs) := by unfold Hid; rw [List.take_of_length_le (by rw [h.len]; omega)]
      rw [HE.out] at hb ⊢
      have HL := hide h.len
      clear hl
      go_wp2
      all_goals go_ret
      all_goals exact ⟨ret_int (by rw [lineL, HL.out]; first | omega | (simp; omega)), rfl⟩
end Go.Proofs.Ytanpmjbephelaaa
