/-
  SplitWords, WordsOfLines: what they return, for all arguments.
-/
import Derived.Test.YtanpmjbephelaaaSplit
namespace Go.Proofs.Ytanpmjbephelaaa
set_option maxRecDepth 100000
open Go.RowKit

def ne_ (l : List UInt8) : Bool := !l.isEmpty
def wordsS (s : ByteArray) : List ByteArray := ((splitGo 32 [] (by_ s)).filter ne_).map mkB
theorem isEmpty_by (x : ByteArray) : x.toList.isEmpty = (by_ x).isEmpty := by rw [ByteArray.toList_eq]; rfl
theorem splitGo_len (c : UInt8) (bs : List UInt8) : ∀ cur, (splitGo c cur bs).length ≤ bs.length + 1 := by
  induction bs with
  | nil => intro cur; simp [splitGo]
  | cons b bs ih =>
    intro cur
    rw [splitGo]
    split
    · have := ih []; simp only [List.length_cons]; omega
    · have := ih (cur ++ [b]); simp only [List.length_cons]; omega
theorem wordsS_len (s : ByteArray) : (wordsS s).length ≤ s.size + 1 := by
  unfold wordsS
  rw [List.length_map]
  have h1 := List.length_filter_le ne_ (splitGo 32 [] (by_ s))
  have h2 := splitGo_len 32 (by_ s) []
  rw [by_len] at h2
  omega
theorem wordsS_eq (s : ByteArray) : wordsS s = (splitB 32 s).filter (fun x => ne_ (by_ x)) := by
  unfold wordsS splitB
  rw [List.filter_map]
  rfl

set_option maxHeartbeats 800000 in
theorem SplitWords_S (w : World) (s : ByteArray) (hs : s.size ≤ 1048576) :
    Calls Try.prog 62 #[.string s] w fun e w' => ∃ v, e = .returned v ∧ Coll w w' 9 v ((wordsS s).map Value.string) := by
  go_enter Try.func62, Try.ntmps62
  go_wp2_with fail
  refine (l01Split_any _ s 32 hs).mono ?_
  rintro e w1 ⟨v1, rfl, hc1⟩
  obtain ⟨A1, c1, rfl, -, -, hs1⟩ := Sl.of_coll hc1
  have hB := hc1.below
  have h0 := Coll.empty (e := 9) (Below.refl w1.heap.size w1)
  obtain ⟨m, hm⟩ : ∃ m, (splitB 32 s).length = m := ⟨_, rfl⟩
  have hml : m ≤ s.size + 1 := by
    rw [← hm]
    unfold splitB
    rw [List.length_map]
    have := splitGo_len 32 (by_ s) []
    rw [by_len] at this
    exact this
  rw [hm] at hs1 ⊢
  have HM := hide hm
  clear hm hc1
  go_wp2
  go_loopw [4, 5] (fun v i wr => ∃ (k : Nat) (acc : List ByteArray), k ≤ m ∧ i = .int .i64 k ∧ acc.length ≤ k ∧ Coll w1 wr 9 v (acc.map Value.string) ∧ acc ++ ((splitB 32 s).drop k).filter (fun x => ne_ (by_ x)) = wordsS s) (fun _ i _ => m - (intOf i).toNat)
  case atStart => exact ⟨0, [], Nat.zero_le _, rfl, Nat.le_refl _, h0, by rw [wordsS_eq]; simp⟩
  case round =>
    clear h0
    obtain ⟨k, acc, hk, rfl, hal, hco, HR⟩ := hrel
    have hb := hco.below
    by_cases hlt : k < m
    · obtain ⟨b, o, x, rfl, hx, hc⟩ := hs1.at_ hb hlt
      rw [drop_get hx, List.filter_cons] at HR
      by_cases he : (by_ x).isEmpty = true
      · have hem : x.toList.isEmpty = true := by rw [isEmpty_by]; exact he
        have hem2 : x.toList = [] := by simpa using hem
        rw [if_neg (by simp [ne_, he])] at HR
        have H2 := hide HR
        clear HR hx he
        go_wp2
        go_roundw
        case rel => exact ⟨k + 1, acc, by omega, by go_num, by omega, hco, H2.out⟩
        case measure => simp [intOf]; omega
      · have hem : x.toList.isEmpty = false := by rw [isEmpty_by]; simpa using he
        have hem2 : ¬ x.toList = [] := by simpa using hem
        rw [if_pos (by simp [ne_]; simpa using he)] at HR
        have H2 : Hid ((acc ++ [x]) ++ ((splitB 32 s).drop (k + 1)).filter (fun x => ne_ (by_ x)) = wordsS s) := by unfold Hid; rw [← HR]; simp
        clear HR hx he
        go_wp2_with (at_builtin; refine Coll.push Try.underlying22 string_info rfl (by decide) hco rfl (by rw [List.length_map]; omega) rfl _ _ rfl rfl rfl ?_; intro v1 w2 hc2 hg2)
        go_roundw
        case rel => exact ⟨k + 1, acc ++ [x], by omega, by go_num, by simp; omega, by simpa using hc2, H2.out⟩
        case measure => simp [intOf]; omega
    · rw [hs1.end_ hlt] at HR
      have H2 : Hid (acc = wordsS s) := by unfold Hid; simpa using HR
      clear HR
      go_wp2
      go_ret
      exact ⟨_, rfl, by rw [← H2.out]; exact hco.since hB⟩

/-- Where a word has begun, and its bytes so far. -/
def Cur (l : List UInt8) (k : Nat) (st : Value) (cur : List UInt8) : Prop := (st = .int .i64 (-1) ∧ cur = []) ∨ ∃ a : Nat, st = .int .i64 a ∧ a < k ∧ cur = (l.take k).drop a
set_option maxHeartbeats 1600000 in
theorem SplitWords_I (w : World) (s : ByteArray) (hs : s.size ≤ 1048576) :
    Calls Try.prog 64 #[.string s] w fun e w' => ∃ v, e = .returned v ∧ Coll w w' 9 v ((wordsS s).map Value.string) := by
  have h0 := Coll.empty (e := 9) (Below.refl w.heap.size w)
  go_enter Try.func64, Try.ntmps64
  go_wp2
  go_loopw [3, 4, 9] (fun v st i wr => ∃ (k : Nat) (acc : List ByteArray) (cur : List UInt8), k ≤ s.size ∧ i = .int .i64 k ∧ acc.length ≤ k ∧ Cur (by_ s) k st cur ∧ Coll w wr 9 v (acc.map Value.string) ∧ acc ++ ((splitGo 32 cur ((by_ s).drop k)).filter ne_).map mkB = wordsS s) (fun _ _ i _ => s.size - (intOf i).toNat)
  case atStart => exact ⟨0, [], [], Nat.zero_le _, rfl, Nat.le_refl _, .inl ⟨rfl, rfl⟩, h0, by simp [wordsS]⟩
  case round =>
    clear h0
    obtain ⟨k, acc, cur, hk, rfl, hal, hC, hco, HR⟩ := hrel
    by_cases hlt : k < s.size
    · have hx := by_get hlt
      obtain ⟨b, hb⟩ : ∃ b, s[k] = b := ⟨_, rfl⟩
      rw [hb] at hx
      have hrun := run_byte hx
      rw [drop_get hx, splitGo] at HR
      by_cases hbc : b = 32
      · rw [if_pos hbc] at HR
        have hcb : ((b.toNat : Int) == 32) = true := by simp [hbc]
        have hcb2 : ((b.toNat : Int) != 32) = false := by simp [hbc]
        rcases hC with ⟨rfl, rfl⟩ | ⟨a, rfl, hak, rfl⟩
        · have H2 : Hid (acc ++ ((splitGo 32 [] ((by_ s).drop (k + 1))).filter ne_).map mkB = wordsS s) := by
            unfold Hid
            rw [← HR, List.filter_cons, if_neg (by simp [ne_])]
          clear HR hx hb hbc
          go_wp2
          go_roundw
          case rel => exact ⟨k + 1, acc, [], by omega, by go_num, by omega, .inl ⟨rfl, rfl⟩, hco, H2.out⟩
          case measure => simp [intOf]; omega
        · have hak2 : a ≤ k := Nat.le_of_lt hak
          have H2 : Hid ((acc ++ [s.extract a k]) ++ ((splitGo 32 [] ((by_ s).drop (k + 1))).filter ne_).map mkB = wordsS s) := by
            unfold Hid
            have hne : ((by_ s).take k).drop a ≠ [] := by
              intro e
              have := congrArg List.length e
              rw [List.length_drop, List.length_take, by_len] at this
              simp at this; omega
            rw [← HR, List.filter_cons, if_pos (by simpa [ne_] using hne), extract_eq]; simp
          clear HR hx hb hbc
          go_wp2_with (at_builtin; refine Coll.push Try.underlying22 string_info rfl (by decide) hco rfl (by rw [List.length_map]; omega) rfl _ _ rfl rfl rfl ?_; intro v1 w1 hc1 hg1)
          go_roundw
          case rel => exact ⟨k + 1, acc ++ [s.extract a k], [], by omega, by go_num, by simp; omega, .inl ⟨rfl, rfl⟩, by simpa using hc1, H2.out⟩
          case measure => simp [intOf]; omega
      · rw [if_neg hbc] at HR
        have hcb : ((b.toNat : Int) == 32) = false := by
          simp; intro e; exact hbc (UInt8.toNat_inj.1 (by simp; omega))
        have hcb2 : ((b.toNat : Int) != 32) = true := by rw [bne, hcb]; rfl
        rcases hC with ⟨rfl, rfl⟩ | ⟨a, rfl, hak, rfl⟩
        · have H2 : Hid (acc ++ ((splitGo 32 (((by_ s).take (k + 1)).drop k) ((by_ s).drop (k + 1))).filter ne_).map mkB = wordsS s) := by
            unfold Hid
            rw [← HR, cut_step hx (Nat.le_refl k), List.drop_eq_nil_of_le (by rw [List.length_take]; omega)]
          clear HR hx hb hbc
          go_wp2
          go_roundw
          case rel => exact ⟨k + 1, acc, _, by omega, by go_num, by omega, .inr ⟨k, rfl, by omega, rfl⟩, hco, H2.out⟩
          case measure => simp [intOf]; omega
        · have H2 : Hid (acc ++ ((splitGo 32 (((by_ s).take (k + 1)).drop a) ((by_ s).drop (k + 1))).filter ne_).map mkB = wordsS s) := by
            unfold Hid
            rw [← HR, cut_step hx (by omega)]
          clear HR hx hb hbc
          go_wp2
          go_roundw
          case rel => exact ⟨k + 1, acc, _, by omega, by go_num, by omega, .inr ⟨a, rfl, by omega, rfl⟩, hco, H2.out⟩
          case measure => simp [intOf]; omega
    · have hks : k = s.size := by omega
      have e : (by_ s).drop k = [] := List.drop_eq_nil_of_le (by rw [by_len]; omega)
      rw [e, splitGo] at HR
      rcases hC with ⟨rfl, rfl⟩ | ⟨a, rfl, hak, rfl⟩
      · have H2 : Hid (acc = wordsS s) := by unfold Hid; simpa [ne_] using HR
        clear HR e hks
        go_wp2
        go_ret
        exact ⟨_, rfl, by rw [← H2.out]; exact hco⟩
      · have hak2 : a ≤ s.size := by omega
        have H2 : Hid (acc ++ [s.extract a s.size] = wordsS s) := by
          unfold Hid
          have hne : ((by_ s).take k).drop a ≠ [] := by
            intro e
            have := congrArg List.length e
            rw [List.length_drop, List.length_take, by_len] at this
            simp at this; omega
          rw [← HR, List.filter_cons, if_pos (by simpa [ne_] using hne), extract_eq, hks]; simp
        clear HR e hks
        go_wp2_with (at_builtin; refine Coll.push Try.underlying22 string_info rfl (by decide) hco rfl (by rw [List.length_map]; omega) rfl _ _ rfl rfl rfl ?_; intro v1 w1 hc1 hg1)
        go_ret
        exact ⟨_, rfl, by rw [← H2.out]; simpa using hc1⟩

/-! ### WordsOfLines -/
def allL : List ByteArray → Bool
  | [] => true
  | s :: ss => if isTxt 32 80 s = true then allL ss else false
def wordsR (xs : List ByteArray) : List ByteArray × Int := if (allL xs && decide (xs.length ≤ 40)) = true then (xs.flatMap wordsS, 0) else ([], 2)
theorem allL_all {ss : List ByteArray} (h : allL ss = true) : ∀ s ∈ ss, s.size ≤ 80 := by
  induction ss with
  | nil => simp
  | cons y ys ih =>
    rw [allL] at h
    by_cases hy : isTxt 32 80 y = true
    · rw [if_pos hy] at h
      intro s hs
      rcases List.mem_cons.1 hs with rfl | hs
      · simp only [isTxt, Bool.and_eq_true, decide_eq_true_eq] at hy; omega
      · exact ih h s hs
    · rw [if_neg hy] at h; cases h
theorem flat_len {ss : List ByteArray} (h : ∀ s ∈ ss, s.size ≤ 80) : (ss.flatMap wordsS).length ≤ 81 * ss.length := by
  induction ss with
  | nil => simp
  | cons y ys ih =>
    have h1 := h y (List.mem_cons_self ..)
    have h2 := ih (fun s hs => h s (List.mem_cons_of_mem _ hs))
    have h3 := wordsS_len y
    rw [List.flatMap_cons, List.length_append, List.length_cons]; omega
theorem wordsR_len (xs : List ByteArray) : (wordsR xs).1.length ≤ 3240 := by
  unfold wordsR
  split
  · rename_i h
    simp only [Bool.and_eq_true, decide_eq_true_eq] at h
    have := flat_len (allL_all h.1)
    simp only; omega
  · simp

set_option maxHeartbeats 1000000 in
theorem WordsOfLines_S (w : World) (A : Option Addr) (n c : Nat) (xs : List ByteArray) (h : Sl Value.string w A n xs) (hu : ∀ s ∈ xs, (s.size : Int) ≤ 1048576) :
    Calls Try.prog 24 #[.slice A n c] w fun e w' => ∃ v, e = .returned (.tuple #[v, .int .i64 (wordsR xs).2]) ∧ Coll w w' 9 v ((wordsR xs).1.map Value.string) := by
  have hn := h.max
  have HU := hide hu
  clear hu
  go_enter Try.func24, Try.ntmps24
  go_wp2
  go_loopw [4] (fun i wr => ∃ k : Nat, k ≤ n ∧ i = .int .i64 k ∧ Below w.heap.size w wr ∧ allL (xs.drop k) = allL xs) (fun i _ => n - (intOf i).toNat)
  case atStart => exact ⟨0, Nat.zero_le _, rfl, Below.refl _ _, by simp⟩
  case round =>
    obtain ⟨k, hk, rfl, hb, HR⟩ := hrel
    by_cases hlt : k < n
    · obtain ⟨b, o, p, rfl, hx, hc⟩ := h.at_ hb hlt
      have hps := HU.out _ (List.mem_of_getElem? hx)
      rw [drop_get hx, allL] at HR
      by_cases hp : isTxt 32 80 p = true
      · rw [if_pos hp] at HR
        have H2 := hide HR
        clear HR hx
        go_wp2_with (go_at_call 61; refine (l00Text_any _ _ _ (by omega)).mono ?_; rintro e w1 ⟨rfl, rfl⟩)
        go_roundw
        case rel => exact ⟨k + 1, by omega, by go_num, hb, H2.out⟩
        case measure => simp [intOf]; omega
      · rw [if_neg hp] at HR
        have H2 : Hid (wordsR xs = ([], 2)) := by unfold Hid wordsR; rw [← HR]; rfl
        replace hp : isTxt 32 80 p = false := by simpa using hp
        clear HR hx
        go_wp2_with (go_at_call 61; refine (l00Text_any _ _ _ (by omega)).mono ?_; rintro e w1 ⟨rfl, rfl⟩)
        go_ret2
        exact ⟨_, by rw [H2.out]; rfl, by rw [H2.out]; exact Coll.nil_ hb⟩
    · rw [h.end_ hlt, allL] at HR
      have HS := hide (allL_all HR.symm)
      by_cases h40 : n ≤ 40
      · have h40i : ¬ 40 < n := by omega
        have H2 : Hid (wordsR xs = (xs.flatMap wordsS, 0)) := by unfold Hid wordsR; rw [← HR, h.len, decide_eq_true h40]; rfl
        clear HR
        go_wp2
        have h0 := Coll.empty (e := 9) hb
        go_loopw [5, 6] (fun v i wr => ∃ (k : Nat) (acc : List ByteArray), k ≤ n ∧ i = .int .i64 k ∧ acc.length ≤ 81 * k ∧ Coll w wr 9 v (acc.map Value.string) ∧ acc ++ (xs.drop k).flatMap wordsS = xs.flatMap wordsS) (fun _ i _ => n - (intOf i).toNat)
        case atStart => exact ⟨0, [], Nat.zero_le _, rfl, Nat.le_refl _, h0, by simp⟩
        case round =>
          clear h0 hb
          obtain ⟨k2, acc, hk2, rfl, hal, hco, HG⟩ := hrel
          by_cases hlk : k2 < n
          · obtain ⟨b, o, p, rfl, hx, hc⟩ := h.at_ hco.below hlk
            have hps := HS.out _ (List.mem_of_getElem? hx)
            have hwl := wordsS_len p
            rw [drop_get hx, List.flatMap_cons] at HG
            have HN : Hid ((acc ++ wordsS p) ++ (xs.drop (k2 + 1)).flatMap wordsS = xs.flatMap wordsS) := by unfold Hid; rw [← HG]; simp
            clear HG hx
            go_wp2_with fail
            refine (SplitWords_S _ p (by omega)).mono ?_
            rintro e w3 ⟨v3, rfl, hc3⟩
            obtain ⟨A3, c3, rfl, -, -, hs3⟩ := Sl.of_coll hc3
            have hcD := hco.on hc3.below
            clear hc3
            go_wp2_with (at_builtin; refine Coll.join Try.underlying22 string_info rfl (by decide) hcD hs3 (fun _ => rfl) (by rw [List.length_map]; omega) rfl _ _ rfl rfl rfl ?_; intro v4 w4 hc4 hg4)
            go_roundw
            case rel => exact ⟨k2 + 1, acc ++ wordsS p, by omega, by go_num, by simp; omega, by simpa using hc4, HN.out⟩
            case measure => simp [intOf]; omega
          · rw [h.end_ hlk] at HG
            have HE : Hid (wordsR xs = (acc, 0)) := by unfold Hid; rw [H2.out, ← HG]; simp
            clear HG
            go_wp2
            go_ret2
            exact ⟨_, by rw [HE.out]; rfl, by rw [HE.out]; exact hco⟩
      · have h40i : 40 < n := by omega
        have H2 : Hid (wordsR xs = ([], 2)) := by unfold Hid wordsR; rw [h.len, decide_eq_false h40, Bool.and_false]; rfl
        clear HR
        go_wp2
        go_ret2
        exact ⟨_, by rw [H2.out]; rfl, by rw [H2.out]; exact Coll.nil_ hb⟩

set_option maxHeartbeats 1000000 in
theorem WordsOfLines_I (w : World) (A : Option Addr) (n c : Nat) (xs : List ByteArray) (h : Sl Value.string w A n xs) (hu : ∀ s ∈ xs, (s.size : Int) ≤ 1048576) :
    Calls Try.prog 25 #[.slice A n c] w fun e w' => ∃ v, e = .returned (.tuple #[v, .int .i64 (wordsR xs).2]) ∧ Coll w w' 9 v ((wordsR xs).1.map Value.string) := by
  have hn := h.max
  have HU := hide hu
  clear hu
  by_cases h40 : n ≤ 40
  · have h40i : ¬ 40 < n := by omega
    have HW : Hid (wordsR xs = if allL xs = true then (xs.flatMap wordsS, 0) else ([], 2)) := by unfold Hid wordsR; rw [h.len, decide_eq_true h40, Bool.and_true]
    have h0 := Coll.empty (e := 9) (Below.refl w.heap.size w)
    go_enter Try.func25, Try.ntmps25
    go_wp2
    go_loopw [4, 13] (fun v i wr => ∃ (k : Nat) (acc : List ByteArray), k ≤ n ∧ i = .int .i64 k ∧ acc.length ≤ 81 * k ∧ Coll w wr 9 v (acc.map Value.string) ∧ allL (xs.drop k) = allL xs ∧ acc ++ (xs.drop k).flatMap wordsS = xs.flatMap wordsS) (fun _ i _ => n - (intOf i).toNat)
    case atStart => exact ⟨0, [], Nat.zero_le _, rfl, Nat.le_refl _, h0, by simp, by simp⟩
    case round =>
      clear h0
      obtain ⟨k2, acc, hk2, rfl, hal, hco, HR, HG⟩ := hrel
      by_cases hlk : k2 < n
      · obtain ⟨b, o, p, rfl, hx, hc⟩ := h.at_ hco.below hlk
        have hps := HU.out _ (List.mem_of_getElem? hx)
        rw [drop_get hx, List.flatMap_cons] at HG
        rw [drop_get hx, allL] at HR
        by_cases hp : isTxt 32 80 p = true
        · rw [if_pos hp] at HR
          have hp80 : p.size ≤ 80 := by
            simp only [isTxt, Bool.and_eq_true, decide_eq_true_eq] at hp; omega
          have hwl := wordsS_len p
          have HN : Hid ((acc ++ wordsS p) ++ (xs.drop (k2 + 1)).flatMap wordsS = xs.flatMap wordsS) := by unfold Hid; rw [← HG]; simp
          have H2 := hide HR
          clear HG hx HR
          go_wp2_with (go_at_call 63; refine (isText_any _ _ _ _ (by omega)).mono ?_; rintro e w1 ⟨rfl, rfl⟩)
          refine (SplitWords_I _ p (by omega)).mono ?_
          rintro e w3 ⟨v3, rfl, hc3⟩
          obtain ⟨A3, c3, rfl, -, -, hs3⟩ := Sl.of_coll hc3
          have hcD := hco.on hc3.below
          clear hc3
          go_wp2_with (at_builtin; refine Coll.join Try.underlying22 string_info rfl (by decide) hcD hs3 (fun _ => rfl) (by rw [List.length_map]; omega) rfl _ _ rfl rfl rfl ?_; intro v4 w4 hc4 hg4)
          go_roundw
          case rel => exact ⟨k2 + 1, acc ++ wordsS p, by omega, by go_num, by simp; omega, by simpa using hc4, H2.out, HN.out⟩
          case measure => simp [intOf]; omega
        · rw [if_neg hp] at HR
          have H2 : Hid (wordsR xs = ([], 2)) := by unfold Hid; rw [HW.out, ← HR]; rfl
          replace hp : isTxt 32 80 p = false := by simpa using hp
          clear HR hx HG
          go_wp2_with (go_at_call 63; refine (isText_any _ _ _ _ (by omega)).mono ?_; rintro e w1 ⟨rfl, rfl⟩)
          go_ret2
          exact ⟨_, by rw [H2.out]; rfl, by rw [H2.out]; exact Coll.nil_ hco.below⟩
      · rw [h.end_ hlk] at HG
        rw [h.end_ hlk, allL] at HR
        have HE : Hid (wordsR xs = (acc, 0)) := by unfold Hid; rw [HW.out, ← HR, ← HG]; simp
        clear HG HR
        go_wp2
        go_ret2
        exact ⟨_, by rw [HE.out]; rfl, by rw [HE.out]; exact hco⟩
  · have h40i : 40 < n := by omega
    have H2 : Hid (wordsR xs = ([], 2)) := by unfold Hid wordsR; rw [h.len, decide_eq_false h40, Bool.and_false]; rfl
    go_enter Try.func25, Try.ntmps25
    go_wp2
    go_ret2
    exact ⟨_, by rw [H2.out]; rfl, by rw [H2.out]; exact Coll.nil_ (Below.refl _ _)⟩
end Go.Proofs.Ytanpmjbephelaaa
