/-
  Codes of words, a width and breaks; BadnessOf.
-/
import Derived.Test.YtanpmjbephelaaaL09D
namespace Go.Proofs.Ytanpmjbephelaaa
set_option maxRecDepth 100000
open Go.RowKit

set_option maxHeartbeats 400000 in
theorem areBreaks_any (w : World) (A : Option Addr) (n c : Nat) (xs : List Int) (nw : Nat) (h : Sl (Value.int .i64) w A n xs) (hnw : nw ≤ 40) :
    Calls Try.prog 97 #[.slice A n c, .int .i64 nw] w fun e w' => e = .returned (.bool (rises 1 ((nw : Int) - 1) none xs)) ∧ Below w.heap.size w w' := by
  have hn := h.max
  go_enter Try.func97, Try.ntmps97
  go_wp2
  go_loopw [9] (fun i wr => ∃ k : Nat, k ≤ n ∧ i = .int .i64 k ∧ Below w.heap.size w wr ∧ rises 1 ((nw : Int) - 1) (prev xs k) (xs.drop k) = rises 1 ((nw : Int) - 1) none xs) (fun i _ => n - (intOf i).toNat)
  case atStart => exact ⟨0, Nat.zero_le _, rfl, Below.refl _ _, by simp [prev]⟩
  case round =>
    obtain ⟨k, hk, rfl, hb, HR⟩ := hrel
    by_cases hlt : k < n
    · obtain ⟨b, o, x, rfl, hx, hc⟩ := h.at_ hb hlt
      rw [drop_get hx, rises] at HR
      obtain ⟨hi, hhi⟩ : ∃ hi : Int, hi = (nw : Int) - 1 := ⟨_, rfl⟩
      by_cases hin : inB x 1 ((nw : Int) - 1) = true
      · rw [if_pos hin] at HR
        by_cases hk0 : 0 < k
        · obtain ⟨b', o', y, hA, hy, hc'⟩ := h.at_ hb (show k - 1 < n by omega)
          obtain ⟨rfl, rfl⟩ : b = b' ∧ o = o' := by simpa using hA
          have hp : prev xs k = some y := by rw [prev, if_neg (by omega)]; exact hy
          rw [hp, notAbove] at HR
          have hd : decide ((0 : Int) < (k : Int)) = true := by rw [decide_eq_true_eq]; omega
          have hidx : ((k : Int) - 1).toNat = k - 1 := by omega
          by_cases hxy : x ≤ y
          · rw [if_pos (by simpa using hxy)] at HR
            have H2 := hide HR
            clear HR hx hy hA hp
            go_wp2_with (go_at_call 77; refine (between_any _ _ _ _).mono ?_; rintro e w1 ⟨rfl, rfl⟩)
            go_ret
            exact ⟨ret_bool H2.out, hb⟩
          · rw [if_neg (by simpa using hxy)] at HR
            have H2 : Hid (rises 1 ((nw : Int) - 1) (prev xs (k + 1)) (xs.drop (k + 1)) = rises 1 ((nw : Int) - 1) none xs) := by
              rw [prev, if_neg (by omega), Nat.add_sub_cancel, hx]; exact HR
            clear HR hx hy hA hp
            go_wp2_with (go_at_call 77; refine (between_any _ _ _ _).mono ?_; rintro e w1 ⟨rfl, rfl⟩)
            go_roundw
            case rel => exact ⟨k + 1, by omega, by go_num, hb, H2.out⟩
            case measure => simp [intOf]; omega
        · have hp : prev xs k = none := by rw [prev, if_pos (by omega)]
          rw [hp, notAbove, if_neg (by simp)] at HR
          have hd : decide ((0 : Int) < (k : Int)) = false := by rw [decide_eq_false_iff_not]; omega
          have H2 : Hid (rises 1 ((nw : Int) - 1) (prev xs (k + 1)) (xs.drop (k + 1)) = rises 1 ((nw : Int) - 1) none xs) := by
            rw [prev, if_neg (by omega), Nat.add_sub_cancel, hx]; exact HR
          clear HR hx hp
          go_wp2_with (go_at_call 77; refine (between_any _ _ _ _).mono ?_; rintro e w1 ⟨rfl, rfl⟩)
          go_roundw
          case rel => exact ⟨k + 1, by omega, by go_num, hb, H2.out⟩
          case measure => simp [intOf]; omega
      · rw [if_neg hin] at HR
        replace hin : inB x 1 ((nw : Int) - 1) = false := by simpa using hin
        have H2 := hide HR
        clear HR hx
        go_wp2_with (go_at_call 77; refine (between_any _ _ _ _).mono ?_; rintro e w1 ⟨rfl, rfl⟩)
        go_ret
        exact ⟨ret_bool H2.out, hb⟩
    · rw [h.end_ hlt, rises] at HR
      have H2 := hide HR
      clear HR
      go_wp2
      go_ret
      exact ⟨ret_bool H2.out, hb⟩

def allFit (m : Int) : List (List ByteArray) → Bool
  | [] => true
  | l :: ls => if m < lineL l then false else allFit m ls
def codeL (xs : List ByteArray) (m : Int) (bs : List Int) : Int := if validT xs m = true then (if rises 1 ((xs.length : Int) - 1) none bs = true then (if allFit m (linesOf xs bs) = true then 0 else 5) else 2) else 1
theorem codeL_cases (xs : List ByteArray) (m : Int) (bs : List Int) : codeL xs m bs = 0 ∨ codeL xs m bs = 1 ∨ codeL xs m bs = 2 ∨ codeL xs m bs = 5 := by
  unfold codeL
  (repeat' split) <;> simp
theorem codeL_ok {xs : List ByteArray} {m : Int} {bs : List Int} (h : codeL xs m bs = 0) : validT xs m = true ∧ rises 1 ((xs.length : Int) - 1) none bs = true ∧ allFit m (linesOf xs bs) = true := by
  unfold codeL at h
  split at h
  · rename_i h1
    split at h
    · rename_i h2
      split at h
      · rename_i h3; exact ⟨h1, h2, h3⟩
      · omega
    · omega
  · omega
theorem allFit_all {m : Int} {ls : List (List ByteArray)} (h : allFit m ls = true) : ∀ l ∈ ls, lineL l ≤ m := by
  induction ls with
  | nil => simp
  | cons y ys ih =>
    rw [allFit] at h
    by_cases hy : m < lineL y
    · rw [if_pos hy] at h; cases h
    · rw [if_neg hy] at h
      intro l hl
      rcases List.mem_cons.1 hl with rfl | hl
      · omega
      · exact ih h l hl
set_option maxHeartbeats 1000000 in
theorem l09Code_any (w : World) (A : Option Addr) (n c : Nat) (xs : List ByteArray) (m : Int) (B : Option Addr) (nb cb : Nat) (bs : List Int) (h : Sl Value.string w A n xs) (hcap : n ≤ c) (hu : ∀ s ∈ xs, (s.size : Int) ≤ 1048576) (hB : Sl (Value.int .i64) w B nb bs) :
    Calls Try.prog 52 #[.slice A n c, .int .i64 m, .slice B nb cb] w fun e w' => e = .returned (.int .i64 (codeL xs m bs)) ∧ Below w.heap.size w w' := by
  replace hu := hide hu
  have hnx := h.max
  by_cases hv : validT xs m = true
  · obtain ⟨f1, f2, f3, f4⟩ := validT_facts hv
    rw [h.len] at f2
    have HS := hide (fun s hs => by have := f1 s hs; omega : ∀ s ∈ xs, s.size ≤ 80)
    clear f1
    obtain ⟨r, hr⟩ : ∃ r, rises 1 ((n : Int) - 1) none bs = r := ⟨_, rfl⟩
    have HRR := hide hr
    cases r with
    | true =>
      have HC : Hid (codeL xs m bs = if allFit m (linesOf xs bs) = true then 0 else 5) := by unfold Hid codeL; rw [if_pos hv, h.len, if_pos hr]
      replace hv := hide hv
      clear hr
      go_enter Try.func52, Try.ntmps52
      go_wp2_with (first | (go_at_call 65; refine (l09Ok_any _ _ _ _ xs _ h hu.out).mono ?_; rintro e w1 ⟨rfl, hb1⟩; rw [hv.out]) | (go_at_call 95; refine (l00Rises_any _ _ _ _ bs _ _ (hB.on hb1)).mono ?_; rintro e w2 ⟨rfl, hb2⟩; rw [HRR.out]))
      refine (l09Lines_any _ _ _ _ xs _ _ _ bs ((h.on hb1).on hb2) hcap f2 ((hB.on hb1).on hb2) HRR.out).mono ?_
      rintro e w3 ⟨A2, c2, vals, rfl, hL⟩
      have hB2 : Below w.heap.size w w2 := Below.step hb1 hb2
      have hll := hide hL.len
      have hvn : vals.length ≤ 1000000 := by
        rw [hll.out]
        unfold linesOf
        split
        · simp
        · rw [linesP_len]
          have := rises_bound bs none HRR.out 0 (.inr ⟨rfl, rfl⟩)
          omega
      go_wp2
      go_loopw [8] (fun i wr => ∃ k : Nat, k ≤ vals.length ∧ i = .int .i64 k ∧ LW w2 wr (.slice A2 vals.length c2) vals (linesOf xs bs) ∧ allFit m ((linesOf xs bs).drop k) = allFit m (linesOf xs bs)) (fun i _ => vals.length - (intOf i).toNat)
      case atStart => exact ⟨0, Nat.zero_le _, rfl, hL, by simp⟩
      case round =>
        clear hL
        obtain ⟨k, hk, rfl, hL, HR⟩ := hrel
        have hb := hL.coll.below
        by_cases hlt : k < vals.length
        · have hltd : decide ((k : Int) < (vals.length : Int)) = true := by rw [decide_eq_true_eq]; omega
          obtain ⟨A9, c9, hv9, -, -, hrd⟩ := hL.coll.form
          injection hv9 with e1 e2 e3
          subst e1
          subst e3
          clear e2
          obtain ⟨u, hu9⟩ : ∃ u, vals[k]? = some u := ⟨_, List.getElem?_eq_getElem hlt⟩
          obtain ⟨l, hl9⟩ : ∃ l, (linesOf xs bs)[k]? = some l := ⟨_, List.getElem?_eq_getElem (by rw [← hll.out]; exact hlt)⟩
          obtain ⟨Au, cu, rfl, -, hsl⟩ := hL.part k _ l hu9 hl9
          obtain ⟨b8, o8, hA8, hb8, hcell⟩ := hrd k _ hu9
          subst hA8
          have hmem := linesOf_mem l (List.mem_of_getElem? hl9)
          rw [h.len] at hmem
          have hln : l.length ≤ 40 := by omega
          have HPS := hide (fun s hs => HS.out s (hmem.1 s hs) : ∀ s ∈ l, s.size ≤ 80)
          have HL := hide hL
          rw [drop_get hl9, allFit] at HR
          obtain ⟨q, hq⟩ : ∃ q, lineL l = q := ⟨_, rfl⟩
          rw [hq] at HR
          have HQ := hide hq
          have hslw := hsl.on hb
          clear hrd hu9 hl9 hmem hL hq hsl
          by_cases hlong : m < q
          · rw [if_pos hlong] at HR
            have H2 : Hid (codeL xs m bs = 5) := by unfold Hid; rw [HC.out, ← HR]; rfl
            clear HR
            go_wp2_with fail
            refine (l09Long_any _ _ _ _ l hslw hln HPS.out).mono ?_
            rintro e w4 ⟨rfl, rfl⟩
            rw [HQ.out]
            go_wp2
            go_ret
            exact ⟨ret_int H2.out.symm, Below.step hB2 hb⟩
          · rw [if_neg hlong] at HR
            have H2 := hide HR
            clear HR
            go_wp2_with fail
            refine (l09Long_any _ _ _ _ l hslw hln HPS.out).mono ?_
            rintro e w4 ⟨rfl, rfl⟩
            rw [HQ.out]
            go_wp2
            go_roundw
            case rel => exact ⟨k + 1, by omega, by go_num, HL.out, H2.out⟩
            case measure => simp [intOf]; omega
        · have hd : (linesOf xs bs).drop k = [] := List.drop_eq_nil_of_le (by rw [← hll.out]; omega)
          rw [hd, allFit] at HR
          have H2 : Hid (codeL xs m bs = 0) := by unfold Hid; rw [HC.out, ← HR]; rfl
          clear HR hd
          go_wp2
          go_ret
          exact ⟨ret_int H2.out.symm, Below.step hB2 hb⟩
    | false =>
      have HC : Hid (codeL xs m bs = 2) := by unfold Hid codeL; rw [if_pos hv, h.len, if_neg (by rw [hr]; decide)]
      replace hv := hide hv
      clear hr
      go_enter Try.func52, Try.ntmps52
      go_wp2_with (first | (go_at_call 65; refine (l09Ok_any _ _ _ _ xs _ h hu.out).mono ?_; rintro e w1 ⟨rfl, hb1⟩; rw [hv.out]) | (go_at_call 95; refine (l00Rises_any _ _ _ _ bs _ _ (hB.on hb1)).mono ?_; rintro e w2 ⟨rfl, hb2⟩; rw [HRR.out]))
      go_ret
      exact ⟨ret_int HC.out.symm, Below.step hb1 hb2⟩
  · have HC : Hid (codeL xs m bs = 1) := by unfold Hid codeL; rw [if_neg hv]
    replace hv : Hid (validT xs m = false) := by unfold Hid; simpa using hv
    go_enter Try.func52, Try.ntmps52
    go_wp2_with (go_at_call 65; refine (l09Ok_any _ _ _ _ xs _ h hu.out).mono ?_; rintro e w1 ⟨rfl, hb1⟩; rw [hv.out])
    go_ret
    exact ⟨ret_int HC.out.symm, hb1⟩
set_option maxHeartbeats 1000000 in
theorem linesCode_any (w : World) (A : Option Addr) (n c : Nat) (xs : List ByteArray) (m : Int) (B : Option Addr) (nb cb : Nat) (bs : List Int) (h : Sl Value.string w A n xs) (hcap : n ≤ c) (hu : ∀ s ∈ xs, (s.size : Int) ≤ 1048576) (hB : Sl (Value.int .i64) w B nb bs) :
    Calls Try.prog 56 #[.slice A n c, .int .i64 m, .slice B nb cb] w fun e w' => e = .returned (.int .i64 (codeL xs m bs)) ∧ Below w.heap.size w w' := by
  replace hu := hide hu
  have hnx := h.max
  by_cases hv : validT xs m = true
  · obtain ⟨f1, f2, f3, f4⟩ := validT_facts hv
    rw [h.len] at f2
    have HS := hide (fun s hs => by have := f1 s hs; omega : ∀ s ∈ xs, s.size ≤ 80)
    clear f1
    obtain ⟨r, hr⟩ : ∃ r, rises 1 ((n : Int) - 1) none bs = r := ⟨_, rfl⟩
    have HRR := hide hr
    cases r with
    | true =>
      have HC : Hid (codeL xs m bs = if allFit m (linesOf xs bs) = true then 0 else 5) := by unfold Hid codeL; rw [if_pos hv, h.len, if_pos hr]
      replace hv := hide hv
      clear hr
      go_enter Try.func56, Try.ntmps56
      go_wp2_with (first | (go_at_call 66; refine (ValidText_I _ _ _ _ xs _ h hu.out).mono ?_; rintro e w1 ⟨rfl, hb1⟩; rw [hv.out]) | (go_at_call 97; refine (areBreaks_any _ _ _ _ bs _ (hB.on hb1) f2).mono ?_; rintro e w2 ⟨rfl, hb2⟩; rw [HRR.out]))
      refine (linesBy_any _ _ _ _ xs _ _ _ bs ((h.on hb1).on hb2) hcap f2 ((hB.on hb1).on hb2) HRR.out).mono ?_
      rintro e w3 ⟨A2, c2, vals, rfl, hL⟩
      have hB2 : Below w.heap.size w w2 := Below.step hb1 hb2
      have hll := hide hL.len
      have hvn : vals.length ≤ 1000000 := by
        rw [hll.out]
        unfold linesOf
        split
        · simp
        · rw [linesP_len]
          have := rises_bound bs none HRR.out 0 (.inr ⟨rfl, rfl⟩)
          omega
      go_wp2
      go_loopw [22] (fun i wr => ∃ k : Nat, k ≤ vals.length ∧ i = .int .i64 k ∧ LW w2 wr (.slice A2 vals.length c2) vals (linesOf xs bs) ∧ allFit m ((linesOf xs bs).drop k) = allFit m (linesOf xs bs)) (fun i _ => vals.length - (intOf i).toNat)
      case atStart => exact ⟨0, Nat.zero_le _, rfl, hL, by simp⟩
      case round =>
        clear hL
        obtain ⟨k, hk, rfl, hL, HR⟩ := hrel
        have hb := hL.coll.below
        by_cases hlt : k < vals.length
        · have hltd : decide ((k : Int) < (vals.length : Int)) = true := by rw [decide_eq_true_eq]; omega
          obtain ⟨A9, c9, hv9, -, -, hrd⟩ := hL.coll.form
          injection hv9 with e1 e2 e3
          subst e1
          subst e3
          clear e2
          obtain ⟨u, hu9⟩ : ∃ u, vals[k]? = some u := ⟨_, List.getElem?_eq_getElem hlt⟩
          obtain ⟨l, hl9⟩ : ∃ l, (linesOf xs bs)[k]? = some l := ⟨_, List.getElem?_eq_getElem (by rw [← hll.out]; exact hlt)⟩
          obtain ⟨Au, cu, rfl, -, hsl⟩ := hL.part k _ l hu9 hl9
          obtain ⟨b8, o8, hA8, hb8, hcell⟩ := hrd k _ hu9
          subst hA8
          have hmem := linesOf_mem l (List.mem_of_getElem? hl9)
          rw [h.len] at hmem
          have hln : l.length ≤ 40 := by omega
          have HPS := hide (fun s hs => HS.out s (hmem.1 s hs) : ∀ s ∈ l, s.size ≤ 80)
          have HL := hide hL
          rw [drop_get hl9, allFit] at HR
          obtain ⟨q, hq⟩ : ∃ q, lineL l = q := ⟨_, rfl⟩
          rw [hq] at HR
          have HQ := hide hq
          have hslw := hsl.on hb
          clear hrd hu9 hl9 hmem hL hq hsl
          by_cases hlong : m < q
          · rw [if_pos hlong] at HR
            have H2 : Hid (codeL xs m bs = 5) := by unfold Hid; rw [HC.out, ← HR]; rfl
            clear HR
            go_wp2_with fail
            refine (lineLength_any _ _ _ _ l hslw hln HPS.out).mono ?_
            rintro e w4 ⟨rfl, rfl⟩
            rw [HQ.out]
            go_wp2
            go_ret
            exact ⟨ret_int H2.out.symm, Below.step hB2 hb⟩
          · rw [if_neg hlong] at HR
            have H2 := hide HR
            clear HR
            go_wp2_with fail
            refine (lineLength_any _ _ _ _ l hslw hln HPS.out).mono ?_
            rintro e w4 ⟨rfl, rfl⟩
            rw [HQ.out]
            go_wp2
            go_roundw
            case rel => exact ⟨k + 1, by omega, by go_num, HL.out, H2.out⟩
            case measure => simp [intOf]; omega
        · have hd : (linesOf xs bs).drop k = [] := List.drop_eq_nil_of_le (by rw [← hll.out]; omega)
          rw [hd, allFit] at HR
          have H2 : Hid (codeL xs m bs = 0) := by unfold Hid; rw [HC.out, ← HR]; rfl
          clear HR hd
          go_wp2
          go_ret
          exact ⟨ret_int H2.out.symm, Below.step hB2 hb⟩
    | false =>
      have HC : Hid (codeL xs m bs = 2) := by unfold Hid codeL; rw [if_pos hv, h.len, if_neg (by rw [hr]; decide)]
      replace hv := hide hv
      clear hr
      go_enter Try.func56, Try.ntmps56
      go_wp2_with (first | (go_at_call 66; refine (ValidText_I _ _ _ _ xs _ h hu.out).mono ?_; rintro e w1 ⟨rfl, hb1⟩; rw [hv.out]) | (go_at_call 97; refine (areBreaks_any _ _ _ _ bs _ (hB.on hb1) f2).mono ?_; rintro e w2 ⟨rfl, hb2⟩; rw [HRR.out]))
      go_ret
      exact ⟨ret_int HC.out.symm, Below.step hb1 hb2⟩
  · have HC : Hid (codeL xs m bs = 1) := by unfold Hid codeL; rw [if_neg hv]
    replace hv : Hid (validT xs m = false) := by unfold Hid; simpa using hv
    go_enter Try.func56, Try.ntmps56
    go_wp2_with (go_at_call 66; refine (ValidText_I _ _ _ _ xs _ h hu.out).mono ?_; rintro e w1 ⟨rfl, hb1⟩; rw [hv.out])
    go_ret
    exact ⟨ret_int HC.out.symm, hb1⟩
end Go.Proofs.Ytanpmjbephelaaa
