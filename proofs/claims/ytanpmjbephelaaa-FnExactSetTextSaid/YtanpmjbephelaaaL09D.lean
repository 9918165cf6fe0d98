/-
  The words of all lines by breaks; the codes of words, a width and breaks.
-/
import Derived.Test.YtanpmjbephelaaaL09B
namespace Go.Proofs.Ytanpmjbephelaaa
set_option maxRecDepth 100000
open Go.RowKit

/-- The words of all lines, by breaks, from word fr on. -/
def linesP (xs : List ByteArray) : Nat → List Int → List (List ByteArray)
  | fr, [] => [xs.drop fr]
  | fr, b :: bs => (xs.take b.toNat).drop fr :: linesP xs b.toNat bs
def linesOf (xs : List ByteArray) (bs : List Int) : List (List ByteArray) := if xs.length = 0 then [] else linesP xs 0 bs
theorem linesP_len (xs : List ByteArray) : ∀ bs fr, (linesP xs fr bs).length = bs.length + 1 := by
  intro bs
  induction bs with
  | nil => intro fr; rfl
  | cons b bs ih => intro fr; rw [linesP, List.length_cons, ih, List.length_cons]
theorem linesP_mem {xs : List ByteArray} : ∀ bs fr, ∀ l ∈ linesP xs fr bs, ∀ s ∈ l, s ∈ xs := by
  intro bs
  induction bs with
  | nil =>
    intro fr l hl s hs
    rw [linesP, List.mem_singleton] at hl
    subst hl
    exact List.mem_of_mem_drop hs
  | cons b bs ih =>
    intro fr l hl s hs
    rw [linesP] at hl
    rcases List.mem_cons.1 hl with rfl | hl
    · exact mem_part hs
    · exact ih b.toNat l hl s hs
theorem linesP_n {xs : List ByteArray} : ∀ bs fr, ∀ l ∈ linesP xs fr bs, l.length ≤ xs.length := by
  intro bs
  induction bs with
  | nil =>
    intro fr l hl
    rw [linesP, List.mem_singleton] at hl
    subst hl
    rw [List.length_drop]; omega
  | cons b bs ih =>
    intro fr l hl
    rw [linesP] at hl
    rcases List.mem_cons.1 hl with rfl | hl
    · rw [List.length_drop, List.length_take]; omega
    · exact ih b.toNat l hl
theorem linesOf_mem {xs : List ByteArray} {bs : List Int} : ∀ l ∈ linesOf xs bs, (∀ s ∈ l, s ∈ xs) ∧ l.length ≤ xs.length := by
  intro l hl
  unfold linesOf at hl
  split at hl
  · cases hl
  · exact ⟨linesP_mem bs 0 l hl, linesP_n bs 0 l hl⟩
/-- Rising breaks are at most as many as the words. -/
theorem rises_bound {hi : Int} : ∀ (bs : List Int) (p : Option Int), rises 1 hi p bs = true → ∀ y : Int, (p = some y ∨ (p = none ∧ y = 0)) → (bs.length : Int) ≤ max 0 (hi - y) := by
  intro bs
  induction bs with
  | nil => intro p _ y _; simp only [List.length_nil]; omega
  | cons b bs ih =>
    intro p h y hy
    rw [rises] at h
    split at h
    · rename_i hin
      have hb := inB_iff.1 hin
      split at h
      · simp at h
      · rename_i hna
        have := ih (some b) h b (.inl rfl)
        have hyb : y < b := by
          rcases hy with rfl | ⟨rfl, rfl⟩
          · simp only [notAbove, decide_eq_true_eq] at hna; omega
          · omega
        rw [List.length_cons]; omega
    · simp at h

/-- Since the call began in world W, slice v has gathered parts of the words, which can be read in W. -/
structure LW (W w : World) (v : Value) (vals : List Value) (ls : List (List ByteArray)) : Prop where
  coll : Coll W w 22 v vals
  len : vals.length = ls.length
  part : ∀ (j : Nat) u l, vals[j]? = some u → ls[j]? = some l → ∃ A c, u = .slice A l.length c ∧ l.length ≤ c ∧ Sl Value.string W A l.length l
section
variable {W w w1 : World} {v v1 u : Value} {vals : List Value} {ls : List (List ByteArray)} {l : List ByteArray}
theorem LW.on (h : LW W w v vals ls) (hb : Below w.heap.size w w1) : LW W w1 v vals ls := ⟨h.coll.on hb, h.len, h.part⟩
theorem LW.empty (h : Below W.heap.size W w) : LW W (w.alloc (.cells #[] 22)) (.slice (some ⟨w.heap.size, 0, none⟩) 0 0) [] [] :=
  ⟨Coll.empty h, rfl, fun j u l hu => by simp at hu⟩
theorem LW.nil_ (h : Below W.heap.size W w) : LW W w (.slice none 0 0) [] [] := ⟨Coll.nil_ h, rfl, fun j u l hu => by simp at hu⟩
theorem LW.grow {A : Option Addr} {c n : Nat} (h : LW W w v vals ls) (hs : Sl Value.string W A n l) (hc1 : n ≤ c) (hc : Coll W w1 22 v1 (vals ++ [.slice A n c])) : LW W w1 v1 (vals ++ [.slice A n c]) (ls ++ [l]) := by
  refine ⟨hc, by simp [h.len], fun j u' l' hu' hl' => ?_⟩
  by_cases hj : j < vals.length
  · rw [List.getElem?_append_left hj] at hu'
    rw [List.getElem?_append_left (by rw [← h.len]; exact hj)] at hl'
    exact h.part j u' l' hu' hl'
  · rw [List.getElem?_append_right (by omega)] at hu'
    rw [List.getElem?_append_right (by rw [← h.len]; omega)] at hl'
    rw [← h.len] at hl'
    have h0 : j - vals.length = 0 := by
      cases hq : j - vals.length with
      | zero => rfl
      | succ q => rw [hq] at hu'; simp at hu'
    rw [h0] at hu' hl'
    simp at hu' hl'
    subst hu'; subst hl'
    have e := hs.len
    subst e
    exact ⟨A, c, rfl, hc1, hs⟩
theorem LW.since {W0 : World} (h : LW W w v vals ls) (hb : Below W0.heap.size W0 W) : Coll W0 w 22 v vals := h.coll.since hb
end
theorem strs_info : (Try.prog.info? 22).map (fun i => (i.zero, i.size, i.bytes)) = some (some (.slice none 0 0), 1, 24) := by kernel_rfl


set_option maxHeartbeats 1000000 in
theorem l09Lines_any1 (w : World) (ba oa : Nat) (n c : Nat) (xs : List ByteArray) (B : Option Addr) (nb cb : Nat) (bs : List Int) (h : Sl Value.string w (some ⟨ba, oa, none⟩) n xs) (hn0 : 0 < n) (hcap : n ≤ c) (hn : n ≤ 40) (hB : Sl (Value.int .i64) w B nb bs) (hr : rises 1 ((n : Int) - 1) none bs = true) :
    Calls Try.prog 53 #[.slice (some ⟨ba, oa, none⟩) n c, .slice B nb cb] w fun e w' => ∃ A2 c2 vals, e = .returned (.slice A2 vals.length c2) ∧ LW w w' (.slice A2 vals.length c2) vals (linesOf xs bs) := by
  have hnb := rises_bound bs none hr 0 (.inr ⟨rfl, rfl⟩)
  rw [hB.len] at hnb
  have HLO : Hid (linesOf xs bs = linesP xs 0 bs) := by unfold Hid linesOf; rw [h.len, if_neg (by omega)]
  have HLEN := hide (linesP_len xs bs 0)
  have HBL := hide hB.len
  have h0 := LW.empty (Below.refl w.heap.size w)
  have HR0 := hide hr
  have hz1 : ((n : Int) == 0) = false := beq_eq_false_iff_ne.2 (by omega)
  clear hr
  go_enter Try.func53, Try.ntmps53
  go_wp2
  go_loopw [5, 6, 7] (fun v f i wr => ∃ (k fr : Nat) (vals : List Value) (ls : List (List ByteArray)), k ≤ nb ∧ fr < n ∧ i = .int .i64 k ∧ f = .int .i64 fr ∧ (k = 0 → fr = 0) ∧ (¬ k = 0 → bs[k - 1]? = some (fr : Int)) ∧ LW w wr v vals ls ∧ ls ++ linesP xs fr (bs.drop k) = linesP xs 0 bs ∧ rises 1 ((n : Int) - 1) (prev bs k) (bs.drop k) = true) (fun _ _ i _ => nb - (intOf i).toNat)
  case atStart => exact ⟨0, 0, [], [], Nat.zero_le _, hn0, rfl, rfl, fun _ => rfl, fun e => absurd rfl e, h0, rfl, HR0.out⟩
  case round =>
    clear h0
    obtain ⟨k, fr, vals, ls, hk, hfn, rfl, rfl, hF0, hF, hL, hW, hR⟩ := hrel
    have hb := hL.coll.below
    have hvl := hL.len
    have hvb : vals.length ≤ 40 := by
      have h1 := congrArg List.length hW
      rw [List.length_append, HLEN.out, HBL.out] at h1
      omega
    replace hR := hide hR
    by_cases hlt : k < nb
    · obtain ⟨bb, ob, x, hAB, hx, hcx⟩ := hB.at_ hb hlt
      have HRi := hR.out
      rw [drop_get hx, rises] at HRi
      have hin : inB x 1 ((n : Int) - 1) = true := by
        by_cases e : inB x 1 ((n : Int) - 1) = true
        · exact e
        · rw [if_neg e] at HRi; cases HRi
      have hxb := inB_iff.1 hin
      rw [if_pos hin] at HRi
      have hna : ¬ notAbove (prev bs k) x = true := by
        intro e
        rw [if_pos e] at HRi; cases HRi
      rw [if_neg hna] at HRi
      have HR2 : Hid (rises 1 ((n : Int) - 1) (prev bs (k + 1)) (bs.drop (k + 1)) = true) := by
        unfold Hid
        rw [prev, if_neg (by omega), Nat.add_sub_cancel, hx]; exact HRi
      obtain ⟨xn, rfl⟩ : ∃ xn : Nat, x = xn := ⟨x.toNat, by omega⟩
      have hfx : fr ≤ xn := by
        by_cases hk0 : k = 0
        · have := hF0 hk0; omega
        · have hp := hF hk0
          rw [prev, if_neg hk0] at hna
          rw [hp, notAbove, decide_eq_true_eq] at hna
          omega
      rw [drop_get hx, linesP, Int.toNat_natCast] at hW
      clear HRi hna hin
      have hxn : xn < n := by omega
      have hsub := (h.take (k := xn) (by omega)).from_some fr
      have hne : ¬ c = fr := by omega
      have HW : Hid ((ls ++ [(xs.take xn).drop fr]) ++ linesP xs xn (bs.drop (k + 1)) = linesP xs 0 bs) := by unfold Hid; rw [← hW]; simp
      have HX := hide hx
      have HL := hide hL
      subst hAB
      clear hW hx hF0 hF hvl
      go_wp2_with (at_builtin; refine Coll.push Try.underlying43 strs_info rfl (by decide) hL.coll rfl (by omega) rfl _ _ rfl rfl rfl ?_; intro v1 w1 hc1 hg1; have hcx1 := hB.cell hc1.below HX.out)
      have HG := hide (HL.out.grow hsub (by omega) hc1)
      clear hc1 hg1 hL
      go_roundw
      case rel => exact ⟨k + 1, xn, _, _, by omega, hxn, by go_num, rfl, (fun e => by omega), (fun _ => HX.out), HG.out, HW.out, HR2.out⟩
      case measure => simp [intOf]; omega
    · have hend : bs.drop k = [] := hB.end_ hlt
      rw [hend, linesP] at hW
      have hsub := h.from_some fr
      have hne : ¬ c = fr := by omega
      have HL := hide hL
      have HW := hide hW
      clear hW hF0 hF hvl hend
      go_wp2_with (at_builtin; refine Coll.push Try.underlying43 strs_info rfl (by decide) hL.coll rfl (by omega) rfl _ _ rfl rfl rfl ?_; intro v1 w1 hc1 hg1)
      have hG := HL.out.grow hsub (by omega) hc1
      obtain ⟨A3, c3, rfl, -, -, -⟩ := hG.coll.form
      rw [HW.out, ← HLO.out] at hG
      have HG := hide hG
      clear hc1 hg1 hL hG
      go_ret
      exact ⟨_, _, _, rfl, HG.out⟩
set_option maxHeartbeats 400000 in
theorem l09Lines_any (w : World) (A : Option Addr) (n c : Nat) (xs : List ByteArray) (B : Option Addr) (nb cb : Nat) (bs : List Int) (h : Sl Value.string w A n xs) (hcap : n ≤ c) (hn : n ≤ 40) (hB : Sl (Value.int .i64) w B nb bs) (hr : rises 1 ((n : Int) - 1) none bs = true) :
    Calls Try.prog 53 #[.slice A n c, .slice B nb cb] w fun e w' => ∃ A2 c2 vals, e = .returned (.slice A2 vals.length c2) ∧ LW w w' (.slice A2 vals.length c2) vals (linesOf xs bs) := by
  by_cases h0 : n = 0
  · have hnb := rises_bound bs none hr 0 (.inr ⟨rfl, rfl⟩)
    rw [hB.len] at hnb
    have HLO : Hid (linesOf xs bs = []) := by unfold Hid linesOf; rw [h.len, if_pos h0]
    have hnb0 : nb = 0 := by omega
    subst hnb0
    have hz : ((n : Int) == 0) = true := by simp [h0]
    have hz2 : decide ((0 : Int) < (n : Int)) = false := by rw [decide_eq_false_iff_not]; omega
    have hz3 : decide (0 < n) = false := by rw [decide_eq_false_iff_not]; omega
    have hE := hide (LW.empty (Below.refl w.heap.size w))
    clear hnb hr h0
    go_enter Try.func53, Try.ntmps53
    go_wp2
    refine wp_loop_rounds 1 ?_
    rw [rounds_succ]
    go_wp2
    go_ret
    exact ⟨_, _, [], rfl, by rw [HLO.out]; exact hE.out⟩
  · obtain ⟨b, o, x, rfl, hx, hc⟩ := h.at_ (Below.refl _ _) (show 0 < n by omega)
    exact l09Lines_any1 w b o n c xs B nb cb bs h (by omega) hcap hn hB hr
set_option maxHeartbeats 1000000 in
theorem linesBy_any1 (w : World) (ba oa : Nat) (n c : Nat) (xs : List ByteArray) (B : Option Addr) (nb cb : Nat) (bs : List Int) (h : Sl Value.string w (some ⟨ba, oa, none⟩) n xs) (hn0 : 0 < n) (hcap : n ≤ c) (hn : n ≤ 40) (hB : Sl (Value.int .i64) w B nb bs) (hr : rises 1 ((n : Int) - 1) none bs = true) :
    Calls Try.prog 57 #[.slice (some ⟨ba, oa, none⟩) n c, .slice B nb cb] w fun e w' => ∃ A2 c2 vals, e = .returned (.slice A2 vals.length c2) ∧ LW w w' (.slice A2 vals.length c2) vals (linesOf xs bs) := by
  have hnb := rises_bound bs none hr 0 (.inr ⟨rfl, rfl⟩)
  rw [hB.len] at hnb
  have HLO : Hid (linesOf xs bs = linesP xs 0 bs) := by unfold Hid linesOf; rw [h.len, if_neg (by omega)]
  have HLEN := hide (linesP_len xs bs 0)
  have HBL := hide hB.len
  have h0 := LW.empty (Below.refl w.heap.size w)
  have HR0 := hide hr
  have hz1 : ((n : Int) == 0) = false := beq_eq_false_iff_ne.2 (by omega)
  clear hr
  go_enter Try.func57, Try.ntmps57
  go_wp2
  go_loopw [5, 6, 15] (fun v f i wr => ∃ (k fr : Nat) (vals : List Value) (ls : List (List ByteArray)), k ≤ nb ∧ fr < n ∧ i = .int .i64 k ∧ f = .int .i64 fr ∧ (k = 0 → fr = 0) ∧ (¬ k = 0 → bs[k - 1]? = some (fr : Int)) ∧ LW w wr v vals ls ∧ ls ++ linesP xs fr (bs.drop k) = linesP xs 0 bs ∧ rises 1 ((n : Int) - 1) (prev bs k) (bs.drop k) = true) (fun _ _ i _ => nb - (intOf i).toNat)
  case atStart => exact ⟨0, 0, [], [], Nat.zero_le _, hn0, rfl, rfl, fun _ => rfl, fun e => absurd rfl e, h0, rfl, HR0.out⟩
  case round =>
    clear h0
    obtain ⟨k, fr, vals, ls, hk, hfn, rfl, rfl, hF0, hF, hL, hW, hR⟩ := hrel
    have hb := hL.coll.below
    have hvl := hL.len
    have hvb : vals.length ≤ 40 := by
      have h1 := congrArg List.length hW
      rw [List.length_append, HLEN.out, HBL.out] at h1
      omega
    replace hR := hide hR
    by_cases hlt : k < nb
    · obtain ⟨bb, ob, x, hAB, hx, hcx⟩ := hB.at_ hb hlt
      have HRi := hR.out
      rw [drop_get hx, rises] at HRi
      have hin : inB x 1 ((n : Int) - 1) = true := by
        by_cases e : inB x 1 ((n : Int) - 1) = true
        · exact e
        · rw [if_neg e] at HRi; cases HRi
      have hxb := inB_iff.1 hin
      rw [if_pos hin] at HRi
      have hna : ¬ notAbove (prev bs k) x = true := by
        intro e
        rw [if_pos e] at HRi; cases HRi
      rw [if_neg hna] at HRi
      have HR2 : Hid (rises 1 ((n : Int) - 1) (prev bs (k + 1)) (bs.drop (k + 1)) = true) := by
        unfold Hid
        rw [prev, if_neg (by omega), Nat.add_sub_cancel, hx]; exact HRi
      obtain ⟨xn, rfl⟩ : ∃ xn : Nat, x = xn := ⟨x.toNat, by omega⟩
      have hfx : fr ≤ xn := by
        by_cases hk0 : k = 0
        · have := hF0 hk0; omega
        · have hp := hF hk0
          rw [prev, if_neg hk0] at hna
          rw [hp, notAbove, decide_eq_true_eq] at hna
          omega
      rw [drop_get hx, linesP, Int.toNat_natCast] at hW
      clear HRi hna hin
      have hxn : xn < n := by omega
      have hsub := (h.take (k := xn) (by omega)).from_some fr
      have hne : ¬ c = fr := by omega
      have HW : Hid ((ls ++ [(xs.take xn).drop fr]) ++ linesP xs xn (bs.drop (k + 1)) = linesP xs 0 bs) := by unfold Hid; rw [← hW]; simp
      have HX := hide hx
      have HL := hide hL
      subst hAB
      clear hW hx hF0 hF hvl
      go_wp2_with (at_builtin; refine Coll.push Try.underlying43 strs_info rfl (by decide) hL.coll rfl (by omega) rfl _ _ rfl rfl rfl ?_; intro v1 w1 hc1 hg1; have hcx1 := hB.cell hc1.below HX.out)
      have HG := hide (HL.out.grow hsub (by omega) hc1)
      clear hc1 hg1 hL
      go_roundw
      case rel => exact ⟨k + 1, xn, _, _, by omega, hxn, by go_num, rfl, (fun e => by omega), (fun _ => HX.out), HG.out, HW.out, HR2.out⟩
      case measure => simp [intOf]; omega
    · have hend : bs.drop k = [] := hB.end_ hlt
      rw [hend, linesP] at hW
      have hsub := h.from_some fr
      have hne : ¬ c = fr := by omega
      have HL := hide hL
      have HW := hide hW
      clear hW hF0 hF hvl hend
      go_wp2_with (at_builtin; refine Coll.push Try.underlying43 strs_info rfl (by decide) hL.coll rfl (by omega) rfl _ _ rfl rfl rfl ?_; intro v1 w1 hc1 hg1)
      have hG := HL.out.grow hsub (by omega) hc1
      obtain ⟨A3, c3, rfl, -, -, -⟩ := hG.coll.form
      rw [HW.out, ← HLO.out] at hG
      have HG := hide hG
      clear hc1 hg1 hL hG
      go_ret
      exact ⟨_, _, _, rfl, HG.out⟩
set_option maxHeartbeats 400000 in
theorem linesBy_any (w : World) (A : Option Addr) (n c : Nat) (xs : List ByteArray) (B : Option Addr) (nb cb : Nat) (bs : List Int) (h : Sl Value.string w A n xs) (hcap : n ≤ c) (hn : n ≤ 40) (hB : Sl (Value.int .i64) w B nb bs) (hr : rises 1 ((n : Int) - 1) none bs = true) :
    Calls Try.prog 57 #[.slice A n c, .slice B nb cb] w fun e w' => ∃ A2 c2 vals, e = .returned (.slice A2 vals.length c2) ∧ LW w w' (.slice A2 vals.length c2) vals (linesOf xs bs) := by
  by_cases h0 : n = 0
  · have hnb := rises_bound bs none hr 0 (.inr ⟨rfl, rfl⟩)
    rw [hB.len] at hnb
    have HLO : Hid (linesOf xs bs = []) := by unfold Hid linesOf; rw [h.len, if_pos h0]
    have hnb0 : nb = 0 := by omega
    subst hnb0
    have hz : ((n : Int) == 0) = true := by simp [h0]
    have hz2 : decide ((0 : Int) < (n : Int)) = false := by rw [decide_eq_false_iff_not]; omega
    have hz3 : decide (0 < n) = false := by rw [decide_eq_false_iff_not]; omega
    have hE := hide (LW.empty (Below.refl w.heap.size w))
    clear hnb hr h0
    go_enter Try.func57, Try.ntmps57
    go_wp2
    go_ret
    exact ⟨none, 0, [], rfl, by rw [HLO.out]; exact LW.nil_ (Below.refl _ _)⟩
  · obtain ⟨b, o, x, rfl, hx, hc⟩ := h.at_ (Below.refl _ _) (show 0 < n by omega)
    exact linesBy_any1 w b o n c xs B nb cb bs h (by omega) hcap hn hB hr
end Go.Proofs.Ytanpmjbephelaaa
