/-
  BadnessOf: what it returns, for all arguments.
-/
import Derived.Test.YtdfhibkennbliaaL09E
namespace Go.Proofs.Ytdfhibkennbliaa
set_option maxRecDepth 100000
open Go.RowKit

theorem sq_bd {x : Int} (h0 : 0 ≤ x) (h1 : x ≤ 80) : 0 ≤ x * x ∧ x * x ≤ 6400 := by
  refine ⟨Int.mul_nonneg h0 h0, ?_⟩
  have := Int.mul_le_mul h1 h1 h0 (by decide : (0 : Int) ≤ 80)
  omega
/-- How uneven lines are: all but the last. -/
def badGo (m : Int) : List (List ByteArray) → Int
  | [] => 0
  | [_] => 0
  | l :: l2 :: ls => (m - lineL l) * (m - lineL l) + badGo m (l2 :: ls)
def badR (xs : List ByteArray) (m : Int) (bs : List Int) : Int × Int := if codeL xs m bs = 0 then (badGo m (linesOf xs bs), 0) else (0, codeL xs m bs)
theorem badR_ok {xs : List ByteArray} {m : Int} {bs : List Int} (h : codeL xs m bs = 0) : badR xs m bs = (badGo m (linesOf xs bs), 0) := by unfold badR; rw [if_pos h]
theorem badR_bad {xs : List ByteArray} {m k : Int} {bs : List Int} (h : codeL xs m bs = k) (hk : ¬ k = 0) : badR xs m bs = (0, k) := by unfold badR; rw [h, if_neg hk]
theorem badGo_end {m : Int} {ls : List (List ByteArray)} {k : Nat} (h : ¬ k + 1 < ls.length) : badGo m (ls.drop k) = 0 := by
  have hl : (ls.drop k).length ≤ 1 := by rw [List.length_drop]; omega
  match hd : ls.drop k, hl with
  | [], _ => rfl
  | [_], _ => rfl
  | a :: b :: cs, hl => simp at hl
theorem badGo_step {m : Int} {ls : List (List ByteArray)} {k : Nat} {l : List ByteArray} (h : k + 1 < ls.length) (hl : ls[k]? = some l) : badGo m (ls.drop k) = (m - lineL l) * (m - lineL l) + badGo m (ls.drop (k + 1)) := by
  rw [drop_get hl]
  have h2 : ls[k + 1]? = some ls[k + 1] := List.getElem?_eq_getElem h
  rw [drop_get h2, badGo]
set_option maxHeartbeats 1000000 in
theorem BadnessOf_S (w : World) (A : Option Addr) (n c : Nat) (xs : List ByteArray) (m : Int) (B : Option Addr) (nb cb : Nat) (bs : List Int) (h : Sl Value.string w A n xs) (hcap : n ≤ c) (hu : ∀ s ∈ xs, (s.size : Int) ≤ 1048576) (hB : Sl (Value.int .i64) w B nb bs) :
    Calls Try.prog 37 #[.slice A n c, .int .i64 m, .slice B nb cb] w fun e w' => e = .returned (.tuple #[.int .i64 (badR xs m bs).1, .int .i64 (badR xs m bs).2]) ∧ Below w.heap.size w w' := by
  replace hu := hide hu
  by_cases h0 : codeL xs m bs = 0
  · have HR := hide (badR_ok h0)
    obtain ⟨hv, hr, hfit⟩ := codeL_ok h0
    obtain ⟨f1, f2, f3, f4⟩ := validT_facts hv
    rw [h.len] at f2 hr
    have HS := hide (fun s hs => by have := f1 s hs; omega : ∀ s ∈ xs, s.size ≤ 80)
    have HFIT := hide (allFit_all hfit)
    have HRR := hide hr
    replace h0 := hide h0
    clear f1 hv hr hfit
    go_enter Try.func37, Try.ntmps37
    go_wp2_with (go_at_call 39; refine (l09Code_any _ _ _ _ xs _ _ _ _ bs h hcap hu.out hB).mono ?_; rintro e w1 ⟨rfl, hb1⟩; rw [h0.out])
    refine (l09Lines_any _ _ _ _ xs _ _ _ bs (h.on hb1) hcap f2 (hB.on hb1) HRR.out).mono ?_
    rintro e w3 ⟨A2, c2, vals, rfl, hL⟩
    have hll := hide hL.len
    have hvn : vals.length ≤ 40 := by
      rw [hll.out]
      unfold linesOf
      split
      · simp
      · rw [linesP_len]
        have := rises_bound bs none HRR.out 0 (.inr ⟨rfl, rfl⟩)
        omega
    go_wp2
    go_loopw [10, 11] (fun a i wr => ∃ (k : Nat) (acc : Int), k ≤ vals.length ∧ i = .int .i64 k ∧ a = .int .i64 acc ∧ 0 ≤ acc ∧ acc ≤ 6400 * k ∧ LW w1 wr (.slice A2 vals.length c2) vals (linesOf xs bs) ∧ acc + badGo m ((linesOf xs bs).drop k) = badGo m (linesOf xs bs)) (fun _ i _ => vals.length - (intOf i).toNat)
    case atStart => exact ⟨0, 0, Nat.zero_le _, rfl, rfl, Int.le_refl _, by omega, hL, by simp⟩
    case round =>
      clear hL
      obtain ⟨k, acc, hk, rfl, rfl, ha0, ha1, hL, HG⟩ := hrel
      have hb := hL.coll.below
      by_cases hlt : k + 1 < vals.length
      · have hltd : decide ((k : Int) + 1 < (vals.length : Int)) = true := by rw [decide_eq_true_eq]; omega
        obtain ⟨A9, c9, hv9, -, -, hrd⟩ := hL.coll.form
        injection hv9 with e1 e2 e3
        subst e1
        subst e3
        clear e2
        obtain ⟨u, hu9⟩ : ∃ u, vals[k]? = some u := ⟨_, List.getElem?_eq_getElem (by omega)⟩
        obtain ⟨l, hl9⟩ : ∃ l, (linesOf xs bs)[k]? = some l := ⟨_, List.getElem?_eq_getElem (by rw [← hll.out]; omega)⟩
        obtain ⟨Au, cu, rfl, -, hsl⟩ := hL.part k _ l hu9 hl9
        obtain ⟨b8, o8, hA8, hb8, hcell⟩ := hrd k _ hu9
        subst hA8
        have hmm := List.mem_of_getElem? hl9
        have hmem := linesOf_mem l hmm
        have hfl := HFIT.out l hmm
        rw [h.len] at hmem
        have hln : l.length ≤ 40 := by omega
        have HPS := hide (fun s hs => HS.out s (hmem.1 s hs) : ∀ s ∈ l, s.size ≤ 80)
        have hlb := lineL_bd HPS.out
        have HL := hide hL
        rw [badGo_step (by rw [← hll.out]; exact hlt) hl9] at HG
        obtain ⟨q, hq⟩ : ∃ q, lineL l = q := ⟨_, rfl⟩
        rw [hq] at HG hfl hlb
        have HQ := hide hq
        have hslw := hsl.on hb
        have hsq := sq_bd (x := m - q) (by omega) (by omega)
        obtain ⟨y, hy⟩ : ∃ y, (m - q) * (m - q) = y := ⟨_, rfl⟩
        rw [hy] at HG hsq
        obtain ⟨y0, y1⟩ := hsq
        have HG2 : Hid ((acc + y) + badGo m ((linesOf xs bs).drop (k + 1)) = badGo m (linesOf xs bs)) := by unfold Hid; rw [← HG]; omega
        clear hrd hu9 hl9 hmem hL hq hsl hmm HG
        go_wp2_with fail
        refine (l09Long_any _ _ _ _ l hslw hln HPS.out).mono ?_
        rintro e w4 ⟨rfl, rfl⟩
        rw [HQ.out]
        go_wp2
        go_roundw
        case rel => exact ⟨k + 1, acc + y, by omega, by go_num, by go_num, by omega, by omega, HL.out, HG2.out⟩
        case measure => simp [intOf]; omega
      · rw [badGo_end (by rw [← hll.out]; exact hlt)] at HG
        have HE : Hid (acc = badGo m (linesOf xs bs)) := by unfold Hid; omega
        have HB := hide (Below.step hb1 hb)
        clear HG hL
        go_wp2
        go_ret2
        exact ⟨by rw [HR.out, ← HE.out]; rfl, HB.out⟩
  · rcases codeL_cases xs m bs with hk | hk | hk | hk
    · exact absurd hk h0
    all_goals
      have HR := hide (badR_bad hk (by decide))
      replace hk := hide hk
      clear h0
      go_enter Try.func37, Try.ntmps37
      go_wp2_with (go_at_call 39; refine (l09Code_any _ _ _ _ xs _ _ _ _ bs h hcap hu.out hB).mono ?_; rintro e w1 ⟨rfl, hb1⟩; rw [hk.out])
      go_ret2
      exact ⟨by rw [HR.out]; rfl, hb1⟩
set_option maxHeartbeats 1000000 in
theorem BadnessOf_I (w : World) (A : Option Addr) (n c : Nat) (xs : List ByteArray) (m : Int) (B : Option Addr) (nb cb : Nat) (bs : List Int) (h : Sl Value.string w A n xs) (hcap : n ≤ c) (hu : ∀ s ∈ xs, (s.size : Int) ≤ 1048576) (hB : Sl (Value.int .i64) w B nb bs) :
    Calls Try.prog 38 #[.slice A n c, .int .i64 m, .slice B nb cb] w fun e w' => e = .returned (.tuple #[.int .i64 (badR xs m bs).1, .int .i64 (badR xs m bs).2]) ∧ Below w.heap.size w w' := by
  replace hu := hide hu
  by_cases h0 : codeL xs m bs = 0
  · have HR := hide (badR_ok h0)
    obtain ⟨hv, hr, hfit⟩ := codeL_ok h0
    obtain ⟨f1, f2, f3, f4⟩ := validT_facts hv
    rw [h.len] at f2 hr
    have HS := hide (fun s hs => by have := f1 s hs; omega : ∀ s ∈ xs, s.size ≤ 80)
    have HFIT := hide (allFit_all hfit)
    have HRR := hide hr
    replace h0 := hide h0
    clear f1 hv hr hfit
    go_enter Try.func38, Try.ntmps38
    go_wp2_with (go_at_call 43; refine (linesCode_any _ _ _ _ xs _ _ _ _ bs h hcap hu.out hB).mono ?_; rintro e w1 ⟨rfl, hb1⟩; rw [h0.out])
    refine (linesBy_any _ _ _ _ xs _ _ _ bs (h.on hb1) hcap f2 (hB.on hb1) HRR.out).mono ?_
    rintro e w3 ⟨A2, c2, vals, rfl, hL⟩
    have hll := hide hL.len
    have hvn : vals.length ≤ 40 := by
      rw [hll.out]
      unfold linesOf
      split
      · simp
      · rw [linesP_len]
        have := rises_bound bs none HRR.out 0 (.inr ⟨rfl, rfl⟩)
        omega
    go_wp2
    go_loopw [10, 11] (fun a i wr => ∃ (k : Nat) (acc : Int), k ≤ vals.length ∧ i = .int .i64 k ∧ a = .int .i64 acc ∧ 0 ≤ acc ∧ acc ≤ 6400 * k ∧ LW w1 wr (.slice A2 vals.length c2) vals (linesOf xs bs) ∧ acc + badGo m ((linesOf xs bs).drop k) = badGo m (linesOf xs bs)) (fun _ i _ => vals.length - (intOf i).toNat)
    case atStart => exact ⟨0, 0, Nat.zero_le _, rfl, rfl, Int.le_refl _, by omega, hL, by simp⟩
    case round =>
      clear hL
      obtain ⟨k, acc, hk, rfl, rfl, ha0, ha1, hL, HG⟩ := hrel
      have hb := hL.coll.below
      by_cases hlt : k + 1 < vals.length
      · have hltd : decide ((k : Int) + 1 < (vals.length : Int)) = true := by rw [decide_eq_true_eq]; omega
        obtain ⟨A9, c9, hv9, -, -, hrd⟩ := hL.coll.form
        injection hv9 with e1 e2 e3
        subst e1
        subst e3
        clear e2
        obtain ⟨u, hu9⟩ : ∃ u, vals[k]? = some u := ⟨_, List.getElem?_eq_getElem (by omega)⟩
        obtain ⟨l, hl9⟩ : ∃ l, (linesOf xs bs)[k]? = some l := ⟨_, List.getElem?_eq_getElem (by rw [← hll.out]; omega)⟩
        obtain ⟨Au, cu, rfl, -, hsl⟩ := hL.part k _ l hu9 hl9
        obtain ⟨b8, o8, hA8, hb8, hcell⟩ := hrd k _ hu9
        subst hA8
        have hmm := List.mem_of_getElem? hl9
        have hmem := linesOf_mem l hmm
        have hfl := HFIT.out l hmm
        rw [h.len] at hmem
        have hln : l.length ≤ 40 := by omega
        have HPS := hide (fun s hs => HS.out s (hmem.1 s hs) : ∀ s ∈ l, s.size ≤ 80)
        have hlb := lineL_bd HPS.out
        have HL := hide hL
        rw [badGo_step (by rw [← hll.out]; exact hlt) hl9] at HG
        obtain ⟨q, hq⟩ : ∃ q, lineL l = q := ⟨_, rfl⟩
        rw [hq] at HG hfl hlb
        have HQ := hide hq
        have hslw := hsl.on hb
        have hsq := sq_bd (x := m - q) (by omega) (by omega)
        obtain ⟨y, hy⟩ : ∃ y, (m - q) * (m - q) = y := ⟨_, rfl⟩
        rw [hy] at HG hsq
        obtain ⟨y0, y1⟩ := hsq
        have HG2 : Hid ((acc + y) + badGo m ((linesOf xs bs).drop (k + 1)) = badGo m (linesOf xs bs)) := by unfold Hid; rw [← HG]; omega
        clear hrd hu9 hl9 hmem hL hq hsl hmm HG
        go_wp2_with fail
        refine (lineLength_any _ _ _ _ l hslw hln HPS.out).mono ?_
        rintro e w4 ⟨rfl, rfl⟩
        rw [HQ.out]
        go_wp2
        go_roundw
        case rel => exact ⟨k + 1, acc + y, by omega, by go_num, by go_num, by omega, by omega, HL.out, HG2.out⟩
        case measure => simp [intOf]; omega
      · rw [badGo_end (by rw [← hll.out]; exact hlt)] at HG
        have HE : Hid (acc = badGo m (linesOf xs bs)) := by unfold Hid; omega
        have HB := hide (Below.step hb1 hb)
        clear HG hL
        go_wp2
        go_ret2
        exact ⟨by rw [HR.out, ← HE.out]; rfl, HB.out⟩
  · rcases codeL_cases xs m bs with hk | hk | hk | hk
    · exact absurd hk h0
    all_goals
      have HR := hide (badR_bad hk (by decide))
      replace hk := hide hk
      clear h0
      go_enter Try.func38, Try.ntmps38
      go_wp2_with (go_at_call 43; refine (linesCode_any _ _ _ _ xs _ _ _ _ bs h hcap hu.out hB).mono ?_; rintro e w1 ⟨rfl, hb1⟩; rw [hk.out])
      go_ret2
      exact ⟨by rw [HR.out]; rfl, hb1⟩
end Go.Proofs.Ytdfhibkennbliaa
