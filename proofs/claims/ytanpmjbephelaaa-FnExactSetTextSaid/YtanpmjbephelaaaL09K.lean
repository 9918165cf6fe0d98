/-
  SetText: what it returns, for all arguments.
-/
import Derived.Test.YtanpmjbephelaaaL09E
import Derived.Test.YtanpmjbephelaaaL09G
import Derived.Test.YtanpmjbephelaaaStrs
import Derived.Test.YtanpmjbephelaaaShelf
import Derived.Lib.Join
import Derived.Deep.RegionLaw
namespace Go.Proofs.Ytanpmjbephelaaa
set_option maxRecDepth 100000
open Go.RowKit

theorem Sl.drew1 {α : Type} {f : α → Value} {w : World} {A : Option Addr} {n : Nat} {xs : List α} (h : Sl f w A n xs) : Sl f w.drew A n xs := ⟨h.len, h.max, h.rd⟩
theorem setGo_zero (g : Nat) (ss : List ByteArray) : ∀ i, 1 ≤ i → setGo 0 g i ss = Lib.joinTail [32] (ss.map by_) := by
  induction ss with
  | nil => intro i _; rfl
  | cons s ss ih =>
    intro i hi
    rw [setGo_cons, ih (i + 1) (by omega)]
    have hg : gapN 0 g i = 1 := by
      unfold gapN
      rw [Nat.zero_div, Nat.zero_mod, if_neg (by omega)]
    rw [hg]
    simp [Lib.joinTail]
theorem join_set (s : ByteArray) (ss : List ByteArray) : Lib.join ((s :: ss).map by_) [32] = setT (s :: ss) (lineL (s :: ss)) := by
  rw [List.map_cons, Lib.join_cons]
  unfold setT
  simp only
  rw [Int.sub_self, Int.toNat_zero]
  by_cases h : ss.length = 0
  · rw [if_pos h, List.length_eq_zero_iff.1 h]; rfl
  · rw [if_neg h, setGo_zero _ _ 1 (Nat.le_refl _)]
theorem tail_len {ss : List ByteArray} (h : ∀ s ∈ ss, s.size ≤ 80) : (Lib.joinTail [32] (ss.map by_)).length ≤ 81 * ss.length := by
  induction ss with
  | nil => simp [Lib.joinTail]
  | cons s ss ih =>
    have h1 := h s (List.mem_cons_self ..)
    have h2 := ih (fun x hx => h x (List.mem_cons_of_mem _ hx))
    have e : Lib.joinTail [32] ((s :: ss).map by_) = ([32] ++ by_ s) ++ Lib.joinTail [32] (ss.map by_) := by simp [Lib.joinTail]
    rw [e, List.length_append, List.length_append, by_len, List.length_cons, List.length_cons, List.length_nil]; omega
theorem join_any (w : World) (A : Option Addr) (n c : Nat) (xs : List ByteArray) (h : Sl Value.string w A n xs) (hcap : n ≤ c) (hn0 : 0 < n) (hn : n ≤ 40) (hs : ∀ s ∈ xs, s.size ≤ 80) :
    Calls Try.prog 58 #[.slice A n c, .string ⟨#[32]⟩] w fun e w' => e = .returned (.string (mkB (setT xs (lineL xs)))) ∧ Below w.heap.size w w' := by
  obtain ⟨b, o, s, rfl, hx, hc⟩ := h.at_ (Below.refl _ _) hn0
  have hbl := World.block_lt_of_cell? w _ hc
  obtain ⟨ss, rfl⟩ : ∃ ss, xs = s :: ss := by
    cases xs with
    | nil => cases hx
    | cons a as' => simp at hx; exact ⟨as', by rw [hx]⟩
  have hl := h.len
  subst hl
  have hj := join_set s ss
  have hlen : (Lib.join ((s :: ss).map by_) [32]).length ≤ 140737488355328 := by
    have h1 := hs s (List.mem_cons_self ..)
    have h2 := tail_len (ss := ss) (fun x hx => hs x (List.mem_cons_of_mem _ hx))
    rw [List.map_cons, Lib.join_cons, List.length_append, by_len]
    rw [List.length_cons] at hn
    omega
  refine (Try.strings_Join b o c (s :: ss) ⟨#[32]⟩ w (fun j x hjx => h.cell (Below.refl _ _) hjx) hbl (by omega) hcap hlen).mono ?_
  rintro e w' ⟨he, hb⟩
  refine ⟨?_, hb⟩
  rw [he, ← hj]; rfl

theorem linesP_pos {xs : List ByteArray} : ∀ (bs : List Int) (p : Option Int) (fr : Nat), rises 1 ((xs.length : Int) - 1) p bs = true → fr < xs.length → (p = some (fr : Int) ∨ (p = none ∧ fr = 0)) → ∀ l ∈ linesP xs fr bs, 0 < l.length := by
  intro bs
  induction bs with
  | nil =>
    intro p fr _ hf _ l hl
    rw [linesP, List.mem_singleton] at hl
    subst hl
    rw [List.length_drop]; omega
  | cons b bs ih =>
    intro p fr hr hf hp l hl
    rw [rises] at hr
    split at hr
    · rename_i hin
      have hb := inB_iff.1 hin
      split at hr
      · simp at hr
      · rename_i hna
        obtain ⟨bn, rfl⟩ : ∃ bn : Nat, b = bn := ⟨b.toNat, by omega⟩
        have hfb : fr < bn := by
          rcases hp with rfl | ⟨rfl, rfl⟩
          · simp only [notAbove, decide_eq_true_eq] at hna; omega
          · omega
        rw [linesP, Int.toNat_natCast] at hl
        rcases List.mem_cons.1 hl with rfl | hl
        · rw [List.length_drop, List.length_take]; omega
        · exact ih (some (bn : Int)) bn hr (by omega) (.inl rfl) l hl
    · simp at hr
theorem linesOf_pos {xs : List ByteArray} {bs : List Int} (h : rises 1 ((xs.length : Int) - 1) none bs = true) : ∀ l ∈ linesOf xs bs, 0 < l.length := by
  intro l hl
  unfold linesOf at hl
  split at hl
  · cases hl
  · exact linesP_pos bs none 0 h (by omega) (.inr ⟨rfl, rfl⟩) l hl

def setsGo (m : Int) : List (List ByteArray) → List ByteArray
  | [] => []
  | [l] => [mkB (setT l (lineL l))]
  | l :: l2 :: ls => mkB (setT l m) :: setsGo m (l2 :: ls)
theorem setsGo_len (m : Int) : ∀ ls, (setsGo m ls).length = ls.length
  | [] => rfl
  | [_] => rfl
  | l :: l2 :: ls => by rw [setsGo, List.length_cons, setsGo_len m (l2 :: ls)]; rfl
theorem setsGo_step {m : Int} {ls : List (List ByteArray)} {k : Nat} {l : List ByteArray} (h : k + 1 < ls.length) (hl : ls[k]? = some l) : setsGo m (ls.drop k) = mkB (setT l m) :: setsGo m (ls.drop (k + 1)) := by
  rw [drop_get hl]
  have h2 : ls[k + 1]? = some ls[k + 1] := List.getElem?_eq_getElem h
  rw [drop_get h2, setsGo]
theorem setsGo_last {m : Int} {ls : List (List ByteArray)} {k : Nat} {l : List ByteArray} (h : k + 1 = ls.length) (hl : ls[k]? = some l) : setsGo m (ls.drop k) = [mkB (setT l (lineL l))] := by
  rw [drop_get hl, List.drop_eq_nil_of_le (by omega), setsGo]
def setTextR (xs : List ByteArray) (m : Int) (bs : List Int) : List ByteArray × Int := if codeL xs m bs = 0 then (setsGo m (linesOf xs bs), 0) else ([], codeL xs m bs)
theorem setTextR_ok {xs : List ByteArray} {m : Int} {bs : List Int} (h : codeL xs m bs = 0) : setTextR xs m bs = (setsGo m (linesOf xs bs), 0) := by unfold setTextR; rw [if_pos h]
theorem setTextR_bad {xs : List ByteArray} {m k : Int} {bs : List Int} (h : codeL xs m bs = k) (hk : ¬ k = 0) : setTextR xs m bs = ([], k) := by unfold setTextR; rw [h, if_neg hk]
theorem lines_n {xs : List ByteArray} {bs : List Int} (h40 : xs.length ≤ 40) (hr : rises 1 ((xs.length : Int) - 1) none bs = true) : (linesOf xs bs).length ≤ 40 := by
  unfold linesOf
  split
  · simp
  · rw [linesP_len]
    have := rises_bound bs none hr 0 (.inr ⟨rfl, rfl⟩)
    omega
theorem setTextR_len (xs : List ByteArray) (m : Int) (bs : List Int) : (setTextR xs m bs).1.length ≤ 40 := by
  by_cases h : codeL xs m bs = 0
  · rw [setTextR_ok h, setsGo_len]
    obtain ⟨hv, hr, _⟩ := codeL_ok h
    exact lines_n (validT_facts hv).2.1 hr
  · unfold setTextR; rw [if_neg h]; simp

set_option maxHeartbeats 2000000 in
theorem SetText_S (w : World) (A : Option Addr) (n c : Nat) (xs : List ByteArray) (m : Int) (B : Option Addr) (nb cb : Nat) (bs : List Int) (h : Sl Value.string w A n xs) (hcap : n ≤ c) (hu : ∀ s ∈ xs, (s.size : Int) ≤ 1048576) (hB : Sl (Value.int .i64) w B nb bs) :
    Calls Try.prog 15 #[.slice A n c, .int .i64 m, .slice B nb cb] w fun e w' => ∃ v, e = .returned (.tuple #[v, .int .i64 (setTextR xs m bs).2]) ∧ Coll w w' 9 v ((setTextR xs m bs).1.map Value.string) := by
  replace hu := hide hu
  by_cases h0 : codeL xs m bs = 0
  · have HR := hide (setTextR_ok h0)
    obtain ⟨hv, hr, hfit⟩ := codeL_ok h0
    have HPOS := hide (linesOf_pos hr)
    obtain ⟨f1, f2, f3, f4⟩ := validT_facts hv
    have hln40 := lines_n f2 hr
    rw [h.len] at f2 hr
    have HS := hide (fun s hs => by have := f1 s hs; omega : ∀ s ∈ xs, s.size ≤ 80)
    have HFIT := hide (allFit_all hfit)
    have HRR := hide hr
    replace h0 := hide h0
    clear f1 hv hr hfit
    go_enter Try.func15, Try.ntmps15
    go_wp2_with (go_at_call 52; refine (l09Code_any _ _ _ _ xs _ _ _ _ bs h hcap hu.out hB).mono ?_; rintro e w1 ⟨rfl, hb1⟩; rw [h0.out])
    refine (l09Lines_any _ _ _ _ xs _ _ _ bs (h.on hb1) hcap f2 (hB.on hb1) HRR.out).mono ?_
    rintro e w3 ⟨A2, c2, vals, rfl, hL0⟩
    have hll := hide hL0.len
    have hvn : vals.length ≤ 40 := by rw [hll.out]; exact hln40
    have hb13 := hL0.coll.below
    have hE := Coll.empty (e := 9) (Below.refl w3.heap.size w3)
    replace hL0 := hide hL0
    clear hln40
    go_wp2
    go_loopw [10, 11] (fun v i wr => ∃ (k : Nat) (acc : List ByteArray), k ≤ vals.length ∧ i = .int .i64 k ∧ acc.length ≤ k ∧ Coll w3 wr 9 v (acc.map Value.string) ∧ acc ++ setsGo m ((linesOf xs bs).drop k) = setsGo m (linesOf xs bs)) (fun _ i _ => vals.length - (intOf i).toNat)
    case atStart => exact ⟨0, [], Nat.zero_le _, rfl, Nat.le_refl _, hE, by simp⟩
    case round =>
      clear hE
      obtain ⟨k, acc, hk, rfl, hal, hco, HG⟩ := hrel
      have hb := hco.below
      by_cases hlt : k < vals.length
      · obtain ⟨A9, c9, hv9, -, -, hrd⟩ := (hL0.out.on hb).coll.form
        injection hv9 with e1 e2 e3
        subst e1
        subst e3
        clear e2
        obtain ⟨u, hu9⟩ : ∃ u, vals[k]? = some u := ⟨_, List.getElem?_eq_getElem hlt⟩
        obtain ⟨l, hl9⟩ : ∃ l, (linesOf xs bs)[k]? = some l := ⟨_, List.getElem?_eq_getElem (by rw [← hll.out]; exact hlt)⟩
        obtain ⟨Au, cu, rfl, hcu, hsl⟩ := hL0.out.part k _ l hu9 hl9
        obtain ⟨b8, o8, hA8, hb8, hcell⟩ := hrd k _ hu9
        subst hA8
        have hmm := List.mem_of_getElem? hl9
        have hmem := linesOf_mem l hmm
        have hfl := HFIT.out l hmm
        have hl0 := HPOS.out l hmm
        rw [h.len] at hmem
        have hln : l.length ≤ 40 := by omega
        have HPS := hide (fun s hs => HS.out s (hmem.1 s hs) : ∀ s ∈ l, s.size ≤ 80)
        have hlb := lineL_bd HPS.out
        have hslw := (hsl.on hb13).on hb
        obtain ⟨q, hq⟩ : ∃ q, lineL l = q := ⟨_, rfl⟩
        have HQ := hide hq
        have hfl2 := hfl
        rw [hq] at hfl hlb
        replace hfl2 := hide hfl2
        by_cases hlast : k + 1 < vals.length
        · rw [setsGo_step (by rw [← hll.out]; exact hlast) hl9] at HG
          have HN : Hid ((acc ++ [mkB (setT l m)]) ++ setsGo m ((linesOf xs bs).drop (k + 1)) = setsGo m (linesOf xs bs)) := by unfold Hid; rw [← HG]; simp
          have hd1 : decide ((k : Int) + 1 < (vals.length : Int)) = true := by rw [decide_eq_true_eq]; omega
          have hd2 : ((k : Int) + 1 == (vals.length : Int)) = false := beq_eq_false_iff_ne.2 (by omega)
          have hd3 : decide (k + 1 < vals.length) = true := by rw [decide_eq_true_eq]; omega
          have hd4 : ((k + 1 : Nat) == vals.length) = false := beq_eq_false_iff_ne.2 (by omega)
          clear hrd hu9 hl9 hmem hq hsl hmm HG hlast
          go_wp2_with (first
            | (go_at_call 54; refine (l09Set_any _ _ _ _ _ _ hslw hl0 hln HPS.out f4 hfl2.out).mono ?_; rintro e w4 ⟨rfl, hb4⟩; have hcD := hco.on hb4)
            | (at_builtin; refine Coll.push Try.underlying22 string_info rfl (by decide) hcD rfl (by rw [List.length_map]; omega) rfl _ _ rfl rfl rfl ?_; intro v5 w5 hc5 hg5))
          go_roundw
          case rel => exact ⟨k + 1, acc ++ [mkB (setT l m)], by omega, by go_num, by simp; omega, by simpa using hc5, HN.out⟩
          case measure => simp [intOf]; omega
        · rw [setsGo_last (by rw [← hll.out]; omega) hl9] at HG
          have HN : Hid ((acc ++ [mkB (setT l (lineL l))]) ++ setsGo m ((linesOf xs bs).drop (k + 1)) = setsGo m (linesOf xs bs)) := by
            unfold Hid
            rw [← HG, List.drop_eq_nil_of_le (by rw [← hll.out]; omega), setsGo]; simp
          have hd1 : decide ((k : Int) + 1 < (vals.length : Int)) = false := by rw [decide_eq_false_iff_not]; omega
          have hd2 : ((k : Int) + 1 == (vals.length : Int)) = true := by rw [beq_iff_eq]; omega
          have hd3 : decide (k + 1 < vals.length) = false := by rw [decide_eq_false_iff_not]; omega
          have hd4 : ((k + 1 : Nat) == vals.length) = true := by rw [beq_iff_eq]; omega
          clear hrd hu9 hl9 hmem hq hsl hmm HG
          go_wp2
          go_region_law (first
            | (go_simp; go_at_call 55; refine (l09Long_any _ _ _ _ _ hslw.drew1 hln HPS.out).mono ?_; rintro e w4 ⟨rfl, rfl⟩)
            | (go_simp; go_at_call 54; refine (l09Set_any _ _ _ _ _ _ hslw.drew1 hl0 hln HPS.out (by rw [HQ.out]; omega) (Int.le_refl _)).mono ?_; rintro e w4 ⟨rfl, hb4⟩; have hcD := hco.drew.on hb4)
            | (refine Coll.push_step Try.underlying22 string_info rfl (by decide) hcD rfl (by rw [List.length_map]; omega) rfl _ _ rfl rfl rfl ?_; intro v5 w5 hc5 hg5))
          all_goals go_wp2
          all_goals
            go_roundw
            case rel => exact ⟨k + 1, acc ++ [mkB (setT l (lineL l))], by omega, by go_num, by simp; omega, by simpa using hc5, HN.out⟩
            case measure => simp [intOf]; omega
      · rw [List.drop_eq_nil_of_le (by rw [← hll.out]; omega), setsGo, List.append_nil] at HG
        have HE : Hid (setTextR xs m bs = (acc, 0)) := by unfold Hid; rw [HR.out, ← HG]
        have HB := hide ((hco.since hb13).since hb1)
        clear HG hco hb
        go_wp2
        go_ret2
        exact ⟨_, by rw [HE.out]; rfl, by rw [HE.out]; exact HB.out⟩
  · rcases codeL_cases xs m bs with hk | hk | hk | hk
    · exact absurd hk h0
    all_goals
      have HR := hide (setTextR_bad hk (by decide))
      replace hk := hide hk
      clear h0
      go_enter Try.func15, Try.ntmps15
      go_wp2_with (go_at_call 52; refine (l09Code_any _ _ _ _ xs _ _ _ _ bs h hcap hu.out hB).mono ?_; rintro e w1 ⟨rfl, hb1⟩; rw [hk.out])
      go_ret2
      exact ⟨_, by rw [HR.out]; rfl, by rw [HR.out]; exact Coll.nil_ hb1⟩
set_option maxHeartbeats 2000000 in
theorem SetText_I (w : World) (A : Option Addr) (n c : Nat) (xs : List ByteArray) (m : Int) (B : Option Addr) (nb cb : Nat) (bs : List Int) (h : Sl Value.string w A n xs) (hcap : n ≤ c) (hu : ∀ s ∈ xs, (s.size : Int) ≤ 1048576) (hB : Sl (Value.int .i64) w B nb bs) :
    Calls Try.prog 18 #[.slice A n c, .int .i64 m, .slice B nb cb] w fun e w' => ∃ v, e = .returned (.tuple #[v, .int .i64 (setTextR xs m bs).2]) ∧ Coll w w' 9 v ((setTextR xs m bs).1.map Value.string) := by
  replace hu := hide hu
  by_cases h0 : codeL xs m bs = 0
  · have HR := hide (setTextR_ok h0)
    obtain ⟨hv, hr, hfit⟩ := codeL_ok h0
    have HPOS := hide (linesOf_pos hr)
    obtain ⟨f1, f2, f3, f4⟩ := validT_facts hv
    have hln40 := lines_n f2 hr
    rw [h.len] at f2 hr
    have HS := hide (fun s hs => by have := f1 s hs; omega : ∀ s ∈ xs, s.size ≤ 80)
    have HFIT := hide (allFit_all hfit)
    have HRR := hide hr
    replace h0 := hide h0
    clear f1 hv hr hfit
    go_enter Try.func18, Try.ntmps18
    go_wp2_with (go_at_call 56; refine (linesCode_any _ _ _ _ xs _ _ _ _ bs h hcap hu.out hB).mono ?_; rintro e w1 ⟨rfl, hb1⟩; rw [h0.out])
    refine (linesBy_any _ _ _ _ xs _ _ _ bs (h.on hb1) hcap f2 (hB.on hb1) HRR.out).mono ?_
    rintro e w3 ⟨A2, c2, vals, rfl, hL0⟩
    have hll := hide hL0.len
    have hvn : vals.length ≤ 40 := by rw [hll.out]; exact hln40
    have hb13 := hL0.coll.below
    have hE := Coll.empty (e := 9) (Below.refl w3.heap.size w3)
    replace hL0 := hide hL0
    clear hln40
    go_wp2
    go_loopw [10, 26] (fun v i wr => ∃ (k : Nat) (acc : List ByteArray), k ≤ vals.length ∧ i = .int .i64 k ∧ acc.length ≤ k ∧ Coll w3 wr 9 v (acc.map Value.string) ∧ acc ++ setsGo m ((linesOf xs bs).drop k) = setsGo m (linesOf xs bs)) (fun _ i _ => vals.length - (intOf i).toNat)
    case atStart => exact ⟨0, [], Nat.zero_le _, rfl, Nat.le_refl _, hE, by simp⟩
    case round =>
      clear hE
      obtain ⟨k, acc, hk, rfl, hal, hco, HG⟩ := hrel
      have hb := hco.below
      by_cases hlt : k < vals.length
      · obtain ⟨A9, c9, hv9, -, -, hrd⟩ := (hL0.out.on hb).coll.form
        injection hv9 with e1 e2 e3
        subst e1
        subst e3
        clear e2
        obtain ⟨u, hu9⟩ : ∃ u, vals[k]? = some u := ⟨_, List.getElem?_eq_getElem hlt⟩
        obtain ⟨l, hl9⟩ : ∃ l, (linesOf xs bs)[k]? = some l := ⟨_, List.getElem?_eq_getElem (by rw [← hll.out]; exact hlt)⟩
        obtain ⟨Au, cu, rfl, hcu, hsl⟩ := hL0.out.part k _ l hu9 hl9
        obtain ⟨b8, o8, hA8, hb8, hcell⟩ := hrd k _ hu9
        subst hA8
        have hmm := List.mem_of_getElem? hl9
        have hmem := linesOf_mem l hmm
        have hfl := HFIT.out l hmm
        have hl0 := HPOS.out l hmm
        rw [h.len] at hmem
        have hln : l.length ≤ 40 := by omega
        have HPS := hide (fun s hs => HS.out s (hmem.1 s hs) : ∀ s ∈ l, s.size ≤ 80)
        have hlb := lineL_bd HPS.out
        have hslw := (hsl.on hb13).on hb
        obtain ⟨q, hq⟩ : ∃ q, lineL l = q := ⟨_, rfl⟩
        have HQ := hide hq
        have hfl2 := hfl
        rw [hq] at hfl hlb
        replace hfl2 := hide hfl2
        by_cases hlast : k + 1 < vals.length
        · rw [setsGo_step (by rw [← hll.out]; exact hlast) hl9] at HG
          have HN : Hid ((acc ++ [mkB (setT l m)]) ++ setsGo m ((linesOf xs bs).drop (k + 1)) = setsGo m (linesOf xs bs)) := by unfold Hid; rw [← HG]; simp
          have hd1 : decide ((k : Int) + 1 < (vals.length : Int)) = true := by rw [decide_eq_true_eq]; omega
          have hd2 : ((k : Int) + 1 == (vals.length : Int)) = false := beq_eq_false_iff_ne.2 (by omega)
          have hd3 : decide (k + 1 < vals.length) = true := by rw [decide_eq_true_eq]; omega
          have hd4 : ((k + 1 : Nat) == vals.length) = false := beq_eq_false_iff_ne.2 (by omega)
          clear hrd hu9 hl9 hmem hq hsl hmm HG hlast
          go_wp2_with (first
            | (go_at_call 59; refine (setLine_any _ _ _ _ _ _ hslw hcu hl0 hln HPS.out f4 hfl2.out).mono ?_; rintro e w4 ⟨rfl, hb4⟩; have hcD := hco.on hb4)
            | (at_builtin; refine Coll.push Try.underlying22 string_info rfl (by decide) hcD rfl (by rw [List.length_map]; omega) rfl _ _ rfl rfl rfl ?_; intro v5 w5 hc5 hg5))
          go_roundw
          case rel => exact ⟨k + 1, acc ++ [mkB (setT l m)], by omega, by go_num, by simp; omega, by simpa using hc5, HN.out⟩
          case measure => simp [intOf]; omega
        · rw [setsGo_last (by rw [← hll.out]; omega) hl9] at HG
          have HN : Hid ((acc ++ [mkB (setT l (lineL l))]) ++ setsGo m ((linesOf xs bs).drop (k + 1)) = setsGo m (linesOf xs bs)) := by
            unfold Hid
            rw [← HG, List.drop_eq_nil_of_le (by rw [← hll.out]; omega), setsGo]; simp
          have hd1 : decide ((k : Int) + 1 < (vals.length : Int)) = false := by rw [decide_eq_false_iff_not]; omega
          have hd2 : ((k : Int) + 1 == (vals.length : Int)) = true := by rw [beq_iff_eq]; omega
          have hd3 : decide (k + 1 < vals.length) = false := by rw [decide_eq_false_iff_not]; omega
          have hd4 : ((k + 1 : Nat) == vals.length) = true := by rw [beq_iff_eq]; omega
          clear hrd hu9 hl9 hmem hq hsl hmm HG
          go_wp2_with (first
            | (go_at_call 58; refine (join_any _ _ _ _ _ hslw hcu hl0 hln HPS.out).mono ?_; rintro e w4 ⟨rfl, hb4⟩; have hcD := hco.on hb4)
            | (at_builtin; refine Coll.push Try.underlying22 string_info rfl (by decide) hcD rfl (by rw [List.length_map]; omega) rfl _ _ rfl rfl rfl ?_; intro v5 w5 hc5 hg5))
          all_goals
            go_roundw
            case rel => exact ⟨k + 1, acc ++ [mkB (setT l (lineL l))], by omega, by go_num, by simp; omega, by simpa using hc5, HN.out⟩
            case measure => simp [intOf]; omega
      · rw [List.drop_eq_nil_of_le (by rw [← hll.out]; omega), setsGo, List.append_nil] at HG
        have HE : Hid (setTextR xs m bs = (acc, 0)) := by unfold Hid; rw [HR.out, ← HG]
        have HB := hide ((hco.since hb13).since hb1)
        clear HG hco hb
        go_wp2
        go_ret2
        exact ⟨_, by rw [HE.out]; rfl, by rw [HE.out]; exact HB.out⟩
  · rcases codeL_cases xs m bs with hk | hk | hk | hk
    · exact absurd hk h0
    all_goals
      have HR := hide (setTextR_bad hk (by decide))
      replace hk := hide hk
      clear h0
      go_enter Try.func18, Try.ntmps18
      go_wp2_with (go_at_call 56; refine (linesCode_any _ _ _ _ xs _ _ _ _ bs h hcap hu.out hB).mono ?_; rintro e w1 ⟨rfl, hb1⟩; rw [hk.out])
      go_ret2
      exact ⟨_, by rw [HR.out]; rfl, by rw [HR.out]; exact Coll.nil_ hb1⟩
end Go.Proofs.Ytanpmjbephelaaa
