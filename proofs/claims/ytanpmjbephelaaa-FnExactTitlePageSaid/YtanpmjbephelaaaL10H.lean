/-
  TitlePage: what it returns, for all arguments.
-/
import Derived.Test.YtanpmjbephelaaaL10E
import Derived.Test.YtanpmjbephelaaaEbs
import Derived.Deep.RegionLaw
namespace Go.Proofs.Ytanpmjbephelaaa
set_option maxRecDepth 100000
open Go.RowKit

def allS : List ByteArray → Bool
  | [] => true
  | s :: ss => if isSet s = true then allS ss else false
def allFitW (m : Int) : List ByteArray → Bool
  | [] => true
  | s :: ss => if m < (s.size : Int) then false else allFitW m ss
theorem allS_all {ss : List ByteArray} (h : allS ss = true) : ∀ s ∈ ss, (s.size : Int) ≤ 100 := by
  induction ss with
  | nil => simp
  | cons y ys ih =>
    rw [allS] at h
    by_cases hy : isSet y = true
    · rw [if_pos hy] at h
      intro s hs
      rcases List.mem_cons.1 hs with rfl | hs
      · have := isSet_size hy; omega
      · exact ih h s hs
    · rw [if_neg hy] at h; cases h
theorem allFitW_all {m : Int} {ss : List ByteArray} (h : allFitW m ss = true) : ∀ s ∈ ss, (s.size : Int) ≤ m := by
  induction ss with
  | nil => simp
  | cons y ys ih =>
    rw [allFitW] at h
    by_cases hy : m < (y.size : Int)
    · rw [if_pos hy] at h; cases h
    · rw [if_neg hy] at h
      intro s hs
      rcases List.mem_cons.1 hs with rfl | hs
      · omega
      · exact ih h s hs
theorem allFitW_not {m : Int} {ss : List ByteArray} (h : allFitW m ss = false) : ∃ s ∈ ss, m < (s.size : Int) := by
  induction ss with
  | nil => cases h
  | cons y ys ih =>
    rw [allFitW] at h
    by_cases hy : m < (y.size : Int)
    · exact ⟨y, List.mem_cons_self .., hy⟩
    · rw [if_neg hy] at h
      obtain ⟨s, h1, h2⟩ := ih h
      exact ⟨s, List.mem_cons_of_mem _ h1, h2⟩
theorem allFitW_long {m : Int} {xs : List ByteArray} (hm : 0 ≤ m) : (longGo 0 xs ≤ m) ↔ allFitW m xs = true := by
  constructor
  · intro h
    cases hf : allFitW m xs with
    | true => rfl
    | false =>
      obtain ⟨s, h1, h2⟩ := allFitW_not hf
      have := (longGo_ge xs 0).2 s h1
      omega
  · intro h
    exact longGo_le xs 0 hm (allFitW_all h)
def midL (m : Int) (s : ByteArray) : ByteArray := runs 32 ((m - (s.size : Int)) / 2) ++ s
def eb : ByteArray := ⟨#[]⟩
def argsOk (xs : List ByteArray) (m ht : Int) : Bool := allS xs && (decide (xs.length ≤ 30) && (inB m 1 100 && inB ht 1 30))
def titlePage (xs : List ByteArray) (m ht : Int) : List ByteArray × Int :=
  if argsOk xs m ht = true then
    (if allFitW m xs = true ∧ (xs.length : Int) ≤ ht then
      (List.replicate ((ht - xs.length) / 2).toNat eb ++ (xs.map (midL m) ++ List.replicate (ht - xs.length - (ht - xs.length) / 2).toNat eb), 0) else ([], 5))
  else ([], 2)
theorem argsOk_facts {xs : List ByteArray} {m ht : Int} (h : argsOk xs m ht = true) : allS xs = true ∧ xs.length ≤ 30 ∧ inB m 1 100 = true ∧ inB ht 1 30 = true := by
  simp only [argsOk, Bool.and_eq_true, decide_eq_true_eq] at h
  exact ⟨h.1, h.2.1, h.2.2.1, h.2.2.2⟩
theorem titlePage_len (xs : List ByteArray) (m ht : Int) : (titlePage xs m ht).1.length ≤ 30 := by
  unfold titlePage
  split
  · rename_i h
    obtain ⟨_, h2, _, h4⟩ := argsOk_facts h
    have := inB_iff.1 h4
    split
    · rename_i h5
      simp only [List.length_append, List.length_replicate, List.length_map]
      have := h5.2
      omega
    · simp
  · simp
theorem half_i {x : Int} (h0 : 0 ≤ x) (h1 : x ≤ 1048576) : IntKind.i64.wrap (x.tdiv 2) = x / 2 := by
  rw [Int.tdiv_eq_ediv_of_nonneg h0, IntKind.wrap_i64]; omega


set_option maxHeartbeats 2000000 in
theorem TitlePage_S (w : World) (A : Option Addr) (n c : Nat) (xs : List ByteArray) (m ht : Int) (h : Sl Value.string w A n xs) (hu : ∀ s ∈ xs, (s.size : Int) ≤ 1048576) :
    Calls Try.prog 33 #[.slice A n c, .int .i64 m, .int .i64 ht] w fun e w' => ∃ v, e = .returned (.tuple #[v, .int .i64 (titlePage xs m ht).2]) ∧ Coll w w' 9 v ((titlePage xs m ht).1.map Value.string) := by
  have HU := hide hu
  clear hu
  have hn := h.max
  go_enter Try.func33, Try.ntmps33
  go_wp2
  go_loopw [8] (fun i wr => ∃ k : Nat, k ≤ n ∧ i = .int .i64 k ∧ Below w.heap.size w wr ∧ allS (xs.drop k) = allS xs) (fun i _ => n - (intOf i).toNat)
  case atStart => exact ⟨0, Nat.zero_le _, rfl, Below.refl _ _, by simp⟩
  case round =>
    obtain ⟨k, hk, rfl, hb, HR⟩ := hrel
    by_cases hlt : k < n
    · obtain ⟨b, o, p, rfl, hx, hc⟩ := h.at_ hb hlt
      have hps := HU.out _ (List.mem_of_getElem? hx)
      rw [drop_get hx, allS] at HR
      by_cases hp : isSet p = true
      · rw [if_pos hp] at HR
        have H2 := hide HR
        clear HR hx
        go_wp2_with (go_at_call 76; refine (l10Text_any _ _ (by omega)).mono ?_; rintro e w1 ⟨rfl, rfl⟩)
        go_roundw
        case rel => exact ⟨k + 1, by omega, by go_num, hb, H2.out⟩
        case measure => simp [intOf]; omega
      · rw [if_neg hp] at HR
        have H2 : Hid (titlePage xs m ht = ([], 2)) := by unfold Hid titlePage argsOk; rw [← HR]; rfl
        replace hp : isSet p = false := by simpa using hp
        clear HR hx
        go_wp2_with (go_at_call 76; refine (l10Text_any _ _ (by omega)).mono ?_; rintro e w1 ⟨rfl, rfl⟩)
        go_ret2
        exact ⟨_, by rw [H2.out]; rfl, by rw [H2.out]; exact Coll.nil_ hb⟩
    · rw [h.end_ hlt, allS] at HR
      have HSZ := hide (allS_all HR.symm)
      have HA : Hid (argsOk xs m ht = (decide (n ≤ 30) && (inB m 1 100 && inB ht 1 30))) := by unfold Hid argsOk; rw [← HR, h.len, Bool.true_and]
      clear HR
      by_cases h30 : n ≤ 30
      · have h30i : ¬ 30 < n := by omega
        by_cases hm : inB m 1 100 = true
        · have hmb := inB_iff.1 hm
          by_cases hh : inB ht 1 30 = true
          · have hhb := inB_iff.1 hh
            have HT : Hid (titlePage xs m ht = if allFitW m xs = true ∧ (n : Int) ≤ ht then (List.replicate ((ht - n) / 2).toNat eb ++ (xs.map (midL m) ++ List.replicate (ht - n - (ht - n) / 2).toNat eb), 0) else ([], 5)) := by
              unfold Hid titlePage; rw [if_pos (by rw [HA.out, decide_eq_true h30, hm, hh]; rfl), h.len]
            go_wp2_with (go_at_call 70; refine (l00In_any _ _ _ _).mono ?_; rintro e w1 ⟨rfl, rfl⟩)
            go_loopw [9] (fun i wr => ∃ k : Nat, k ≤ n ∧ i = .int .i64 k ∧ Below w.heap.size w wr ∧ allFitW m (xs.drop k) = allFitW m xs) (fun i _ => n - (intOf i).toNat)
            case atStart => exact ⟨0, Nat.zero_le _, rfl, hb, by simp⟩
            case round =>
              clear hb
              obtain ⟨k2, hk2, rfl, hb, HF⟩ := hrel
              by_cases hlt2 : k2 < n
              · obtain ⟨b, o, p, rfl, hx, hc⟩ := h.at_ hb hlt2
                have hps := HSZ.out _ (List.mem_of_getElem? hx)
                rw [drop_get hx, allFitW] at HF
                by_cases hp : m < (p.size : Int)
                · rw [if_pos hp] at HF
                  have H2 : Hid (titlePage xs m ht = ([], 5)) := by unfold Hid; rw [HT.out, if_neg (by rw [← HF]; simp)]
                  clear HF hx
                  go_wp2
                  go_ret2
                  exact ⟨_, by rw [H2.out]; rfl, by rw [H2.out]; exact Coll.nil_ hb⟩
                · rw [if_neg hp] at HF
                  have H2 := hide HF
                  clear HF hx
                  go_wp2
                  go_roundw
                  case rel => exact ⟨k2 + 1, by omega, by go_num, hb, H2.out⟩
                  case measure => simp [intOf]; omega
              · rw [h.end_ hlt2, allFitW] at HF
                have HFA := hide (allFitW_all HF.symm)
                by_cases hnh : (n : Int) ≤ ht
                · have H2 : Hid (titlePage xs m ht = (List.replicate ((ht - n) / 2).toNat eb ++ (xs.map (midL m) ++ List.replicate (ht - n - (ht - n) / 2).toNat eb), 0)) := by unfold Hid; rw [HT.out, if_pos ⟨HF.symm, hnh⟩]
                  clear HF
                  have h0 := Coll.empty (e := 9) hb
                  obtain ⟨q, hq⟩ : ∃ q : Nat, (ht - n) / 2 = q := ⟨((ht - n) / 2).toNat, by omega⟩
                  have hqb : (q : Int) ≤ 15 := by omega
                  have hqn : (q : Int) + n ≤ ht := by omega
                  have HQ : Hid ((ht - n - (ht - n) / 2).toNat = (ht - n - q).toNat ∧ ((ht - n) / 2).toNat = q) := by unfold Hid; rw [hq]; exact ⟨rfl, Int.toNat_natCast _⟩
                  go_wp2
                  rw [hq]
                  have HQ2 := hide hq
                  clear hq
                  go_loopw [10, 11] (fun v i wr => ∃ k : Nat, k ≤ q ∧ i = .int .i64 k ∧ Coll w wr 9 v ((List.replicate (q - k) eb).map Value.string)) (fun _ i _ => (intOf i).toNat)
                  case atStart => exact ⟨q, Nat.le_refl _, rfl, by simpa using h0⟩
                  case round =>
                    clear h0
                    obtain ⟨k3, hk3, rfl, hco⟩ := hrel
                    by_cases hlt3 : 0 < k3
                    · have hkd : decide ((0 : Int) < (k3 : Int)) = true := by rw [decide_eq_true_eq]; omega
                      go_wp2_with (at_builtin; refine Coll.push Try.underlying22 string_info rfl (by decide) hco rfl (by rw [List.length_map, List.length_replicate]; omega) rfl _ _ rfl rfl rfl ?_; intro v1 w4 hc4 hg4)
                      go_roundw
                      case rel => exact ⟨k3 - 1, by omega, by go_num, by rw [show q - (k3 - 1) = (q - k3) + 1 from by omega, List.replicate_succ']; simpa [eb] using hc4⟩
                      case measure => simp [intOf]; omega
                    · have hkd : decide ((0 : Int) < (k3 : Int)) = false := by rw [decide_eq_false_iff_not]; omega
                      have hk30 : q - k3 = q := by omega
                      rw [hk30] at hco
                      replace hk30 := hide hk30
                      go_wp2
                      go_loopw [10, 12] (fun v i wr => ∃ (k : Nat) (acc : List ByteArray), k ≤ n ∧ i = .int .i64 k ∧ acc.length ≤ 15 + k ∧ Coll w wr 9 v (acc.map Value.string) ∧ acc ++ (xs.drop k).map (midL m) = List.replicate q eb ++ xs.map (midL m)) (fun _ i _ => n - (intOf i).toNat)
                      case atStart => exact ⟨0, List.replicate q eb, Nat.zero_le _, rfl, by rw [List.length_replicate]; omega, hco, by simp⟩
                      case round =>
                        clear hco
                        obtain ⟨k4, acc, hk4, rfl, hal, hco, HG⟩ := hrel
                        by_cases hlt4 : k4 < n
                        · obtain ⟨b, o, p, rfl, hx, hc⟩ := h.at_ hco.below hlt4
                          have hmm := List.mem_of_getElem? hx
                          have hps := HSZ.out _ hmm
                          have hpm := HFA.out _ hmm
                          have hbl := World.block_lt_of_cell? wr _ hc
                          obtain ⟨F, hF⟩ : ∃ F, runs 32 ((m - (p.size : Int)) / 2) = F := ⟨_, rfl⟩
                          have hFz : F.size ≤ 100 := by rw [← hF, runs_size]; omega
                          have HF := hide hF
                          rw [drop_get hx, List.map_cons] at HG
                          have HN : Hid ((acc ++ [F ++ p]) ++ (xs.drop (k4 + 1)).map (midL m) = List.replicate q eb ++ xs.map (midL m)) := by unfold Hid; rw [← HG, ← hF]; simp [midL]
                          clear HG hx hF hmm
                          have hs0 : IntKind.i64.wrap (m - (p.size : Int)) = m - (p.size : Int) := IntWalk.i64_in _ (by omega)
                          have hs1 : IntKind.i64.wrap ((m - (p.size : Int)).tdiv 2) = (m - (p.size : Int)) / 2 := half_i (by omega) (by omega)
                          have hs2 : (m - (p.size : Int)) / 2 ≤ 1048576 := by omega
                          have hs3 : ¬ 9223372036854775807 < F.size + p.size := by omega
                          go_wp2
                          go_region_law (first
                            | (go_simp; go_at_call 71; refine (l08Blanks_any _ _ hs2).mono ?_; rintro e w2 ⟨rfl, hb2⟩; rw [HF.out]; have hcc := (hb2.cell (p := ⟨b, o + k4, none⟩) (by simpa using hbl)).trans hc; have hcD := hco.drew.on hb2)
                            | (refine Coll.push_step Try.underlying22 string_info rfl (by decide) hcD rfl (by rw [List.length_map]; omega) rfl _ _ rfl rfl rfl ?_; intro v1 w4 hc4 hg4))
                          all_goals
                            go_wp2
                            go_roundw
                            case rel => exact ⟨k4 + 1, acc ++ [F ++ p], by omega, by go_num, by simp; omega, by simpa using hc4, HN.out⟩
                            case measure => simp [intOf]; omega
                        · rw [h.end_ hlt4, List.map_nil, List.append_nil] at HG
                          have hal2 : acc.length = q + n := by rw [HG]; simp [h.len]
                          have HG2 := hide HG
                          have hacc := hide hal2
                          clear HG
                          go_wp2
                          go_loopw [10] (fun v wr => ∃ (j : Nat), q + n + j ≤ ht ∧ Coll w wr 9 v ((acc ++ List.replicate j eb).map Value.string)) (fun v _ => 30 - lenV v)
                          case atStart => exact ⟨0, by omega, by simpa using hco⟩
                          case round =>
                            clear hco
                            obtain ⟨j, hj, hco⟩ := hrel
                            obtain ⟨A5, c5, hv5, -, -, -⟩ := hco.form
                            rw [List.length_map, List.length_append, List.length_replicate, hal2] at hv5
                            subst hv5
                            clear hal2
                            by_cases hjl : (q + n + j : Int) < ht
                            · go_wp2_with (at_builtin; refine Coll.push Try.underlying22 string_info rfl (by decide) hco rfl (by rw [List.length_map, List.length_append, List.length_replicate, hacc.out]; omega) rfl _ _ rfl rfl rfl ?_; intro v1 w4 hc4 hg4)
                              have HC4 : Hid (Coll w w4 9 v1 ((acc ++ List.replicate (j + 1) eb).map Value.string)) := by
                                unfold Hid
                                rw [List.replicate_succ']; simpa [eb] using hc4
                              obtain ⟨A6, c6, hv6, -, -, -⟩ := HC4.out.form
                              rw [List.length_map, List.length_append, List.length_replicate, hacc.out] at hv6
                              subst hv6
                              go_roundw
                              case rel => exact ⟨j + 1, by omega, HC4.out⟩
                              case measure => simp [lenV]; omega
                            · have HE : Hid (titlePage xs m ht = (acc ++ List.replicate j eb, 0)) := by
                                unfold Hid
                                rw [H2.out, HQ.out.1, HQ.out.2, HG2.out, show (ht - n - q).toNat = j from by omega]; simp
                              go_wp2
                              go_ret2
                              exact ⟨_, by rw [HE.out]; rfl, by rw [HE.out]; exact hco⟩
                · have H2 : Hid (titlePage xs m ht = ([], 5)) := by unfold Hid; rw [HT.out, if_neg (fun e => hnh e.2)]
                  clear HF
                  go_wp2
                  go_ret2
                  exact ⟨_, by rw [H2.out]; rfl, by rw [H2.out]; exact Coll.nil_ hb⟩
          · have H2 : Hid (titlePage xs m ht = ([], 2)) := by unfold Hid titlePage; rw [if_neg (by rw [HA.out]; simp [hh])]
            replace hh : inB ht 1 30 = false := by simpa using hh
            go_wp2_with (go_at_call 70; refine (l00In_any _ _ _ _).mono ?_; rintro e w1 ⟨rfl, rfl⟩)
            go_ret2
            exact ⟨_, by rw [H2.out]; rfl, by rw [H2.out]; exact Coll.nil_ hb⟩
        · have H2 : Hid (titlePage xs m ht = ([], 2)) := by unfold Hid titlePage; rw [if_neg (by rw [HA.out]; simp [hm])]
          replace hm : inB m 1 100 = false := by simpa using hm
          go_wp2_with (go_at_call 70; refine (l00In_any _ _ _ _).mono ?_; rintro e w1 ⟨rfl, rfl⟩)
          go_ret2
          exact ⟨_, by rw [H2.out]; rfl, by rw [H2.out]; exact Coll.nil_ hb⟩
      · have h30i : 30 < n := by omega
        have H2 : Hid (titlePage xs m ht = ([], 2)) := by unfold Hid titlePage; rw [if_neg (by rw [HA.out]; simp [h30])]
        go_wp2_with (go_at_call 70; refine (l00In_any _ _ _ _).mono ?_; rintro e w1 ⟨rfl, rfl⟩)
        go_ret2
        exact ⟨_, by rw [H2.out]; rfl, by rw [H2.out]; exact Coll.nil_ hb⟩

theorem coll_made {W w1 w : World} {m : Nat} (h : w1.ownsRow w.heap.size 9 1 (.slice (some ⟨w.heap.size, 0, none⟩) m m) m (List.replicate m (.string ⟨#[]⟩))) (hb : Below W.heap.size W w) (hb1 : Below w.heap.size w w1) :
    Coll W w1 9 (.slice (some ⟨w.heap.size, 0, none⟩) m m) ((List.replicate m eb).map Value.string) := by
  have hc : Coll w w1 9 (.slice (some ⟨w.heap.size, 0, none⟩) m m) ((List.replicate m eb).map Value.string) := ⟨by rw [List.length_map, List.length_replicate, List.map_replicate]; exact h, hb1⟩
  exact hc.since hb
set_option maxHeartbeats 2000000 in
theorem TitlePage_I (w : World) (A : Option Addr) (n c : Nat) (xs : List ByteArray) (m ht : Int) (h : Sl Value.string w A n xs) (hu : ∀ s ∈ xs, (s.size : Int) ≤ 1048576) :
    Calls Try.prog 34 #[.slice A n c, .int .i64 m, .int .i64 ht] w fun e w' => ∃ v, e = .returned (.tuple #[v, .int .i64 (titlePage xs m ht).2]) ∧ Coll w w' 9 v ((titlePage xs m ht).1.map Value.string) := by
  have HU := hide hu
  clear hu
  have hn := h.max
  by_cases h30 : n ≤ 30
  · by_cases hm : inB m 1 100 = true
    · have hmb := inB_iff.1 hm
      by_cases hh : inB ht 1 30 = true
      · have hhb := inB_iff.1 hh
        have h30i : ¬ 30 < n := by omega
        have HA : Hid (argsOk xs m ht = allS xs) := by unfold Hid argsOk; rw [h.len, decide_eq_true h30, hm, hh]; simp
        obtain ⟨i0, hi, hz0, hz1, hz2⟩ := info_parts string_info
        go_enter Try.func34, Try.ntmps34
        go_wp2_with (first | (go_at_call 73; refine (isWidth_any _ _).mono ?_; rintro e w1 ⟨rfl, rfl⟩) | (go_at_call 77; refine (between_any _ _ _ _).mono ?_; rintro e w1 ⟨rfl, rfl⟩))
        go_loopw [29] (fun i wr => ∃ k : Nat, k ≤ n ∧ i = .int .i64 k ∧ Below w.heap.size w wr ∧ allS (xs.drop k) = allS xs) (fun i _ => n - (intOf i).toNat)
        case atStart => exact ⟨0, Nat.zero_le _, rfl, Below.refl _ _, by simp⟩
        case round =>
          obtain ⟨k, hk, rfl, hb, HR⟩ := hrel
          by_cases hlt : k < n
          · obtain ⟨b, o, p, rfl, hx, hc⟩ := h.at_ hb hlt
            have hps := HU.out _ (List.mem_of_getElem? hx)
            rw [drop_get hx, allS] at HR
            by_cases hp : isSet p = true
            · rw [if_pos hp] at HR
              have H2 := hide HR
              clear HR hx
              go_wp2_with (go_at_call 78; refine (isSetting_any _ _ (by omega)).mono ?_; rintro e w1 ⟨rfl, rfl⟩)
              go_roundw
              case rel => exact ⟨k + 1, by omega, by go_num, hb, H2.out⟩
              case measure => simp [intOf]; omega
            · rw [if_neg hp] at HR
              have H2 : Hid (titlePage xs m ht = ([], 2)) := by unfold Hid titlePage; rw [HA.out, ← HR]; rfl
              replace hp : isSet p = false := by simpa using hp
              clear HR hx
              go_wp2_with (go_at_call 78; refine (isSetting_any _ _ (by omega)).mono ?_; rintro e w1 ⟨rfl, rfl⟩)
              go_ret2
              exact ⟨_, by rw [H2.out]; rfl, by rw [H2.out]; exact Coll.nil_ hb⟩
          · rw [h.end_ hlt, allS] at HR
            have HSZ := hide (allS_all HR.symm)
            have HT : Hid (titlePage xs m ht = if allFitW m xs = true ∧ (n : Int) ≤ ht then (List.replicate ((ht - n) / 2).toNat eb ++ (xs.map (midL m) ++ List.replicate (ht - n - (ht - n) / 2).toNat eb), 0) else ([], 5)) := by
              unfold Hid titlePage; rw [if_pos (by rw [HA.out]; exact HR.symm), h.len]
            obtain ⟨L, hL⟩ : ∃ L, longGo 0 xs = L := ⟨_, rfl⟩
            have hL0 : 0 ≤ L := by rw [← hL]; exact (longGo_ge xs 0).1
            have hfl := allFitW_long (m := m) (xs := xs) (by omega)
            rw [hL] at hfl
            have HL := hide hL
            clear HR hL
            by_cases hlm : m < L
            · have H2 : Hid (titlePage xs m ht = ([], 5)) := by unfold Hid; rw [HT.out, if_neg (fun e => by have := hfl.2 e.1; omega)]
              clear hfl
              go_wp2_with (go_at_call 74; refine (longest_any _ _ _ _ xs (h.on hb) HU.out).mono ?_; rintro e w2 ⟨rfl, hb2⟩; rw [HL.out])
              go_ret2
              exact ⟨_, by rw [H2.out]; rfl, by rw [H2.out]; exact Coll.nil_ (Below.step hb hb2)⟩
            · by_cases hnh : (n : Int) ≤ ht
              · have HFA := hide (allFitW_all (hfl.1 (by omega)))
                have H2 : Hid (titlePage xs m ht = (List.replicate ((ht - n) / 2).toNat eb ++ (xs.map (midL m) ++ List.replicate (ht - n - (ht - n) / 2).toNat eb), 0)) := by unfold Hid; rw [HT.out, if_pos ⟨hfl.1 (by omega), hnh⟩]
                clear hfl
                obtain ⟨q, hq⟩ : ∃ q : Nat, (ht - n) / 2 = q := ⟨((ht - n) / 2).toNat, by omega⟩
                obtain ⟨q2, hq2⟩ : ∃ q2 : Nat, ht - n - q = q2 := ⟨(ht - n - q).toNat, by omega⟩
                have hq3 : ht - (n : Int) - (ht - n) / 2 = q2 := by rw [hq, hq2]
                have hqb : q ≤ 15 := by omega
                have hqb2 : q2 ≤ 30 := by omega
                have HQ : Hid ((ht - n - (ht - n) / 2).toNat = q2 ∧ ((ht - n) / 2).toNat = q) := by unfold Hid; rw [hq, hq2]; exact ⟨Int.toNat_natCast _, Int.toNat_natCast _⟩
                go_wp2_with (first
                  | (go_at_call 74; refine (longest_any _ _ _ _ xs (h.on hb) HU.out).mono ?_; rintro e w2 ⟨rfl, hb2⟩; rw [HL.out])
                  | (at_make; refine wpList_make_full _ rfl _ _ 22 rfl w2.heap.size 9 i0 (.string ⟨#[]⟩) 1 Try.underlying22 hi hz0 hz1 .i64 .i64 _ _ q rfl rfl hq hq (by rw [hz2]; omega) (by simp only [maxLen]; omega) (Nat.le_refl _) ?_; intro w3 hown3 hg3))
                have hb3 : Below w2.heap.size w2 w3 := (Below.refl _ _).grown hg3 (Nat.le_refl _) (by simp)
                simp only [Value.cells, Nat.mul_one, toList_madeCells_one] at hown3
                have h0 := coll_made hown3 (Below.step hb hb2) hb3
                clear hown3 hg3
                go_loopw [11, 54] (fun v i wr => ∃ (k : Nat) (acc : List ByteArray), k ≤ n ∧ i = .int .i64 k ∧ acc.length ≤ 15 + k ∧ Coll w wr 9 v (acc.map Value.string) ∧ acc ++ (xs.drop k).map (midL m) = List.replicate q eb ++ xs.map (midL m)) (fun _ i _ => n - (intOf i).toNat)
                case atStart => exact ⟨0, List.replicate q eb, Nat.zero_le _, rfl, by rw [List.length_replicate]; omega, h0, by simp⟩
                case round =>
                  clear h0 hb hb2 hb3
                  obtain ⟨k4, acc, hk4, rfl, hal, hco, HG⟩ := hrel
                  by_cases hlt4 : k4 < n
                  · obtain ⟨b, o, p, rfl, hx, hc⟩ := h.at_ hco.below hlt4
                    have hmm := List.mem_of_getElem? hx
                    have hps := HSZ.out _ hmm
                    have hpm := HFA.out _ hmm
                    rw [drop_get hx, List.map_cons] at HG
                    have HN : Hid ((acc ++ [runs 32 ((m - (p.size : Int)) / 2) ++ p]) ++ (xs.drop (k4 + 1)).map (midL m) = List.replicate q eb ++ xs.map (midL m)) := by unfold Hid; rw [← HG]; simp [midL]
                    clear HG hx hmm
                    go_wp2_with (first
                      | (go_at_call 75; refine (centred_any _ _ _ (by omega) (by omega) (by omega)).mono ?_; rintro e w5 ⟨rfl, hb5⟩; have hcD := hco.on hb5)
                      | (at_builtin; refine Coll.push Try.underlying22 string_info rfl (by decide) hcD rfl (by rw [List.length_map]; omega) rfl _ _ rfl rfl rfl ?_; intro v1 w6 hc6 hg6))
                    go_roundw
                    case rel => exact ⟨k4 + 1, _, by omega, by go_num, by simp; omega, by simpa using hc6, HN.out⟩
                    case measure => simp [intOf]; omega
                  · rw [h.end_ hlt4, List.map_nil, List.append_nil] at HG
                    have HE : Hid (titlePage xs m ht = (acc ++ List.replicate q2 eb, 0)) := by
                      unfold Hid
                      rw [H2.out, HQ.out.1, HQ.out.2, HG]; simp
                    clear HG
                    go_wp2_with (at_builtin; refine Coll.ebs (m := q2) hco (by omega) rfl _ _ rfl rfl _ rfl (by omega) ?_; intro v1 w8 hc8 hg8)
                    go_ret2
                    exact ⟨_, by rw [HE.out]; rfl, by rw [HE.out]; exact hc8⟩
              · have H2 : Hid (titlePage xs m ht = ([], 5)) := by unfold Hid; rw [HT.out, if_neg (fun e => hnh e.2)]
                clear hfl
                go_wp2_with (go_at_call 74; refine (longest_any _ _ _ _ xs (h.on hb) HU.out).mono ?_; rintro e w2 ⟨rfl, hb2⟩; rw [HL.out])
                go_ret2
                exact ⟨_, by rw [H2.out]; rfl, by rw [H2.out]; exact Coll.nil_ (Below.step hb hb2)⟩
      · have H2 : Hid (titlePage xs m ht = ([], 2)) := by unfold Hid titlePage argsOk; rw [if_neg (by simp [hh])]
        replace hh : inB ht 1 30 = false := by simpa using hh
        have h30i : ¬ 30 < n := by omega
        go_enter Try.func34, Try.ntmps34
        go_wp2_with (first | (go_at_call 73; refine (isWidth_any _ _).mono ?_; rintro e w1 ⟨rfl, rfl⟩) | (go_at_call 77; refine (between_any _ _ _ _).mono ?_; rintro e w1 ⟨rfl, rfl⟩))
        go_ret2
        exact ⟨_, by rw [H2.out]; rfl, by rw [H2.out]; exact Coll.nil_ (Below.refl _ _)⟩
    · have H2 : Hid (titlePage xs m ht = ([], 2)) := by unfold Hid titlePage argsOk; rw [if_neg (by simp [hm])]
      replace hm : inB m 1 100 = false := by simpa using hm
      have h30i : ¬ 30 < n := by omega
      go_enter Try.func34, Try.ntmps34
      go_wp2_with (first | (go_at_call 73; refine (isWidth_any _ _).mono ?_; rintro e w1 ⟨rfl, rfl⟩) | (go_at_call 77; refine (between_any _ _ _ _).mono ?_; rintro e w1 ⟨rfl, rfl⟩))
      go_ret2
      exact ⟨_, by rw [H2.out]; rfl, by rw [H2.out]; exact Coll.nil_ (Below.refl _ _)⟩
  · have H2 : Hid (titlePage xs m ht = ([], 2)) := by unfold Hid titlePage argsOk; rw [if_neg (by rw [h.len]; simp [h30])]
    have h30i : 30 < n := by omega
    go_enter Try.func34, Try.ntmps34
    go_wp2_with (first | (go_at_call 73; refine (isWidth_any _ _).mono ?_; rintro e w1 ⟨rfl, rfl⟩) | (go_at_call 77; refine (between_any _ _ _ _).mono ?_; rintro e w1 ⟨rfl, rfl⟩))
    go_ret2
    exact ⟨_, by rw [H2.out]; rfl, by rw [H2.out]; exact Coll.nil_ (Below.refl _ _)⟩
end Go.Proofs.Ytanpmjbephelaaa
