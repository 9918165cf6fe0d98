/-
  AlignNumbers: what it returns, for all arguments.
-/
import Derived.Test.YtanpmjbephelaaaL08F
import Derived.Test.YtanpmjbephelaaaReps
import Derived.Deep.RegionLaw
namespace Go.Proofs.Ytanpmjbephelaaa
set_option maxRecDepth 100000
open Go.RowKit

def allSh : List ByteArray → Bool
  | [] => true
  | s :: ss => if 30 < s.size then false else allSh ss
def allNum : List ByteArray → Bool
  | [] => true
  | s :: ss => if numB s = true then allNum ss else false
def ptI (s : ByteArray) : Int := (pointAt (by_ s) : Int)
def mostP : Int → List ByteArray → Int
  | m, [] => m
  | m, s :: ss => mostP (max m (ptI s)) ss
def alignL (M : Int) (s : ByteArray) : ByteArray := runs 32 (M - ptI s) ++ s
def alignR (xs : List ByteArray) : List ByteArray × Int :=
  if (allSh xs && decide (xs.length ≤ 40)) = true then (if allNum xs = true then (xs.map (alignL (mostP 0 xs)), 0) else ([], 7)) else ([], 2)
theorem alignR_len (xs : List ByteArray) : (alignR xs).1.length ≤ 40 := by
  unfold alignR
  split
  · rename_i h
    simp only [Bool.and_eq_true, decide_eq_true_eq] at h
    split
    · rw [List.length_map]; exact h.2
    · simp
  · simp
theorem allSh_all {ss : List ByteArray} (h : allSh ss = true) : ∀ s ∈ ss, s.size ≤ 30 := by
  induction ss with
  | nil => simp
  | cons y ys ih =>
    rw [allSh] at h
    by_cases hy : 30 < y.size
    · rw [if_pos hy] at h; cases h
    · rw [if_neg hy] at h
      intro s hs
      rcases List.mem_cons.1 hs with rfl | hs
      · omega
      · exact ih h s hs
theorem allNum_all {ss : List ByteArray} (h : allNum ss = true) : ∀ s ∈ ss, numB s = true := by
  induction ss with
  | nil => simp
  | cons y ys ih =>
    rw [allNum] at h
    by_cases hy : numB y = true
    · rw [if_pos hy] at h
      intro s hs
      rcases List.mem_cons.1 hs with rfl | hs
      · exact hy
      · exact ih h s hs
    · rw [if_neg hy] at h; cases h
theorem mostP_ge (xs : List ByteArray) : ∀ m, m ≤ mostP m xs ∧ ∀ s ∈ xs, ptI s ≤ mostP m xs := by
  induction xs with
  | nil => intro m; exact ⟨Int.le_refl _, by simp⟩
  | cons x xs ih =>
    intro m
    rw [mostP]
    have := ih (max m (ptI x))
    refine ⟨by omega, fun s hs => ?_⟩
    rcases List.mem_cons.1 hs with rfl | hs
    · omega
    · exact this.2 s hs
theorem ptI_bd {s : ByteArray} (h : s.size ≤ 30) : 0 ≤ ptI s ∧ ptI s ≤ 30 := by
  have := pointAt_le (by_ s)
  rw [by_len] at this
  unfold ptI
  omega
theorem l00Max_any (a b : Int) (w : World) :
    Calls Try.prog 82 #[.int .i64 a, .int .i64 b] w fun e w' => e = .returned (.int .i64 (max a b)) ∧ w = w' := by
  go_enter Try.func82, Try.ntmps82
  go_wp2
  all_goals go_ret
  all_goals (refine ⟨?_, rfl⟩; simp; try omega)

set_option maxHeartbeats 1600000 in
theorem AlignNumbers_S (w : World) (A : Option Addr) (n c : Nat) (xs : List ByteArray) (h : Sl Value.string w A n xs) (hu : ∀ s ∈ xs, (s.size : Int) ≤ 1048576) :
    Calls Try.prog 37 #[.slice A n c] w fun e w' => ∃ v, e = .returned (.tuple #[v, .int .i64 (alignR xs).2]) ∧ Coll w w' 9 v ((alignR xs).1.map Value.string) := by
  have hn := h.max
  have HU := hide hu
  clear hu
  go_enter Try.func37, Try.ntmps37
  go_wp2
  go_loopw [5] (fun i wr => ∃ k : Nat, k ≤ n ∧ i = .int .i64 k ∧ Below w.heap.size w wr ∧ allSh (xs.drop k) = allSh xs) (fun i _ => n - (intOf i).toNat)
  case atStart => exact ⟨0, Nat.zero_le _, rfl, Below.refl _ _, by simp⟩
  case round =>
    obtain ⟨k, hk, rfl, hb, HR⟩ := hrel
    by_cases hlt : k < n
    · obtain ⟨b, o, p, rfl, hx, hc⟩ := h.at_ hb hlt
      have hps := HU.out _ (List.mem_of_getElem? hx)
      rw [drop_get hx, allSh] at HR
      by_cases hp : 30 < p.size
      · rw [if_pos hp] at HR
        have H2 : Hid (alignR xs = ([], 2)) := by unfold Hid alignR; rw [← HR]; rfl
        clear HR hx
        go_wp2
        go_ret2
        exact ⟨_, by rw [H2.out]; rfl, by rw [H2.out]; exact Coll.nil_ hb⟩
      · rw [if_neg hp] at HR
        have H2 := hide HR
        clear HR hx
        go_wp2
        go_roundw
        case rel => exact ⟨k + 1, by omega, by go_num, hb, H2.out⟩
        case measure => simp [intOf]; omega
    · rw [h.end_ hlt, allSh] at HR
      have HS := hide (allSh_all HR.symm)
      by_cases h40 : n ≤ 40
      · have h40i : ¬ 40 < n := by omega
        have HA : Hid (alignR xs = if allNum xs = true then (xs.map (alignL (mostP 0 xs)), 0) else ([], 7)) := by unfold Hid alignR; rw [if_pos (by rw [← HR, h.len, decide_eq_true h40]; rfl)]
        clear HR
        go_wp2
        go_loopw [4, 6] (fun mv i wr => ∃ (k : Nat) (m : Int), k ≤ n ∧ i = .int .i64 k ∧ mv = .int .i64 m ∧ 0 ≤ m ∧ m ≤ 30 ∧ Below w.heap.size w wr ∧ allNum (xs.drop k) = allNum xs ∧ mostP m (xs.drop k) = mostP 0 xs) (fun _ i _ => n - (intOf i).toNat)
        case atStart => exact ⟨0, 0, Nat.zero_le _, rfl, rfl, by omega, by omega, hb, by simp, by simp⟩
        case round =>
          clear hb
          obtain ⟨k2, m, hk2, rfl, rfl, hm0, hm1, hb, HN, HM⟩ := hrel
          by_cases hlt2 : k2 < n
          · obtain ⟨b, o, p, rfl, hx, hc⟩ := h.at_ hb hlt2
            have hps := HS.out _ (List.mem_of_getElem? hx)
            have hbl := World.block_lt_of_cell? wr _ hc
            have hpb := ptI_bd hps
            rw [drop_get hx, allNum] at HN
            rw [drop_get hx, mostP] at HM
            by_cases hp : numB p = true
            · rw [if_pos hp] at HN
              have HN2 := hide HN
              have HM2 := hide HM
              obtain ⟨q, hq⟩ : ∃ q, ptI p = q := ⟨_, rfl⟩
              have hq2 : (pointAt (by_ p) : Int) = q := hq
              rw [hq] at HM2 hpb
              replace hp := hide hp
              have HQ := hide hq2
              clear HN HM hx hq hq2
              go_wp2_with (first
                | (go_at_call 81; refine (l08Number_any _ _ (by omega)).mono ?_; rintro e w2 ⟨rfl, hb2⟩; rw [hp.out]; have hcc := (hb2.cell (p := ⟨b, o + k2, none⟩) (by simpa using hbl)).trans hc)
                | (go_at_call 83; refine (l08Point_any _ _ (by omega)).mono ?_; rintro e w3 ⟨rfl, rfl⟩; rw [HQ.out])
                | (go_at_call 82; refine (l00Max_any _ _ _).mono ?_; rintro e w1 ⟨rfl, rfl⟩))
              go_roundw
              case rel => exact ⟨k2 + 1, max m q, by omega, by go_num, rfl, by omega, by omega, Below.step hb hb2, HN2.out, HM2.out⟩
              case measure => simp [intOf]; omega
            · rw [if_neg hp] at HN
              have H2 : Hid (alignR xs = ([], 7)) := by unfold Hid; rw [HA.out, ← HN]; rfl
              replace hp : Hid (numB p = false) := by unfold Hid; simpa using hp
              clear HN HM hx
              go_wp2_with (go_at_call 81; refine (l08Number_any _ _ (by omega)).mono ?_; rintro e w2 ⟨rfl, hb2⟩; rw [hp.out])
              go_ret2
              exact ⟨_, by rw [H2.out]; rfl, by rw [H2.out]; exact Coll.nil_ (Below.step hb hb2)⟩
          · rw [h.end_ hlt2, allNum] at HN
            rw [h.end_ hlt2, mostP] at HM
            have HP := hide (fun s hs => by rw [HM]; exact (mostP_ge xs 0).2 s hs : ∀ s ∈ xs, ptI s ≤ m)
            have H2 : Hid (alignR xs = (xs.map (alignL m), 0)) := by unfold Hid; rw [HA.out, ← HN, HM]; rfl
            clear HN HM
            go_wp2
            have h0 := Coll.empty (e := 9) hb
            go_loopw [7, 8] (fun v i wr => ∃ (k : Nat) (acc : List ByteArray), k ≤ n ∧ i = .int .i64 k ∧ acc.length ≤ k ∧ Coll w wr 9 v (acc.map Value.string) ∧ acc ++ (xs.drop k).map (alignL m) = xs.map (alignL m)) (fun _ i _ => n - (intOf i).toNat)
            case atStart => exact ⟨0, [], Nat.zero_le _, rfl, Nat.le_refl _, h0, by simp⟩
            case round =>
              clear h0 hb
              obtain ⟨k3, acc, hk3, rfl, hal, hco, HG⟩ := hrel
              by_cases hlk : k3 < n
              · obtain ⟨b, o, p, rfl, hx, hc⟩ := h.at_ hco.below hlk
                have hmm := List.mem_of_getElem? hx
                have hps := HS.out _ hmm
                have hpm := HP.out _ hmm
                have hbl := World.block_lt_of_cell? wr _ hc
                have hpb := ptI_bd hps
                obtain ⟨q, hq⟩ : ∃ q, ptI p = q := ⟨_, rfl⟩
                have hq2 : (pointAt (by_ p) : Int) = q := hq
                obtain ⟨F, hF⟩ : ∃ F, runs 32 (m - q) = F := ⟨_, rfl⟩
                rw [hq] at hpb hpm
                have hFz : F.size ≤ 30 := by rw [← hF, runs_size]; omega
                rw [drop_get hx, List.map_cons] at HG
                have HN : Hid ((acc ++ [F ++ p]) ++ (xs.drop (k3 + 1)).map (alignL m) = xs.map (alignL m)) := by unfold Hid; rw [← HG, ← hF, ← hq]; simp [alignL]
                have HQ := hide hq2
                have HF := hide hF
                clear HG hx hmm hq hq2 hF
                have hs0 : IntKind.i64.wrap (m - q) = m - q := IntWalk.i64_in _ (by omega)
                have hs2 : m - q ≤ 1048576 := by omega
                have hs3 : ¬ 9223372036854775807 < F.size + p.size := by omega
                go_wp2
                go_region_law (first
                  | (go_simp; go_at_call 83; refine (l08Point_any _ _ (by omega)).mono ?_; rintro e w4 ⟨rfl, rfl⟩; rw [HQ.out])
                  | (go_simp; go_at_call 71; refine (l08Blanks_any _ _ hs2).mono ?_; rintro e w2 ⟨rfl, hb2⟩; rw [HF.out]; have hcc := (hb2.cell (p := ⟨b, o + k3, none⟩) (by simpa using hbl)).trans hc; have hcD := hco.drew.on hb2)
                  | (refine Coll.push_step Try.underlying22 string_info rfl (by decide) hcD rfl (by rw [List.length_map]; omega) rfl _ _ rfl rfl rfl ?_; intro v1 w3 hc3 hg3))
                all_goals
                  go_wp2
                  go_roundw
                  case rel => exact ⟨k3 + 1, acc ++ [F ++ p], by omega, by go_num, by simp; omega, by simpa using hc3, HN.out⟩
                  case measure => simp [intOf]; omega
              · rw [h.end_ hlk] at HG
                have HE : Hid (alignR xs = (acc, 0)) := by unfold Hid; rw [H2.out, ← HG]; simp
                clear HG
                go_wp2
                go_ret2
                exact ⟨_, by rw [HE.out]; rfl, by rw [HE.out]; exact hco⟩
      · have h40i : 40 < n := by omega
        have H2 : Hid (alignR xs = ([], 2)) := by unfold Hid alignR; rw [h.len, decide_eq_false h40, Bool.and_false]; rfl
        clear HR
        go_wp2
        go_ret2
        exact ⟨_, by rw [H2.out]; rfl, by rw [H2.out]; exact Coll.nil_ hb⟩

set_option maxHeartbeats 1600000 in
theorem AlignNumbers_I (w : World) (A : Option Addr) (n c : Nat) (xs : List ByteArray) (h : Sl Value.string w A n xs) (hu : ∀ s ∈ xs, (s.size : Int) ≤ 1048576) :
    Calls Try.prog 38 #[.slice A n c] w fun e w' => ∃ v, e = .returned (.tuple #[v, .int .i64 (alignR xs).2]) ∧ Coll w w' 9 v ((alignR xs).1.map Value.string) := by
  have hn := h.max
  have HU := hide hu
  clear hu
  by_cases h40 : n ≤ 40
  · have h40i : ¬ 40 < n := by omega
    have HA0 : Hid (alignR xs = if allSh xs = true then (if allNum xs = true then (xs.map (alignL (mostP 0 xs)), 0) else ([], 7)) else ([], 2)) := by unfold Hid alignR; rw [h.len, decide_eq_true h40, Bool.and_true]
    go_enter Try.func38, Try.ntmps38
    go_wp2
    go_loopw [20] (fun i wr => ∃ k : Nat, k ≤ n ∧ i = .int .i64 k ∧ Below w.heap.size w wr ∧ allSh (xs.drop k) = allSh xs) (fun i _ => n - (intOf i).toNat)
    case atStart => exact ⟨0, Nat.zero_le _, rfl, Below.refl _ _, by simp⟩
    case round =>
      obtain ⟨k, hk, rfl, hb, HR⟩ := hrel
      by_cases hlt : k < n
      · obtain ⟨b, o, p, rfl, hx, hc⟩ := h.at_ hb hlt
        have hps := HU.out _ (List.mem_of_getElem? hx)
        rw [drop_get hx, allSh] at HR
        by_cases hp : 30 < p.size
        · rw [if_pos hp] at HR
          have H2 : Hid (alignR xs = ([], 2)) := by unfold Hid; rw [HA0.out, ← HR]; rfl
          clear HR hx
          go_wp2
          go_ret2
          exact ⟨_, by rw [H2.out]; rfl, by rw [H2.out]; exact Coll.nil_ hb⟩
        · rw [if_neg hp] at HR
          have H2 := hide HR
          clear HR hx
          go_wp2
          go_roundw
          case rel => exact ⟨k + 1, by omega, by go_num, hb, H2.out⟩
          case measure => simp [intOf]; omega
      · rw [h.end_ hlt, allSh] at HR
        have HS := hide (allSh_all HR.symm)
        have HA : Hid (alignR xs = if allNum xs = true then (xs.map (alignL (mostP 0 xs)), 0) else ([], 7)) := by unfold Hid; rw [HA0.out, if_pos HR.symm]
        clear HR
        go_wp2
        have h0 := Coll.empty (e := 2) hb
        go_loopw [6, 7, 31] (fun v mv i wr => ∃ (k : Nat) (m : Int) (acc : List Int), k ≤ n ∧ i = .int .i64 k ∧ mv = .int .i64 m ∧ 0 ≤ m ∧ m ≤ 30 ∧ Coll w wr 2 v (acc.map (Value.int .i64)) ∧ acc = (xs.take k).map ptI ∧ allNum (xs.drop k) = allNum xs ∧ mostP m (xs.drop k) = mostP 0 xs) (fun _ _ i _ => n - (intOf i).toNat)
        case atStart => exact ⟨0, 0, [], Nat.zero_le _, rfl, rfl, by omega, by omega, h0, by simp, by simp, by simp⟩
        case round =>
          clear hb h0
          obtain ⟨k2, m, acc, hk2, rfl, rfl, hm0, hm1, hco, HAC, HN, HM⟩ := hrel
          have hal : acc.length = k2 := by rw [HAC, List.length_map, List.length_take, h.len]; omega
          by_cases hlt2 : k2 < n
          · obtain ⟨b, o, p, rfl, hx, hc⟩ := h.at_ hco.below hlt2
            have hps := HS.out _ (List.mem_of_getElem? hx)
            have hpb := ptI_bd hps
            rw [drop_get hx, allNum] at HN
            rw [drop_get hx, mostP] at HM
            have hale : acc.length ≤ 40 := by omega
            by_cases hp : numB p = true
            · rw [if_pos hp] at HN
              obtain ⟨q, hq⟩ : ∃ q : Nat, pointAt (by_ p) = q := ⟨_, rfl⟩
              have hq2 : ptI p = q := by unfold ptI; rw [hq]
              have HPO : Hid (pointOf p = some q) := by unfold Hid; rw [pointOf_eq, if_pos hp, hq]
              have HN2 := hide HN
              have HAC2 : Hid (acc ++ [(q : Int)] = (xs.take (k2 + 1)).map ptI) := by
                unfold Hid
                obtain ⟨e1, e2⟩ := List.getElem?_eq_some_iff.1 hx
                rw [List.take_succ_eq_append_getElem e1, e2, List.map_append, ← HAC, List.map_cons, hq2]; rfl
              rw [hq2] at HM hpb
              have HM2 := hide HM
              clear HN HM hx hp HAC hq hq2 hal
              go_wp2_with (first
                | (go_at_call 84; refine (pointOf_any _ _ (by omega)).mono ?_; rintro e w2 ⟨rfl, rfl⟩; rw [HPO.out])
                | (at_builtin; refine Coll.push Try.underlying23 int64_info rfl (by decide) hco rfl (by rw [List.length_map]; omega) rfl _ _ rfl rfl rfl ?_; intro v1 w3 hc3 hg3))
              all_goals
                go_roundw
                case rel => exact ⟨k2 + 1, max m (q : Int), acc ++ [(q : Int)], by omega, by go_num, by first | rfl | (congr 1; omega), by omega, by omega, by simpa using hc3, HAC2.out, HN2.out, HM2.out⟩
                case measure => simp [intOf]; omega
            · rw [if_neg hp] at HN
              have H2 : Hid (alignR xs = ([], 7)) := by unfold Hid; rw [HA.out, ← HN]; rfl
              have HPO : Hid (pointOf p = none) := by unfold Hid; rw [pointOf_eq, if_neg hp]
              clear HN HM hx hp HAC hal
              go_wp2_with (go_at_call 84; refine (pointOf_any _ _ (by omega)).mono ?_; rintro e w2 ⟨rfl, rfl⟩; rw [HPO.out])
              go_ret2
              exact ⟨_, by rw [H2.out]; rfl, by rw [H2.out]; exact Coll.nil_ hco.below⟩
          · rw [h.end_ hlt2, allNum] at HN
            rw [h.end_ hlt2, mostP] at HM
            have HP := hide (fun s hs => by rw [HM]; exact (mostP_ge xs 0).2 s hs : ∀ s ∈ xs, ptI s ≤ m)
            have H2 : Hid (alignR xs = (xs.map (alignL m), 0)) := by unfold Hid; rw [HA.out, ← HN, HM]; rfl
            obtain rfl : acc = xs.map ptI := by rw [HAC, List.take_of_length_le (by rw [h.len]; omega)]
            obtain ⟨A6, c6, rfl, -, -, hs6⟩ := Sl.of_coll hco
            rw [List.length_map, h.len] at hs6 ⊢
            have hb := hco.below
            have h0 := Coll.empty (e := 9) (Below.refl wr.heap.size wr)
            clear HN HM HAC hal hco
            go_wp2
            go_loopw [12, 53] (fun v i w5 => ∃ (k : Nat) (acc : List ByteArray), k ≤ n ∧ i = .int .i64 k ∧ acc.length ≤ k ∧ Coll wr w5 9 v (acc.map Value.string) ∧ acc ++ (xs.drop k).map (alignL m) = xs.map (alignL m)) (fun _ i _ => n - (intOf i).toNat)
            case atStart => exact ⟨0, [], Nat.zero_le _, rfl, Nat.le_refl _, h0, by simp⟩
            case round =>
              clear h0
              obtain ⟨wo, rfl⟩ : ∃ wo : World, wo = wr := ⟨_, rfl⟩
              obtain ⟨k3, acc, hk3, rfl, hal, hco, HG⟩ := hrel
              by_cases hlk : k3 < n
              · obtain ⟨b, o, p, rfl, hx, hc⟩ := h.at_ (Below.step hb hco.below) hlk
                obtain ⟨b6, o6, z, rfl, hz, hc6⟩ := hs6.at_ hco.below hlk
                have hmm := List.mem_of_getElem? hx
                have hps := HS.out _ hmm
                have hpm := HP.out _ hmm
                have hpb := ptI_bd hps
                have hzp : z = ptI p := by rw [List.getElem?_map, hx] at hz; simpa using hz.symm
                obtain ⟨F, hF⟩ : ∃ F, runs 32 (m - z) = F := ⟨_, rfl⟩
                rw [← hzp] at hpb hpm
                have hFz : F.size ≤ 30 := by rw [← hF, runs_size]; omega
                rw [drop_get hx, List.map_cons] at HG
                have HN : Hid ((acc ++ [F ++ p]) ++ (xs.drop (k3 + 1)).map (alignL m) = xs.map (alignL m)) := by unfold Hid; rw [← HG, ← hF, hzp]; simp [alignL]
                have HF := hide hF
                clear HG hx hmm hF hz hzp
                go_wp2_with (first
                  | (go_at_call 80; refine (repeat_any _ _ _ (by omega)).mono ?_; rintro e w3 ⟨rfl, hb3⟩; rw [HF.out]; have hcD := hco.on hb3)
                  | (at_builtin; refine Coll.push Try.underlying22 string_info rfl (by decide) hcD rfl (by rw [List.length_map]; omega) rfl _ _ rfl rfl rfl ?_; intro v1 w4 hc4 hg4))
                go_roundw
                case rel => exact ⟨k3 + 1, acc ++ [F ++ p], by omega, by go_num, by simp; omega, by simpa using hc4, HN.out⟩
                case measure => simp [intOf]; omega
              · rw [h.end_ hlk] at HG
                have HE : Hid (alignR xs = (acc, 0)) := by unfold Hid; rw [H2.out, ← HG]; simp
                clear HG
                go_wp2
                go_ret2
                exact ⟨_, by rw [HE.out]; rfl, by rw [HE.out]; exact hco.since hb⟩
  · have h40i : 40 < n := by omega
    have H2 : Hid (alignR xs = ([], 2)) := by unfold Hid alignR; rw [h.len, decide_eq_false h40, Bool.and_false]; rfl
    go_enter Try.func38, Try.ntmps38
    go_wp2
    go_ret2
    exact ⟨_, by rw [H2.out]; rfl, by rw [H2.out]; exact Coll.nil_ (Below.refl _ _)⟩
end Go.Proofs.Ytanpmjbephelaaa
