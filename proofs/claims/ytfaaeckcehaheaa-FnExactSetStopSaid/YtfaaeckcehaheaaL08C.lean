/-
  SetStop: what it returns, for all arguments.
-/
import Derived.Test.YtfaaeckcehaheaaL08B
import Derived.Deep.RegionLaw
namespace Go.Proofs.Ytfaaeckcehaheaa
open Go.RowKit

def putList (xs : List Int) (z : Int) : List Int := xs.takeWhile (fun s => decide (s < z)) ++ z :: xs.dropWhile (fun s => decide (s < z))
def setStop (xs : List Int) (col : Int) : List Int × Int :=
  if rackCode xs col = 0 then (if hasB xs col = true then ([], 4) else if xs.length < 12 then (putList xs col, 0) else ([], 5)) else ([], rackCode xs col)

set_option maxHeartbeats 400000 in
theorem l00Own_any (w : World) (A : Option Addr) (n c : Nat) (xs : List Int) (h : Sl (Value.int .i64) w A n xs) (hl : n ≤ 1048576) :
    Calls Try.prog 64 #[.slice A n c] w fun e w' => ∃ v, e = .returned v ∧ Coll w w' 2 v (xs.map (Value.int .i64)) := by
  have h0 := Coll.empty (e := 2) (Below.refl w.heap.size w)
  have h2 := h.lay (.cells #[] 2)
  go_enter Try.func64, Try.ntmps64
  go_wp2_with (at_builtin; refine Coll.join Try.underlying22 int64_info rfl (by decide) h0 h2 (fun _ => rfl) (by simp; omega) rfl _ _ rfl rfl rfl ?_; intro v1 w1 hc1 hg1)
  go_ret
  exact ⟨_, rfl, by simpa using hc1⟩

def putGo : Bool → List Int → Int → List Int
  | d, [], z => if d = true then [] else [z]
  | true, x :: xs, z => x :: putGo true xs z
  | false, x :: xs, z => if z ≤ x then (if z < x then z :: x :: putGo true xs z else x :: putGo true xs z) else x :: putGo false xs z
theorem putGo_true (xs : List Int) (z : Int) : putGo true xs z = xs := by
  induction xs with
  | nil => simp [putGo]
  | cons x xs ih => simp [putGo, ih]
theorem putGo_list (xs : List Int) (z : Int) (h : ¬ hasB xs z = true) : putGo false xs z = putList xs z := by
  induction xs with
  | nil => simp [putGo, putList]
  | cons x xs ih =>
    rw [hasB_iff, List.mem_cons, not_or] at h
    rw [hasB_iff] at ih
    by_cases hz : x < z
    · rw [putGo, if_neg (by omega), ih h.2]
      simp [putList, hz]
    · rw [putGo, if_pos (by omega), if_pos (by omega), putGo_true]
      simp [putList, hz]

set_option maxHeartbeats 800000 in
theorem l00Put_any (w : World) (A : Option Addr) (n c : Nat) (xs : List Int) (z : Int) (h : Sl (Value.int .i64) w A n xs) (hl : n ≤ 1048576) :
    Calls Try.prog 63 #[.slice A n c, .int .i64 z] w fun e w' => ∃ v, e = .returned v ∧ Coll w w' 2 v ((putGo false xs z).map (Value.int .i64)) := by
  have h0 := Coll.empty (e := 2) (Below.refl w.heap.size w)
  go_enter Try.func63, Try.ntmps63
  go_wp2
  go_loopw [5, 6, 7] (fun v dv i wr => ∃ (k : Nat) (acc : List Int) (d : Bool), k ≤ n ∧ acc.length ≤ k + (if d = true then 1 else 0) ∧ i = .int .i64 k ∧ dv = .bool d ∧ Coll w wr 2 v (acc.map (Value.int .i64)) ∧ acc ++ putGo d (xs.drop k) z = putGo false xs z) (fun _ _ i _ => n - (intOf i).toNat)
  case atStart => exact ⟨0, [], false, Nat.zero_le _, by simp, rfl, rfl, h0, by simp⟩
  case round =>
    clear h0
    obtain ⟨k, acc, d, hk, hak, rfl, rfl, hco, HR⟩ := hrel
    by_cases hlt : k < n
    · obtain ⟨b, o, x, rfl, hx, hc⟩ := h.at_ hco.below hlt
      rw [drop_get hx] at HR
      cases d with
      | true =>
        rw [putGo] at HR
        have H2 : Hid ((acc ++ [x]) ++ putGo true (xs.drop (k + 1)) z = putGo false xs z) := by unfold Hid; rw [← HR]; simp
        have hak2 : acc.length ≤ k + 1 := by simpa using hak
        clear HR hx hak
        go_wp2_with (at_builtin; refine Coll.push Try.underlying22 int64_info rfl (by decide) hco rfl (by rw [List.length_map]; omega) rfl _ _ rfl rfl rfl ?_; intro v1 w1 hc1 hg1)
        go_roundw
        case rel => exact ⟨k + 1, acc ++ [x], true, by omega, by simp; omega, by go_num, rfl, by simpa using hc1, H2.out⟩
        case measure => simp [intOf]; omega
      | false =>
        rw [putGo] at HR
        have hak2 : acc.length ≤ k := by simpa using hak
        by_cases hzx : z ≤ x
        · rw [if_pos hzx] at HR
          by_cases hzx2 : z < x
          · rw [if_pos hzx2] at HR
            have H2 : Hid ((acc ++ [z] ++ [x]) ++ putGo true (xs.drop (k + 1)) z = putGo false xs z) := by unfold Hid; rw [← HR]; simp
            have HX := hide hx
            clear HR hx hak
            go_wp2_with (first
              | (at_builtin; refine Coll.push Try.underlying22 int64_info rfl (by decide) hco rfl (by rw [List.length_map]; omega) rfl _ _ rfl rfl rfl ?_; intro v1 w1 hc1 hg1; have hcx := h.cell hc1.below HX.out)
              | (at_builtin; refine Coll.push Try.underlying22 int64_info rfl (by decide) hc1 rfl (by simp; omega) rfl _ _ rfl rfl rfl ?_; intro v2 w2 hc2 hg2))
            go_roundw
            case rel => exact ⟨k + 1, acc ++ [z] ++ [x], true, by omega, by simp; omega, by go_num, rfl, by simpa using hc2, H2.out⟩
            case measure => simp [intOf]; omega
          · rw [if_neg hzx2] at HR
            have H2 : Hid ((acc ++ [x]) ++ putGo true (xs.drop (k + 1)) z = putGo false xs z) := by unfold Hid; rw [← HR]; simp
            clear HR hx hak
            go_wp2_with (at_builtin; refine Coll.push Try.underlying22 int64_info rfl (by decide) hco rfl (by rw [List.length_map]; omega) rfl _ _ rfl rfl rfl ?_; intro v1 w1 hc1 hg1)
            go_roundw
            case rel => exact ⟨k + 1, acc ++ [x], true, by omega, by simp; omega, by go_num, rfl, by simpa using hc1, H2.out⟩
            case measure => simp [intOf]; omega
        · rw [if_neg hzx] at HR
          have H2 : Hid ((acc ++ [x]) ++ putGo false (xs.drop (k + 1)) z = putGo false xs z) := by unfold Hid; rw [← HR]; simp
          clear HR hx hak
          go_wp2_with (at_builtin; refine Coll.push Try.underlying22 int64_info rfl (by decide) hco rfl (by rw [List.length_map]; omega) rfl _ _ rfl rfl rfl ?_; intro v1 w1 hc1 hg1)
          go_roundw
          case rel => exact ⟨k + 1, acc ++ [x], false, by omega, by simp; omega, by go_num, rfl, by simpa using hc1, H2.out⟩
          case measure => simp [intOf]; omega
    · rw [h.end_ hlt] at HR
      cases d with
      | true =>
        have H2 : Hid (acc = putGo false xs z) := by unfold Hid; simpa [putGo] using HR
        clear HR hak
        go_wp2
        go_ret
        exact ⟨_, rfl, by rw [← H2.out]; exact hco⟩
      | false =>
        have H2 : Hid (acc ++ [z] = putGo false xs z) := by unfold Hid; simpa [putGo] using HR
        have hak2 : acc.length ≤ k := by simpa using hak
        clear HR hak
        go_wp2_with (at_builtin; refine Coll.push Try.underlying22 int64_info rfl (by decide) hco rfl (by rw [List.length_map]; omega) rfl _ _ rfl rfl rfl ?_; intro v1 w1 hc1 hg1)
        go_ret
        exact ⟨_, rfl, by rw [← H2.out]; simpa using hc1⟩

theorem rackCode_len {xs : List Int} {col : Int} (h : rackCode xs col = 0) : xs.length ≤ 12 := by
  unfold rackCode at h
  split at h
  · rename_i h1
    simp [okRack] at h1
    exact h1.1
  · omega

set_option maxHeartbeats 400000 in
theorem SetStop_s (w : World) (A : Option Addr) (n c : Nat) (xs : List Int) (col : Int) (h : Sl (Value.int .i64) w A n xs) :
    Calls Try.prog 32 #[.slice A n c, .int .i64 col] w fun e w' => ∃ v, e = .returned (.tuple #[v, .int .i64 (setStop xs col).2]) ∧ Coll w w' 2 v ((setStop xs col).1.map (Value.int .i64)) := by
  by_cases h1 : rackCode xs col = 0
  · have hl12 := rackCode_len h1
    rw [h.len] at hl12
    by_cases h2 : hasB xs col = true
    · have HR0 : Hid (setStop xs col = ([], 4)) := by unfold Hid setStop; rw [if_pos h1, if_pos h2]
      go_enter Try.func32, Try.ntmps32
      go_wp2_with (first | (go_at_call 56; refine (l08Code_any _ _ _ _ xs _ h).mono ?_; rintro e w1 ⟨rfl, hb⟩; have hsz := hb.size; obtain ⟨hcw, hfw⟩ := bcell hb) | (go_at_call 62; refine (l00Has_any _ _ _ _ xs _ (h.on hb)).mono ?_; rintro e w2 ⟨rfl, rfl⟩))
      go_ret2
      exact ⟨_, by rw [HR0.out]; rfl, by rw [HR0.out]; exact Coll.nil_ (by (repeat first | exact Below.refl _ _ | (refine Below.alloc ?_ (by simp) _) | (refine Below.step ?_ (by assumption))))⟩
    · by_cases h3 : n < 12
      · have HR0 : Hid (setStop xs col = (putList xs col, 0)) := by unfold Hid setStop; rw [if_pos h1, if_neg h2, if_pos (by rw [h.len]; exact h3)]
        have HP := hide (putGo_list xs col h2)
        go_enter Try.func32, Try.ntmps32
        go_wp2_with (first | (go_at_call 56; refine (l08Code_any _ _ _ _ xs _ h).mono ?_; rintro e w1 ⟨rfl, hb⟩; have hsz := hb.size; obtain ⟨hcw, hfw⟩ := bcell hb) | (go_at_call 62; refine (l00Has_any _ _ _ _ xs _ (h.on hb)).mono ?_; rintro e w2 ⟨rfl, rfl⟩))
        refine (l00Own_any _ A n c xs (h.on hb) (by omega)).mono ?_
        rintro e w2 ⟨v2, rfl, hc2⟩
        obtain ⟨A2, c2, rfl, -, -, hs2⟩ := Sl.of_coll hc2
        go_wp2_with fail
        refine (l00Put_any _ A2 _ c2 xs col hs2 (by rw [h.len]; omega)).mono ?_
        rintro e w3 ⟨v3, rfl, hc3⟩
        have hcf := hc3.since (Below.step hb hc2.below)
        have HC := hide hcf
        go_wp2
        go_ret2
        exact ⟨_, by rw [HR0.out]; rfl, by rw [HR0.out, ← HP.out]; exact HC.out⟩
      · have HR0 : Hid (setStop xs col = ([], 5)) := by unfold Hid setStop; rw [if_pos h1, if_neg h2, if_neg (by rw [h.len]; exact h3)]
        go_enter Try.func32, Try.ntmps32
        go_wp2_with (first | (go_at_call 56; refine (l08Code_any _ _ _ _ xs _ h).mono ?_; rintro e w1 ⟨rfl, hb⟩; have hsz := hb.size; obtain ⟨hcw, hfw⟩ := bcell hb) | (go_at_call 62; refine (l00Has_any _ _ _ _ xs _ (h.on hb)).mono ?_; rintro e w2 ⟨rfl, rfl⟩))
        go_ret2
        exact ⟨_, by rw [HR0.out]; rfl, by rw [HR0.out]; exact Coll.nil_ (by (repeat first | exact Below.refl _ _ | (refine Below.alloc ?_ (by simp) _) | (refine Below.step ?_ (by assumption))))⟩
  · have HR0 : Hid (setStop xs col = ([], rackCode xs col)) := by unfold Hid setStop; rw [if_neg h1]
    have h1b : (rackCode xs col != 0) = true := by simpa using h1
    have h1c : (rackCode xs col == 0) = false := by simpa using h1
    go_enter Try.func32, Try.ntmps32
    go_wp2_with (go_at_call 56; refine (l08Code_any _ _ _ _ xs _ h).mono ?_; rintro e w1 ⟨rfl, hb⟩; have hsz := hb.size; obtain ⟨hcw, hfw⟩ := bcell hb)
    go_ret2
    exact ⟨_, by rw [HR0.out]; rfl, by rw [HR0.out]; exact Coll.nil_ (by (repeat first | exact Below.refl _ _ | (refine Below.alloc ?_ (by simp) _) | (refine Below.step ?_ (by assumption))))⟩

theorem rises_pair {lo hi : Int} (xs : List Int) : ∀ p, rises lo hi p xs = true → xs.Pairwise (· < ·) ∧ ∀ y, p = some y → ∀ x ∈ xs, y < x := by
  induction xs with
  | nil => intro p _; simp
  | cons x xs ih =>
    intro p h
    rw [rises] at h
    split at h
    · split at h
      · simp at h
      · rename_i hp
        obtain ⟨h1, h2⟩ := ih _ h
        refine ⟨List.pairwise_cons.2 ⟨fun y hy => h2 x rfl y hy, h1⟩, ?_⟩
        rintro y rfl z hz
        have hyx : y < x := by simpa [notAbove] using hp
        rcases List.mem_cons.1 hz with rfl | hz
        · exact hyx
        · have := h2 x rfl z hz; omega
    · simp at h
theorem rack_pair {xs : List Int} {col : Int} (h : rackCode xs col = 0) : xs.Pairwise (· < ·) := by
  unfold rackCode at h
  split at h
  · rename_i h1
    simp only [okRack, Bool.and_eq_true] at h1
    exact (rises_pair xs _ h1.2).1
  · omega

/-- k numbers are below col, and the next one is not. -/
def Cut (xs : List Int) (col : Int) (k : Nat) : Prop := xs.takeWhile (fun s => decide (s < col)) = xs.take k ++ (xs.drop k).takeWhile (fun s => decide (s < col)) ∧
  xs.dropWhile (fun s => decide (s < col)) = (xs.drop k).dropWhile (fun s => decide (s < col)) ∧ ∀ y ∈ xs.take k, y < col
theorem Cut.zero (xs : List Int) (col : Int) : Cut xs col 0 := by simp [Cut]
theorem Cut.next {xs : List Int} {col x : Int} {k : Nat} (h : Cut xs col k) (hx : xs[k]? = some x) (hc : x < col) : Cut xs col (k + 1) := by
  obtain ⟨h1, h2, h3⟩ := h
  rw [drop_get hx] at h1 h2
  have ht : xs.take (k + 1) = xs.take k ++ [x] := by
    obtain ⟨e1, e2⟩ := List.getElem?_eq_some_iff.1 hx
    rw [List.take_succ_eq_append_getElem e1, e2]
  refine ⟨by rw [h1, ht]; simp [hc], by rw [h2]; simp [hc], ?_⟩
  intro y hy
  rw [ht] at hy
  rcases List.mem_append.1 hy with hy | hy
  · exact h3 y hy
  · simp at hy; subst hy; exact hc
theorem Cut.stop {xs : List Int} {col x : Int} {k : Nat} (h : Cut xs col k) (hx : xs[k]? = some x) (hc : ¬ x < col) (hp : xs.Pairwise (· < ·)) :
    putList xs col = xs.take k ++ col :: xs.drop k ∧ (hasB xs col = true ↔ x = col) := by
  obtain ⟨h1, h2, h3⟩ := h
  rw [drop_get hx] at h1 h2
  refine ⟨by rw [putList, h1, h2, drop_get hx]; simp [hc], ?_⟩
  rw [hasB_iff]
  constructor
  · intro hm
    rw [← List.take_append_drop k xs, drop_get hx] at hm hp
    rcases List.mem_append.1 hm with hm | hm
    · have := h3 _ hm; omega
    · rcases List.mem_cons.1 hm with rfl | hm
      · rfl
      · have := (List.pairwise_cons.1 (List.pairwise_append.1 hp).2.1).1 _ hm
        omega
  · rintro rfl
    exact List.mem_of_getElem? hx
theorem Cut.all {xs : List Int} {col : Int} {k : Nat} (h : Cut xs col k) (hx : xs.drop k = []) : putList xs col = xs.take k ++ col :: xs.drop k ∧ ¬ hasB xs col = true := by
  obtain ⟨h1, h2, h3⟩ := h
  rw [hx] at h1 h2
  refine ⟨by rw [putList, h1, h2, hx]; simp, ?_⟩
  rw [hasB_iff]
  intro hm
  rw [← List.take_append_drop k xs, hx, List.append_nil] at hm
  have := h3 _ hm
  omega

set_option maxHeartbeats 800000 in
theorem SetStop_i (w : World) (A : Option Addr) (n c : Nat) (xs : List Int) (col : Int) (h : Sl (Value.int .i64) w A n xs) (hnc : n ≤ c) :
    Calls Try.prog 33 #[.slice A n c, .int .i64 col] w fun e w' => ∃ v, e = .returned (.tuple #[v, .int .i64 (setStop xs col).2]) ∧ Coll w w' 2 v ((setStop xs col).1.map (Value.int .i64)) := by
  by_cases h1 : rackCode xs col = 0
  · have hl12 := rackCode_len h1
    rw [h.len] at hl12
    have HP := hide (rack_pair h1)
    have HR1 : Hid (setStop xs col = if hasB xs col = true then ([], 4) else if n < 12 then (putList xs col, 0) else ([], 5)) := by unfold Hid setStop; rw [if_pos h1, h.len]
    go_enter Try.func33, Try.ntmps33
    go_wp2_with (go_at_call 57; refine (rackCode_any _ _ _ _ xs _ h).mono ?_; rintro e w1 ⟨rfl, hb⟩; have hsz := hb.size; obtain ⟨hcw, hfw⟩ := bcell hb)
    clear h1
    have hb0 := hb
    go_loopw [7] (fun i wr => ∃ k : Nat, k ≤ n ∧ i = .int .i64 k ∧ Below w.heap.size w wr ∧ Cut xs col k) (fun i _ => n - (intOf i).toNat)
    case atStart => exact ⟨0, Nat.zero_le _, rfl, hb0, Cut.zero _ _⟩
    case round =>
      clear hb hb0 hcw hfw hsz
      obtain ⟨k, hk, rfl, hb, HC⟩ := hrel
      replace HC := hide HC
      by_cases hlt : k < n
      · obtain ⟨b, o, x, hA, hx, hc⟩ := h.at_ hb hlt
        have HX := hide hx
        clear hx
        have hd : decide ((k : Int) < (n : Int)) = true := by rw [decide_eq_true_eq]; omega
        by_cases hcx : x < col
        · subst hA
          go_wp2
          go_roundw
          case rel => exact ⟨k + 1, by omega, by go_num, hb, HC.out.next HX.out hcx⟩
          case measure => simp [intOf]; omega
        · have HS := hide (HC.out.stop HX.out hcx HP.out)
          by_cases hxe : x = col
          · rw [if_pos (HS.out.2.2 hxe)] at HR1
            have hxb : (x == col) = true := by simpa using hxe
            clear hxe
            subst hA
            go_wp2
            go_ret2
            exact ⟨_, by rw [HR1.out]; rfl, by rw [HR1.out]; exact Coll.nil_ hb⟩
          · rw [if_neg (fun e => hxe (HS.out.2.1 e))] at HR1
            have hxb : (x == col) = false := by simpa using hxe
            clear hxe
            by_cases h12 : n < 12
            · rw [if_pos h12] at HR1
              have h12b : ((n : Int) == 12) = false := by simp; omega
              have h0 := Coll.empty (e := 2) hb
              have ht := ((h.on hb).lay (.cells #[] 2)).take hk
              subst hA
              go_wp2_with (at_builtin; refine Coll.join Try.underlying22 int64_info rfl (by decide) h0 ht (fun _ => rfl) (by simp; omega) rfl _ _ rfl rfl rfl ?_; intro v1 w1 hc1 hg1)
              have hc1' : Coll w w1.drew 2 v1 ((xs.take k).map (Value.int .i64)) := by simpa using hc1.drew
              clear hc1
              go_region_law (first
                | (refine Coll.push_step Try.underlying22 int64_info rfl (by decide) hc1' rfl (by simp; omega) rfl _ _ rfl rfl rfl ?_; intro v2 w2 hc2 hg2)
                | (refine Coll.join_step Try.underlying22 int64_info rfl (by decide) hc2 ((h.on hc2.below).from_if hk hnc) (fun _ => rfl) (by simp; omega) rfl _ _ rfl rfl rfl ?_; intro v3 w3 hc3 hg3))
              all_goals
                go_wp2
                go_ret2
                exact ⟨_, by rw [HR1.out]; rfl, by rw [HR1.out, HS.out.1]; simpa using hc3⟩
            · rw [if_neg h12] at HR1
              have h12b : ((n : Int) == 12) = true := by simp; omega
              subst hA
              go_wp2
              go_ret2
              exact ⟨_, by rw [HR1.out]; rfl, by rw [HR1.out]; exact Coll.nil_ hb⟩
      · have hkn : n = k := by omega
        have HS := hide (HC.out.all (h.end_ hlt))
        have hd : decide ((k : Int) < (n : Int)) = false := by rw [decide_eq_false_iff_not]; omega
        rw [if_neg HS.out.2] at HR1
        by_cases h12 : n < 12
        · rw [if_pos h12] at HR1
          have h12b : ((n : Int) == 12) = false := by simp; omega
          have h0 := Coll.empty (e := 2) hb
          have ht := ((h.on hb).lay (.cells #[] 2)).take hk
          replace hkn := hide hkn
          go_wp2_with (at_builtin; refine Coll.join Try.underlying22 int64_info rfl (by decide) h0 ht (fun _ => rfl) (by simp; omega) rfl _ _ rfl rfl rfl ?_; intro v1 w1 hc1 hg1)
          have hc1' : Coll w w1.drew 2 v1 ((xs.take k).map (Value.int .i64)) := by simpa using hc1.drew
          clear hc1
          go_region_law (first
            | (refine Coll.push_step Try.underlying22 int64_info rfl (by decide) hc1' rfl (by simp; omega) rfl _ _ rfl rfl rfl ?_; intro v2 w2 hc2 hg2)
            | (refine Coll.join_step Try.underlying22 int64_info rfl (by decide) hc2 ((h.on hc2.below).from_ hk hnc) (fun _ => rfl) (by simp; omega) rfl _ _ rfl rfl rfl ?_; intro v3 w3 hc3 hg3))
          all_goals go_wp2
          all_goals go_ret2
          all_goals exact ⟨_, by rw [HR1.out]; rfl, by rw [HR1.out, HS.out.1]; simpa using hc3⟩
        · rw [if_neg h12] at HR1
          have h12b : ((n : Int) == 12) = true := by simp; omega
          clear hkn
          go_wp2
          go_ret2
          exact ⟨_, by rw [HR1.out]; rfl, by rw [HR1.out]; exact Coll.nil_ hb⟩
  · have HR0 : Hid (setStop xs col = ([], rackCode xs col)) := by unfold Hid setStop; rw [if_neg h1]
    have h1b : (rackCode xs col != 0) = true := by simpa using h1
    go_enter Try.func33, Try.ntmps33
    go_wp2_with (go_at_call 57; refine (rackCode_any _ _ _ _ xs _ h).mono ?_; rintro e w1 ⟨rfl, hb⟩; have hsz := hb.size; obtain ⟨hcw, hfw⟩ := bcell hb)
    go_ret2
    exact ⟨_, by rw [HR0.out]; rfl, by rw [HR0.out]; exact Coll.nil_ (by (repeat first | exact Below.refl _ _ | (refine Below.alloc ?_ (by simp) _) | (refine Below.step ?_ (by assumption))))⟩
theorem setStop_len (xs : List Int) (col : Int) : (setStop xs col).1.length ≤ xs.length + 1 := by
  unfold setStop
  split
  · split
    · simp
    · split
      · have := congrArg List.length (List.takeWhile_append_dropWhile (p := fun s => decide (s < col)) (l := xs))
        rw [List.length_append] at this
        simp only [putList, List.length_append, List.length_cons]; omega
      · simp
  · simp
end Go.Proofs.Ytfaaeckcehaheaa
