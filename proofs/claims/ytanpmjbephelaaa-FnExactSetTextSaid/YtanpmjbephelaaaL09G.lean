/-
  Justified lines: plain law; by the reference.
-/
import Derived.Test.YtanpmjbephelaaaL09A
import Derived.Test.YtanpmjbephelaaaLetter
import Derived.Test.YtanpmjbephelaaaReps
import Derived.Deep.RegionWith
namespace Go.Proofs.Ytanpmjbephelaaa
set_option maxRecDepth 100000
open Go.RowKit

/-- Blanks and words behind the first, from the i-th gap on. -/
def setGo (left g : Nat) : Nat → List ByteArray → List UInt8
  | _, [] => []
  | i, s :: ss => List.replicate (1 + left / g + (if i ≤ left % g then 1 else 0)) 32 ++ (by_ s ++ setGo left g (i + 1) ss)
def setT (xs : List ByteArray) (m : Int) : List UInt8 := match xs with
  | [] => []
  | s :: ss => if ss.length = 0 then by_ s ++ List.replicate (m - lineL xs).toNat 32 else by_ s ++ setGo (m - lineL xs).toNat ss.length 1 ss
theorem lineL_one (s : ByteArray) : lineL [s] = (s.size : Int) := by
  unfold lineL
  simp only [sumSz, List.length_cons, List.length_nil]
  omega
/-- How many blanks stand in gap i. -/
def gapN (left g i : Nat) : Nat := 1 + left / g + (if i ≤ left % g then 1 else 0)
theorem gapN_le (left g i : Nat) : gapN left g i ≤ left + 2 := by
  unfold gapN
  have := Nat.div_le_self left g
  split <;> omega
theorem setGo_cons (left g i : Nat) (s : ByteArray) (ss : List ByteArray) : setGo left g i (s :: ss) = List.replicate (gapN left g i) 32 ++ (by_ s ++ setGo left g (i + 1) ss) := rfl

theorem l09Blanks_any (w : World) (n : Int) (hn : n ≤ 1048576) :
    Calls Try.prog 96 #[.int .i64 n] w fun e w' => e = .returned (.string (runs 32 n)) ∧ Below w.heap.size w w' := by
  have h0 := Coll.empty (e := 5) (Below.refl w.heap.size w)
  by_cases hp : 0 ≤ n
  · obtain ⟨m, rfl⟩ := Int.eq_ofNat_of_zero_le hp
    go_enter Try.func96, Try.ntmps96
    go_wp2
    go_loopw [0, 3] (fun i v wr => ∃ (k : Nat) (acc : List UInt8), k ≤ m ∧ i = .int .i64 k ∧ Coll w wr 5 v (acc.map ub) ∧ acc = List.replicate (m - k) 32) (fun i _ _ => (intOf i).toNat)
    case atStart => exact ⟨m, [], Nat.le_refl _, rfl, h0, by simp⟩
    case round =>
      clear h0
      obtain ⟨k, acc, hk, rfl, hco, ha⟩ := hrel
      have hal : acc.length = m - k := by rw [ha, List.length_replicate]
      have HA := hide ha
      clear ha
      by_cases hlt : 0 < k
      · have hle : acc.length ≤ m := by omega
        have hkd : decide ((0 : Int) < (k : Int)) = true := by rw [decide_eq_true_eq]; omega
        have hkd2 : decide (0 < k) = true := by rw [decide_eq_true_eq]; omega
        clear hal
        go_wp2_with (at_builtin; refine Coll.push Try.underlying95 byte_info rfl (by decide) hco rfl (by rw [List.length_map]; omega) rfl _ _ rfl rfl rfl ?_; intro v1 w1 hc1 hg1)
        go_roundw
        case rel => exact ⟨k - 1, acc ++ [32], by omega, by go_num, by simpa [ub] using hc1, by rw [HA.out, show m - (k - 1) = (m - k) + 1 from by omega, List.replicate_succ']⟩
        case measure => simp [intOf]; omega
      · have hk0 : Hid (k = 0) := by unfold Hid; omega
        have hst := hco.str
        clear hal
        go_wp2
        go_ret
        exact ⟨by rw [HA.out, hk0.out]; rfl, hco.below⟩
  · have hst := h0.str (l := [])
    go_enter Try.func96, Try.ntmps96
    go_wp2
    refine wp_loop_rounds 1 ?_
    rw [rounds_succ]
    go_wp2
    go_ret
    exact ⟨by rw [runs, show n.toNat = 0 from by omega]; rfl, h0.below⟩

set_option maxHeartbeats 1000000 in
theorem l09Set_any (w : World) (A : Option Addr) (n c : Nat) (xs : List ByteArray) (m : Int) (h : Sl Value.string w A n xs) (hn0 : 0 < n) (hn : n ≤ 40) (hs : ∀ s ∈ xs, s.size ≤ 80) (hm : m ≤ 80) (hq : lineL xs ≤ m) :
    Calls Try.prog 54 #[.slice A n c, .int .i64 m] w fun e w' => e = .returned (.string (mkB (setT xs m))) ∧ Below w.heap.size w w' := by
  have HS := hide hs
  have hlb := lineL_bd hs
  obtain ⟨b, o, s, rfl, hx, hc0⟩ := h.at_ (Below.refl _ _) hn0
  rw [Nat.add_zero] at hc0
  have hs0 := hs s (List.mem_of_getElem? hx)
  obtain ⟨ss, rfl⟩ : ∃ ss, xs = s :: ss := by
    cases xs with
    | nil => cases hx
    | cons a as' => simp at hx; exact ⟨as', by rw [hx]⟩
  have hbl := World.block_lt_of_cell? w _ hc0
  obtain ⟨q, hqq⟩ : ∃ q, lineL (s :: ss) = q := ⟨_, rfl⟩
  rw [hqq] at hq hlb
  have HQ := hide hqq
  obtain ⟨L, hL⟩ : ∃ L : Nat, m - q = L := ⟨(m - q).toNat, by omega⟩
  obtain ⟨g, rfl⟩ : ∃ g, n = g + 1 := ⟨n - 1, by omega⟩
  have hsl : ss.length = g := by have := h.len; simpa using this
  clear hs hqq hx
  by_cases h1 : g = 0
  · have HR : Hid (setT (s :: ss) m = by_ s ++ List.replicate L 32) := by
      unfold Hid setT
      simp only
      rw [if_pos (by rw [hsl]; exact h1), HQ.out, hL, Int.toNat_natCast]
    have hz : ((g : Int) == 0) = true := by simp [h1]
    have hz2 : (g == 0) = true := by simp [h1]
    clear h1
    go_enter Try.func54, Try.ntmps54
    go_wp2_with (go_at_call 55; refine (l09Long_any _ _ _ _ _ h (by omega) HS.out).mono ?_; rintro e w1 ⟨rfl, rfl⟩; rw [HQ.out])
    have hrz : (runs 32 (L : Int)).size = L := by rw [runs_size, Int.toNat_natCast]
    go_region_with (go_at_call 96; refine (l09Blanks_any _ _ (by omega)).mono ?_; rintro e w2 ⟨rfl, hb2⟩; have hcc := (hb2.cell (p := ⟨b, o, none⟩) (by simpa using hbl)).trans hc0)
    all_goals
      go_wp2
      go_ret
      exact ⟨by rw [HR.out]; rfl, Below.step (Below.refl _ _).drew hb2⟩
  · have HR : Hid (setT (s :: ss) m = by_ s ++ setGo L g 1 ss) := by
      unfold Hid setT
      simp only
      rw [if_neg (by rw [hsl]; exact h1), HQ.out, hL, Int.toNat_natCast, hsl]
    have hz : ((g : Int) == 0) = false := beq_eq_false_iff_ne.2 (by omega)
    have hz2 : (g == 0) = false := beq_eq_false_iff_ne.2 h1
    have hg0 : ¬ (g : Int) = 0 := by omega
    go_enter Try.func54, Try.ntmps54
    go_wp2_with (go_at_call 55; refine (l09Long_any _ _ _ _ _ h (by omega) HS.out).mono ?_; rintro e w1 ⟨rfl, rfl⟩; rw [HQ.out])
    go_loopw [7, 8] (fun v i wr => ∃ (k : Nat) (acc : List UInt8), k ≤ g ∧ acc.length ≤ 80 + 170 * k ∧ i = .int .i64 ((k : Int) + 1) ∧ v = .string (mkB acc) ∧ Below w.heap.size w wr ∧ acc ++ setGo L g (k + 1) (ss.drop k) = setT (s :: ss) m) (fun _ i _ => g + 1 - (intOf i).toNat)
    case atStart => exact ⟨0, by_ s, Nat.zero_le _, by rw [by_len]; omega, rfl, rfl, Below.refl _ _, HR.out.symm⟩
    case round =>
      clear hc0
      obtain ⟨k, acc, hk, ha, rfl, rfl, hb, HG⟩ := hrel
      by_cases hlt : k < g
      · obtain ⟨b', o', x, hA, hx, hcx⟩ := h.at_ hb (show k + 1 < g + 1 by omega)
        obtain ⟨rfl, rfl⟩ : b = b' ∧ o = o' := by simpa using hA
        have hxs := HS.out x (List.mem_of_getElem? hx)
        have hx2 : ss[k]? = some x := by simpa using hx
        rw [drop_get hx2, setGo_cons] at HG
        have hgl := gapN_le L g (k + 1)
        have hsz : (mkB acc).size = acc.length := rfl
        by_cases hle : k + 1 ≤ L % g
        · have hgn : gapN L g (k + 1) = 1 + L / g + 1 := by unfold gapN; rw [if_pos hle]
          obtain ⟨G, hG⟩ : ∃ G, gapN L g (k + 1) = G := ⟨_, rfl⟩
          have hgi : 1 + (L : Int) / g + 1 = (G : Int) := by rw [← hG, hgn]; simp
          rw [hG] at HG hgl
          have hrz : (runs 32 (G : Int)).size = G := by rw [runs_size, Int.toNat_natCast]
          have HS2 : Hid (mkB acc ++ (runs 32 (G : Int) ++ x) = mkB (acc ++ (List.replicate G 32 ++ by_ x))) := by
            unfold Hid
            apply ba_eq
            rw [by_append, by_append, by_runs, Int.toNat_natCast]; rfl
          have HN : Hid ((acc ++ (List.replicate G 32 ++ by_ x)) ++ setGo L g (k + 1 + 1) (ss.drop (k + 1)) = setT (s :: ss) m) := by unfold Hid; rw [← HG]; simp
          have hxz : (by_ x).length ≤ 80 := by rw [by_len]; exact hxs
          clear HG hx hx2 hgn hG
          go_wp2
          try rw [hgi]
          go_region_with (go_at_call 96; refine (l09Blanks_any _ _ (by omega)).mono ?_; rintro e w2 ⟨rfl, hb2⟩; have hcc := (hb2.cell (p := ⟨b, o + (k + 1), none⟩) (by simp; exact Nat.lt_of_lt_of_le hbl hb.size)).trans hcx)
          all_goals
            go_wp2
            go_roundw
            case rel => exact ⟨k + 1, _, by omega, by simp only [List.length_append, List.length_replicate]; omega, by go_num, by rw [HS2.out], Below.step hb (Below.step (Below.refl _ _).drew hb2), HN.out⟩
            case measure => simp [intOf]; omega
        · have hgn : gapN L g (k + 1) = 1 + L / g := by unfold gapN; rw [if_neg hle]; rfl
          obtain ⟨G, hG⟩ : ∃ G, gapN L g (k + 1) = G := ⟨_, rfl⟩
          have hgi : 1 + (L : Int) / g = (G : Int) := by rw [← hG, hgn]; simp
          rw [hG] at HG hgl
          have hrz : (runs 32 (G : Int)).size = G := by rw [runs_size, Int.toNat_natCast]
          have HS2 : Hid (mkB acc ++ (runs 32 (G : Int) ++ x) = mkB (acc ++ (List.replicate G 32 ++ by_ x))) := by
            unfold Hid
            apply ba_eq
            rw [by_append, by_append, by_runs, Int.toNat_natCast]; rfl
          have HN : Hid ((acc ++ (List.replicate G 32 ++ by_ x)) ++ setGo L g (k + 1 + 1) (ss.drop (k + 1)) = setT (s :: ss) m) := by unfold Hid; rw [← HG]; simp
          have hxz : (by_ x).length ≤ 80 := by rw [by_len]; exact hxs
          clear HG hx hx2 hgn hG
          go_wp2
          try rw [hgi]
          go_region_with (go_at_call 96; refine (l09Blanks_any _ _ (by omega)).mono ?_; rintro e w2 ⟨rfl, hb2⟩; have hcc := (hb2.cell (p := ⟨b, o + (k + 1), none⟩) (by simp; exact Nat.lt_of_lt_of_le hbl hb.size)).trans hcx)
          all_goals
            go_wp2
            go_roundw
            case rel => exact ⟨k + 1, _, by omega, by simp only [List.length_append, List.length_replicate]; omega, by go_num, by rw [HS2.out], Below.step hb (Below.step (Below.refl _ _).drew hb2), HN.out⟩
            case measure => simp [intOf]; omega
      · rw [List.drop_eq_nil_of_le (by omega), setGo] at HG
        have HE : Hid (acc = setT (s :: ss) m) := by unfold Hid; rw [← HG]; simp
        have hkg : k = g := by omega
        clear HG hlt
        go_wp2
        go_ret
        exact ⟨by rw [← HE.out]; rfl, hb⟩

set_option maxHeartbeats 1000000 in
theorem setLine_any (w : World) (A : Option Addr) (n c : Nat) (xs : List ByteArray) (m : Int) (h : Sl Value.string w A n xs) (hcap : n ≤ c) (hn0 : 0 < n) (hn : n ≤ 40) (hs : ∀ s ∈ xs, s.size ≤ 80) (hm : m ≤ 80) (hq : lineL xs ≤ m) :
    Calls Try.prog 59 #[.slice A n c, .int .i64 m] w fun e w' => e = .returned (.string (mkB (setT xs m))) ∧ Below w.heap.size w w' := by
  have HS := hide hs
  have hlb := lineL_bd hs
  obtain ⟨b, o, s, rfl, hx, hc0⟩ := h.at_ (Below.refl _ _) hn0
  rw [Nat.add_zero] at hc0
  have hs0 := hs s (List.mem_of_getElem? hx)
  obtain ⟨ss, rfl⟩ : ∃ ss, xs = s :: ss := by
    cases xs with
    | nil => cases hx
    | cons a as' => simp at hx; exact ⟨as', by rw [hx]⟩
  have hbl := World.block_lt_of_cell? w _ hc0
  obtain ⟨q, hqq⟩ : ∃ q, lineL (s :: ss) = q := ⟨_, rfl⟩
  rw [hqq] at hq hlb
  have HQ := hide hqq
  obtain ⟨L, hL⟩ : ∃ L : Nat, m - q = L := ⟨(m - q).toNat, by omega⟩
  obtain ⟨g, rfl⟩ : ∃ g, n = g + 1 := ⟨n - 1, by omega⟩
  have hsl : ss.length = g := by have := h.len; simpa using this
  clear hs hqq hx
  by_cases h1 : g = 0
  · have HR : Hid (setT (s :: ss) m = by_ s ++ List.replicate L 32) := by
      unfold Hid setT
      simp only
      rw [if_pos (by rw [hsl]; exact h1), HQ.out, hL, Int.toNat_natCast]
    have hsq : q = (s.size : Int) := by
      rw [← HQ.out, show ss = [] from List.length_eq_zero_iff.1 (by omega), lineL_one]
    subst hsq
    have hz : ((g : Int) + 1 == 1) = true := by simp [h1]
    have hrz : (runs 32 (L : Int)).size ≤ 80 := by rw [runs_size, Int.toNat_natCast]; omega
    clear h1 hlb
    go_enter Try.func59, Try.ntmps59
    go_wp2_with (go_at_call 80; refine (repeat_any _ 32 _ (by omega)).mono ?_; rintro e w2 ⟨rfl, hb2⟩; try rw [hL])
    go_ret
    exact ⟨by rw [HR.out]; rfl, hb2⟩
  · have HR : Hid (setT (s :: ss) m = by_ s ++ setGo L g 1 ss) := by
      unfold Hid setT
      simp only
      rw [if_neg (by rw [hsl]; exact h1), HQ.out, hL, Int.toNat_natCast, hsl]
    have hz : ((g : Int) + 1 == 1) = false := beq_eq_false_iff_ne.2 (by omega)
    have hg0 : ¬ (g : Int) = 0 := by omega
    have hc1 : ¬ c = 1 := by omega
    have hdv : ((L : Int) + g) / g = L / g + 1 := Int.add_ediv_of_dvd_right (Int.dvd_refl _) |>.trans (by rw [Int.ediv_self hg0])
    have hmd : ((L : Int) + g) % g = L % g := Int.emod_eq_add_self_emod.symm
    go_enter Try.func59, Try.ntmps59
    go_wp2_with (go_at_call 67; refine (lineLength_any _ _ _ _ _ h (by omega) HS.out).mono ?_; rintro e w1 ⟨rfl, rfl⟩; rw [HQ.out])
    go_loopw [5, 36] (fun v i wr => ∃ (k : Nat) (acc : List UInt8), k ≤ g ∧ acc.length ≤ 80 + 170 * k ∧ i = .int .i64 k ∧ v = .string (mkB acc) ∧ Below w.heap.size w wr ∧ acc ++ setGo L g (k + 1) (ss.drop k) = setT (s :: ss) m) (fun _ i _ => g - (intOf i).toNat)
    case atStart => exact ⟨0, by_ s, Nat.zero_le _, by rw [by_len]; omega, rfl, rfl, Below.refl _ _, HR.out.symm⟩
    case round =>
      clear hc0
      obtain ⟨k, acc, hk, ha, rfl, rfl, hb, HG⟩ := hrel
      by_cases hlt : k < g
      · obtain ⟨b', o', x, hA, hx, hcx⟩ := h.at_ hb (show 1 + k < g + 1 by omega)
        obtain ⟨rfl, rfl⟩ : b = b' ∧ o = o' := by simpa using hA
        have hxs := HS.out x (List.mem_of_getElem? hx)
        have hx2 : ss[k]? = some x := by rw [Nat.add_comm] at hx; simpa using hx
        rw [drop_get hx2, setGo_cons] at HG
        have hgl := gapN_le L g (k + 1)
        have hsz : (mkB acc).size = acc.length := rfl
        rw [← Nat.add_assoc] at hcx
        clear hA
        by_cases hle : k + 1 ≤ L % g
        · have hgn : gapN L g (k + 1) = 1 + L / g + 1 := by unfold gapN; rw [if_pos hle]
          obtain ⟨G, hG⟩ : ∃ G, gapN L g (k + 1) = G := ⟨_, rfl⟩
          have hgi : (L : Int) / g + 1 + 1 = (G : Int) := by rw [← hG, hgn]; simp; try omega
          rw [hG] at HG hgl
          have hrz : (runs 32 (G : Int)).size = G := by rw [runs_size, Int.toNat_natCast]
          have HS2 : Hid (mkB acc ++ (runs 32 (G : Int) ++ x) = mkB (acc ++ (List.replicate G 32 ++ by_ x))) := by
            unfold Hid
            apply ba_eq
            rw [by_append, by_append, by_runs, Int.toNat_natCast]; rfl
          have HN : Hid ((acc ++ (List.replicate G 32 ++ by_ x)) ++ setGo L g (k + 1 + 1) (ss.drop (k + 1)) = setT (s :: ss) m) := by unfold Hid; rw [← HG]; simp
          have hxz : (by_ x).length ≤ 80 := by rw [by_len]; exact hxs
          clear HG hx hx2 hgn hG
          go_wp2_with (go_at_call 80; refine (repeat_any _ 32 _ (by omega)).mono ?_; rintro e w2 ⟨rfl, hb2⟩; try rw [hgi])
          go_roundw
          case rel => exact ⟨k + 1, _, by omega, by simp only [List.length_append, List.length_replicate]; omega, by go_num, by rw [HS2.out], Below.step hb hb2, HN.out⟩
          case measure => simp [intOf]; omega
        · have hgn : gapN L g (k + 1) = 1 + L / g := by unfold gapN; rw [if_neg hle]; rfl
          obtain ⟨G, hG⟩ : ∃ G, gapN L g (k + 1) = G := ⟨_, rfl⟩
          have hgi : (L : Int) / g + 1 = (G : Int) := by rw [← hG, hgn]; simp; try omega
          rw [hG] at HG hgl
          have hrz : (runs 32 (G : Int)).size = G := by rw [runs_size, Int.toNat_natCast]
          have HS2 : Hid (mkB acc ++ (runs 32 (G : Int) ++ x) = mkB (acc ++ (List.replicate G 32 ++ by_ x))) := by
            unfold Hid
            apply ba_eq
            rw [by_append, by_append, by_runs, Int.toNat_natCast]; rfl
          have HN : Hid ((acc ++ (List.replicate G 32 ++ by_ x)) ++ setGo L g (k + 1 + 1) (ss.drop (k + 1)) = setT (s :: ss) m) := by unfold Hid; rw [← HG]; simp
          have hxz : (by_ x).length ≤ 80 := by rw [by_len]; exact hxs
          clear HG hx hx2 hgn hG
          go_wp2_with (go_at_call 80; refine (repeat_any _ 32 _ (by omega)).mono ?_; rintro e w2 ⟨rfl, hb2⟩; try rw [hgi])
          go_roundw
          case rel => exact ⟨k + 1, _, by omega, by simp only [List.length_append, List.length_replicate]; omega, by go_num, by rw [HS2.out], Below.step hb hb2, HN.out⟩
          case measure => simp [intOf]; omega
      · rw [List.drop_eq_nil_of_le (by omega), setGo] at HG
        have HE : Hid (acc = setT (s :: ss) m) := by unfold Hid; rw [← HG]; simp
        have hkg : k = g := by omega
        clear HG hlt
        go_wp2
        go_ret
        exact ⟨by rw [← HE.out]; rfl, hb⟩
end Go.Proofs.Ytanpmjbephelaaa
