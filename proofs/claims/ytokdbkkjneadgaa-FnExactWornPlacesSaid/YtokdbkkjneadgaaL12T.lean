/-
  WornPlaces of the reference: what it returns, for all arguments.
-/
import Derived.Test.YtokdbkkjneadgaaL12B
import Derived.Test.YtokdbkkjneadgaaStrs
namespace Go.Proofs.Ytokdbkkjneadgaa
set_option maxRecDepth 100000
open Go.RowKit

def allPln : List ByteArray → Bool
  | [] => true
  | p :: ps => if isPln p = true then allPln ps else false
def hit (p : ByteArray) (at_ : Nat) : Bool := match (by_ p)[at_]? with
  | some b => b == 35
  | none => false
def cntAt (at_ : Nat) : List ByteArray → Nat
  | [] => 0
  | p :: ps => (if hit p at_ = true then 1 else 0) + cntAt at_ ps
theorem cntAt_le (at_ : Nat) (ps : List ByteArray) : cntAt at_ ps ≤ ps.length := by
  induction ps with
  | nil => exact Nat.le_refl _
  | cons p ps ih => rw [cntAt, List.length_cons]; split <;> omega
theorem cntAt_next {at_ : Nat} {ps : List ByteArray} {k : Nat} {p : ByteArray} (h : ps[k]? = some p) : cntAt at_ (ps.take (k + 1)) = cntAt at_ (ps.take k) + (if hit p at_ = true then 1 else 0) := by
  induction ps generalizing k with
  | nil => simp at h
  | cons q qs ih =>
    cases k with
    | zero => simp at h; subst h; simp [cntAt]
    | succ k =>
      rw [List.take_succ_cons, cntAt, ih (by simpa using h), List.take_succ_cons, cntAt]; omega
def wornUp (ps : List ByteArray) : Nat → List Int
  | 0 => []
  | k + 1 => wornUp ps k ++ (if 3 < cntAt k ps then [(k : Int)] else [])
theorem wornUp_len (ps : List ByteArray) (k : Nat) : (wornUp ps k).length ≤ k := by
  induction k with
  | zero => exact Nat.le_refl _
  | succ k ih => rw [wornUp, List.length_append]; split <;> simp <;> omega
def worn (ps : List ByteArray) : List Int × Int := if allPln ps = true then (if ps.length ≤ 20 then (wornUp ps 60, 0) else ([], 2)) else ([], 7)
theorem worn_len (ps : List ByteArray) : (worn ps).1.length ≤ 60 := by
  unfold worn
  split
  · split
    · exact wornUp_len ps 60
    · simp
  · simp
theorem allPln_all {ps : List ByteArray} (h : allPln ps = true) : ∀ p ∈ ps, isPln p = true := by
  induction ps with
  | nil => simp
  | cons q qs ih =>
    rw [allPln] at h
    split at h
    · rename_i hq
      intro p hp
      rcases List.mem_cons.1 hp with rfl | hp
      · exact hq
      · exact ih h p hp
    · cases h
theorem isPln_size {p : ByteArray} (h : isPln p = true) : (p.size : Int) ≤ 60 := by
  rw [isPln, Bool.and_eq_true, decide_eq_true_eq] at h
  exact h.2



set_option maxHeartbeats 2000000 in
theorem WornPlaces_S (w : World) (A : Option Addr) (n c : Nat) (ps : List ByteArray) (h : Sl Value.string w A n ps) (hu : ∀ p ∈ ps, (p.size : Int) ≤ 1048576) :
    Calls Try.prog 37 #[.slice A n c] w fun e w' => ∃ v, e = .returned (.tuple #[v, .int .i64 (worn ps).2]) ∧ Coll w w' 2 v ((worn ps).1.map (Value.int .i64)) := by
  have hn := h.max
  have HU := hide hu
  clear hu
  go_enter Try.func37, Try.ntmps37
  go_wp2
  go_loopw [4] (fun i wr => ∃ k : Nat, k ≤ n ∧ i = .int .i64 k ∧ Below w.heap.size w wr ∧ allPln (ps.drop k) = allPln ps) (fun i _ => n - (intOf i).toNat)
  case atStart => exact ⟨0, Nat.zero_le _, rfl, Below.refl _ _, by simp⟩
  case round =>
    obtain ⟨k, hk, rfl, hb, HR⟩ := hrel
    by_cases hlt : k < n
    · obtain ⟨b, o, p, rfl, hx, hc⟩ := h.at_ hb hlt
      have hps := HU.out _ (List.mem_of_getElem? hx)
      rw [drop_get hx, allPln] at HR
      by_cases hp : isPln p = true
      · rw [if_pos hp] at HR
        have H2 := hide HR
        clear HR hx
        go_wp2_with (go_at_call 55; refine (l12IsPlan_any _ _ (by omega)).mono ?_; rintro e w1 ⟨rfl, rfl⟩)
        go_roundw
        case rel => exact ⟨k + 1, by omega, by go_num, hb, H2.out⟩
        case measure => simp [intOf]; omega
      · rw [if_neg hp] at HR
        have H2 : Hid (worn ps = ([], 7)) := by unfold Hid worn; rw [← HR]; rfl
        replace hp : isPln p = false := by simpa using hp
        clear HR hx
        go_wp2_with (go_at_call 55; refine (l12IsPlan_any _ _ (by omega)).mono ?_; rintro e w1 ⟨rfl, rfl⟩)
        go_ret2
        exact ⟨_, by rw [H2.out]; rfl, by rw [H2.out]; exact Coll.nil_ hb⟩
    · rw [h.end_ hlt, allPln] at HR
      have hall := HR.symm
      clear HR
      by_cases hl : n ≤ 20
      · have HW : Hid (worn ps = (wornUp ps 60, 0)) := by unfold Hid worn; rw [if_pos hall, if_pos (by rw [h.len]; exact hl)]
        have HP := hide (allPln_all hall)
        have h0 := Coll.empty (e := 2) hb
        clear hall
        go_wp2
        go_loopw [5, 6] (fun v i wr => ∃ k : Nat, k ≤ 60 ∧ i = .int .i64 k ∧ Coll w wr 2 v ((wornUp ps k).map (Value.int .i64))) (fun _ i _ => 60 - (intOf i).toNat)
        case atStart => exact ⟨0, Nat.zero_le _, rfl, h0⟩
        case round =>
          clear h0 hb
          obtain ⟨q, hq, rfl, hco⟩ := hrel
          obtain ⟨wo, rfl⟩ : ∃ wo : World, wo = wr := ⟨_, rfl⟩
          have hwl := wornUp_len ps q
          by_cases hlt2 : q < 60
          · go_wp2
            go_loopw [7, 8] (fun cv i wi => ∃ j : Nat, j ≤ n ∧ i = .int .i64 j ∧ cv = .int .i64 (cntAt q (ps.take j)) ∧ Below wo.heap.size wo wi) (fun _ i _ => n - (intOf i).toNat)
            case atStart => exact ⟨0, Nat.zero_le _, rfl, rfl, Below.refl _ _⟩
            case round =>
              obtain ⟨j, hj, rfl, rfl, hbi⟩ := hrel
              have hcl := cntAt_le q (ps.take j)
              have hcl2 : (ps.take j).length ≤ j := List.length_take_le _ _
              by_cases hlt3 : j < n
              · obtain ⟨b, o, p, rfl, hx, hc⟩ := h.at_ (Below.step hco.below hbi) hlt3
                have hps := isPln_size (HP.out _ (List.mem_of_getElem? hx))
                have hnx := cntAt_next (at_ := q) hx
                clear hx
                by_cases hqp : q < p.size
                · have hxb := by_get hqp
                  obtain ⟨d, hd⟩ : ∃ d, p[q] = d := ⟨_, rfl⟩
                  rw [hd] at hxb
                  have hrun := run_byte hxb
                  by_cases h35 : d = 35
                  · have c1 : ((d.toNat : Int) == 35) = true := b_eq (c := 35) h35
                    have H2 : Hid (cntAt q (ps.take (j + 1)) = cntAt q (ps.take j) + 1) := by unfold Hid; rw [hnx, hit, hxb, h35]; rfl
                    clear hnx hxb hd h35
                    go_wp2
                    go_roundw
                    case rel => exact ⟨j + 1, by omega, by go_num, by rw [H2.out]; go_num, hbi⟩
                    case measure => simp [intOf]; omega
                  · have c1 : ((d.toNat : Int) == 35) = false := b_ne (c := 35) h35
                    have H2 : Hid (cntAt q (ps.take (j + 1)) = cntAt q (ps.take j)) := by unfold Hid; rw [hnx, hit, hxb]; simp [h35]
                    clear hnx hxb hd h35
                    go_wp2
                    go_roundw
                    case rel => exact ⟨j + 1, by omega, by go_num, by rw [H2.out], hbi⟩
                    case measure => simp [intOf]; omega
                · have H2 : Hid (cntAt q (ps.take (j + 1)) = cntAt q (ps.take j)) := by
                    unfold Hid; rw [hnx, hit, List.getElem?_eq_none (by rw [by_len]; omega)]; simp
                  have hd0 : decide ((q : Int) < (p.size : Int)) = false := by rw [decide_eq_false_iff_not]; omega
                  have hd1 : decide (q < p.size) = false := by rw [decide_eq_false_iff_not]; omega
                  clear hnx
                  go_wp2
                  go_roundw
                  case rel => exact ⟨j + 1, by omega, by go_num, by rw [H2.out], hbi⟩
                  case measure => simp [intOf]; omega
              · have hfull : Hid (ps.take j = ps) := by unfold Hid; exact List.take_of_length_le (by rw [h.len]; omega)
                have hco1 := hco.on hbi
                by_cases h3 : (3 : Int) < (cntAt q (ps.take j) : Int)
                · have H2 : Hid (wornUp ps (q + 1) = wornUp ps q ++ [(q : Int)]) := by unfold Hid; rw [hfull.out] at h3; rw [wornUp, if_pos (by omega)]
                  go_wp2_with (at_builtin; refine Coll.push Try.underlying38 int64_info rfl (by decide) hco1 rfl (by rw [List.length_map]; omega) rfl _ _ rfl rfl rfl ?_; intro v1 w1 hc1 hg1)
                  go_roundw
                  case rel => exact ⟨q + 1, by omega, by go_num, by rw [H2.out]; simpa using hc1⟩
                  case measure => simp [intOf]; omega
                · have H2 : Hid (wornUp ps (q + 1) = wornUp ps q) := by unfold Hid; rw [hfull.out] at h3; rw [wornUp, if_neg (by omega), List.append_nil]
                  go_wp2
                  go_roundw
                  case rel => exact ⟨q + 1, by omega, by go_num, by rw [H2.out]; exact hco1⟩
                  case measure => simp [intOf]; omega
          · have hq2 : Hid (q = 60) := by unfold Hid; omega
            go_wp2
            go_ret2
            exact ⟨_, by rw [HW.out]; rfl, by rw [HW.out, ← hq2.out]; exact hco⟩
      · have H2 : Hid (worn ps = ([], 2)) := by unfold Hid worn; rw [if_pos hall, if_neg (by rw [h.len]; exact hl)]
        clear hall
        go_wp2
        go_ret2
        exact ⟨_, by rw [H2.out]; rfl, by rw [H2.out]; exact Coll.nil_ hb⟩
end Go.Proofs.Ytokdbkkjneadgaa
