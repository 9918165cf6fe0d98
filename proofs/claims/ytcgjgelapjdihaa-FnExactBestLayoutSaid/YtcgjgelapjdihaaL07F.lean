/-
  Codes of a board, a layout and a text; the strokes of a text and their costs, by the reference; DearestPair of the reference.
-/
import Derived.Test.YtcgjgelapjdihaaL07C
import Derived.Test.YtcgjgelapjdihaaL07D
namespace Go.Proofs.Ytcgjgelapjdihaa
set_option maxRecDepth 100000
open Go.RowKit

def codeB (xs : List Pl) (s t : ByteArray) : Int := if okBoard xs = true then (if okLay s xs.length = true ∧ allIn (by_ s) (by_ t) = true ∧ t.size ≤ 400 then 0 else 2) else 1
theorem codeB_ok {xs : List Pl} {s t : ByteArray} (h : codeB xs s t = 0) : okBoard xs = true ∧ okLay s xs.length = true ∧ allIn (by_ s) (by_ t) = true ∧ t.size ≤ 400 := by
  unfold codeB at h
  split at h
  · rename_i h1
    split at h
    · rename_i h2; exact ⟨h1, h2⟩
    · omega
  · omega
theorem okLay_facts {s : ByteArray} {n : Nat} (h : okLay s n = true) : s.size = n ∧ s.size ≤ 6 ∧ (by_ s).Nodup := by
  simp only [okLay, isTxt, Bool.and_eq_true, decide_eq_true_eq] at h
  exact ⟨h.1, by omega, h.2.2⟩
theorem okBoard_facts {xs : List Pl} (h : okBoard xs = true) : (∀ x ∈ xs, OkP x) ∧ 1 ≤ xs.length ∧ xs.length ≤ 6 := by
  simp only [okBoard, Bool.and_eq_true] at h
  have := inB_iff.1 h.2
  exact ⟨boardGo_all h.1, by omega, by omega⟩
theorem allIn_all {l t : List UInt8} (h : allIn l t = true) : ∀ c ∈ t, ∃ q, idx c l = some q := by
  induction t with
  | nil => simp
  | cons y ys ih =>
    rw [allIn] at h
    by_cases hy : (idx y l).isSome = true
    · rw [if_pos hy] at h
      intro c hc
      rcases List.mem_cons.1 hc with rfl | hc
      · exact Option.isSome_iff_exists.1 hy
      · exact ih h c hc
    · rw [if_neg hy] at h; cases h
set_option maxHeartbeats 1600000 in
theorem l07Code_any (w : World) (A : Option Addr) (n c : Nat) (xs : List Pl) (s t : ByteArray) (h : Sl3 (Value.int .i64) w A n xs) (hs : s.size ≤ 1048576) (ht : t.size ≤ 1048576) :
    Calls Try.prog 9 #[.slice A n c, .string s, .string t] w fun e w' => e = .returned (.int .i64 (codeB xs s t)) ∧ Below w.heap.size w w' := by
  have HL := hide h.len
  have hn := h.max
  by_cases hb0 : okBoard xs = true
  · have HC : Hid (codeB xs s t = if okLay s n = true ∧ allIn (by_ s) (by_ t) = true ∧ t.size ≤ 400 then 0 else 2) := by unfold Hid codeB; rw [if_pos hb0, HL.out]
    replace hb0 := hide hb0
    go_enter Try.func9, Try.ntmps9
    go_wp2_with (go_at_call 19; refine (l07Ok_any _ _ _ _ xs h).mono ?_; rintro e w1 ⟨rfl, hb1⟩; rw [hb0.out])
    go_loopw [7] (fun i wr => ∃ k : Nat, k ≤ t.size ∧ i = .int .i64 k ∧ Below w.heap.size w wr ∧ allIn (by_ s) ((by_ t).drop k) = allIn (by_ s) (by_ t)) (fun i _ => t.size - (intOf i).toNat)
    case atStart => exact ⟨0, Nat.zero_le _, rfl, hb1, by simp⟩
    case round =>
      clear hb1
      obtain ⟨k, hk, rfl, hb1, HA⟩ := hrel
      by_cases hlt : k < t.size
      · have hx := by_get hlt
        obtain ⟨d, hd⟩ : ∃ d, t[k] = d := ⟨_, rfl⟩
        rw [hd] at hx
        have hrun := run_byte hx
        rw [drop_get hx, allIn] at HA
        cases hi : idx d (by_ s) with
        | none =>
          rw [hi, if_neg (by simp)] at HA
          have HF : Hid (codeB xs s t = 2) := by unfold Hid; rw [HC.out, if_neg (by rw [← HA]; simp)]
          have HI : Hid (idV (idx d (by_ s)) = -1) := by unfold Hid; rw [hi]; rfl
          clear HA hx hd hi
          go_wp2_with (go_at_call 20; refine (l05Index_any _ _ _ hs).mono ?_; rintro e w2 ⟨rfl, rfl⟩; rw [HI.out])
          go_ret
          exact ⟨ret_int HF.out.symm, hb1⟩
        | some q =>
          rw [hi, if_pos (by simp)] at HA
          have HI : Hid (idV (idx d (by_ s)) = (q : Int)) := by unfold Hid; rw [hi]; rfl
          have H2 := hide HA
          clear HA hx hd hi
          go_wp2_with (go_at_call 20; refine (l05Index_any _ _ _ hs).mono ?_; rintro e w2 ⟨rfl, rfl⟩; rw [HI.out])
          go_roundw
          case rel => exact ⟨k + 1, by omega, by go_num, hb1, H2.out⟩
          case measure => simp [intOf]; omega
      · rw [List.drop_eq_nil_of_le (by rw [by_len]; omega), allIn] at HA
        by_cases hlay : okLay s n = true
        · by_cases h400 : t.size ≤ 400
          · have HF : Hid (codeB xs s t = 0) := by unfold Hid; rw [HC.out, if_pos ⟨hlay, HA.symm, h400⟩]
            have h4 : ¬ 400 < t.size := by omega
            clear HA
            go_wp2_with (go_at_call 21; refine (l07Layout_any _ _ _ hs).mono ?_; rintro e w2 ⟨rfl, rfl⟩)
            go_ret
            exact ⟨ret_int HF.out.symm, hb1⟩
          · have HF : Hid (codeB xs s t = 2) := by unfold Hid; rw [HC.out, if_neg (fun e => h400 e.2.2)]
            have h4 : 400 < t.size := by omega
            clear HA
            go_wp2_with (go_at_call 21; refine (l07Layout_any _ _ _ hs).mono ?_; rintro e w2 ⟨rfl, rfl⟩)
            go_ret
            exact ⟨ret_int HF.out.symm, hb1⟩
        · have HF : Hid (codeB xs s t = 2) := by unfold Hid; rw [HC.out, if_neg (fun e => hlay e.1)]
          replace hlay : okLay s n = false := by simpa using hlay
          clear HA
          go_wp2_with (go_at_call 21; refine (l07Layout_any _ _ _ hs).mono ?_; rintro e w2 ⟨rfl, rfl⟩)
          go_ret
          exact ⟨ret_int HF.out.symm, hb1⟩
  · have HC : Hid (codeB xs s t = 1) := by unfold Hid codeB; rw [if_neg hb0]
    replace hb0 : Hid (okBoard xs = false) := by unfold Hid; simpa using hb0
    go_enter Try.func9, Try.ntmps9
    go_wp2_with (go_at_call 19; refine (l07Ok_any _ _ _ _ xs h).mono ?_; rintro e w1 ⟨rfl, hb1⟩; rw [hb0.out])
    go_ret
    exact ⟨ret_int HC.out.symm, hb1⟩

/-- The cost of a stroke behind another one, at two places by number. -/
def costAt (xs : List Pl) (i j : Nat) : Int := costOf (xs.getD i (0, 0, 0)) (xs.getD j (0, 0, 0)) (i == j)
/-- The costs of all strokes at places ps. -/
def costsGo (xs : List Pl) : Option Nat → List Nat → List Int
  | _, [] => []
  | none, j :: js => (xs.getD j (0, 0, 0)).2.2 :: costsGo xs (some j) js
  | some i, j :: js => costAt xs i j :: costsGo xs (some j) js
def psOf (s t : ByteArray) : List Nat := (by_ t).map fun c => (idx c (by_ s)).getD 0
theorem getD_of {xs : List Pl} {i : Nat} {a : Pl} (h : xs[i]? = some a) : xs.getD i (0, 0, 0) = a := by rw [List.getD_eq_getElem?_getD, h]; rfl
theorem costAt_eq {xs : List Pl} {i j : Nat} {a b : Pl} (h1 : xs[i]? = some a) (h2 : xs[j]? = some b) : costAt xs i j = costOf a b (i == j) := by unfold costAt; rw [getD_of h1, getD_of h2]
theorem l07Cost_any (w : World) (A : Option Addr) (n c : Nat) (xs : List Pl) (i j : Nat) (h : Sl3 (Value.int .i64) w A n xs) (hi : i < n) (hj : j < n) (ho : ∀ x ∈ xs, OkP x) :
    Calls Try.prog 34 #[.slice A n c, .int .i64 i, .int .i64 j] w fun e w' => e = .returned (.int .i64 (costAt xs i j)) ∧ Below w.heap.size w w' := by
  have hil : i < xs.length := by rw [h.len]; exact hi
  have hjl : j < xs.length := by rw [h.len]; exact hj
  have hxi : xs[i]? = some xs[i] := List.getElem?_eq_getElem hil
  have hxj : xs[j]? = some xs[j] := List.getElem?_eq_getElem hjl
  rw [costAt_eq hxi hxj]
  by_cases hij : i = j
  · subst hij
    have e : costOf xs[i] xs[i] (i == i) = xs[i].2.2 := by unfold costOf; rw [if_pos (by simp)]
    rw [e]
    exact l07Cost_same w A n c xs i _ h hi hxi (ho _ (List.getElem_mem _))
  · have e : (i == j) = false := beq_eq_false_iff_ne.2 hij
    rw [e]
    exact l07Cost_diff w A n c xs i j _ _ h hi hj hij hxi hxj (ho _ (List.getElem_mem _)) (ho _ (List.getElem_mem _))
theorem costAt_bd {xs : List Pl} {i j : Nat} (hi : i < xs.length) (hj : j < xs.length) (ho : ∀ x ∈ xs, OkP x) : 0 ≤ costAt xs i j ∧ costAt xs i j ≤ 75 := by
  rw [costAt_eq (List.getElem?_eq_getElem hi) (List.getElem?_eq_getElem hj)]
  exact costOf_bd (ho _ (List.getElem_mem _)) (ho _ (List.getElem_mem _))
def lastP (ps : List Nat) (k : Nat) : Option Nat := if k = 0 then none else ps[k - 1]?
set_option maxHeartbeats 3200000 in
theorem l07Costs_any (w : World) (A : Option Addr) (n c : Nat) (xs : List Pl) (s t : ByteArray) (h : Sl3 (Value.int .i64) w A n xs) (hs : s.size ≤ 1048576) (ht : t.size ≤ 1048576) (hok : codeB xs s t = 0) :
    Calls Try.prog 23 #[.slice A n c, .string s, .string t] w fun e w' => ∃ v, e = .returned v ∧ Coll w w' 2 v ((costsGo xs none (psOf s t)).map (Value.int .i64)) := by
  obtain ⟨k1, k2, k3, k4⟩ := codeB_ok hok
  obtain ⟨l1, l2, l3⟩ := okLay_facts k2
  rw [h.len] at l1
  have HO := hide (okBoard_facts k1).1
  have HIN := hide (allIn_all k3)
  have HLEN := hide h.len
  have h0 := Coll.empty (e := 2) (Below.refl w.heap.size w)
  clear k1 k2 k3 l3
  go_enter Try.func23, Try.ntmps23
  go_wp2
  go_loopw [7, 8] (fun v i wr => ∃ (k : Nat) (acc : List Int), k ≤ t.size ∧ i = .int .i64 k ∧ acc.length ≤ k ∧ Coll w wr 2 v (acc.map (Value.int .i64)) ∧ acc ++ costsGo xs (lastP (psOf s t) k) ((psOf s t).drop k) = costsGo xs none (psOf s t)) (fun _ i _ => t.size - (intOf i).toNat)
  case atStart => exact ⟨0, [], Nat.zero_le _, rfl, Nat.le_refl _, h0, by simp [lastP]⟩
  case round =>
    clear h0
    obtain ⟨k, acc, hk, rfl, hal, hco, HG⟩ := hrel
    by_cases hlt : k < t.size
    · have hx := by_get hlt
      obtain ⟨d, hd⟩ : ∃ d, t[k] = d := ⟨_, rfl⟩
      rw [hd] at hx
      have hrun := run_byte hx
      obtain ⟨q, hq⟩ := HIN.out d (List.mem_of_getElem? hx)
      have hqn : q < n := by have := (idx_lt hq).1; rw [by_len] at this; omega
      have hps : (psOf s t)[k]? = some q := by unfold psOf; rw [List.getElem?_map, hx]; simp [hq]
      have HI : Hid (idV (idx d (by_ s)) = (q : Int)) := by unfold Hid; rw [hq]; rfl
      have HPS := hide hps
      rw [drop_get hps] at HG
      by_cases hk0 : k = 0
      · have hkd : ((k : Int) == 0) = true := by simp [hk0]
        have hkd2 : (k == 0) = true := by simp [hk0]
        obtain ⟨p, o, x, y, z, rfl, hbl, hxq, c0, c1, c2⟩ := h.at_ hco.below hqn
        rw [lastP, if_pos hk0, costsGo, getD_of hxq] at HG
        have HN : Hid ((acc ++ [z]) ++ costsGo xs (lastP (psOf s t) (k + 1)) ((psOf s t).drop (k + 1)) = costsGo xs none (psOf s t)) := by
          unfold Hid
          rw [lastP, if_neg (by omega), Nat.add_sub_cancel, hps, ← HG]; simp
        have HK0 := hide hk0
        clear HG hx hd hq hps hxq hk0
        go_wp2_with (first
          | (go_at_call 20; refine (l05Index_any _ _ _ hs).mono ?_; rintro e w2 ⟨rfl, rfl⟩; rw [HI.out])
          | (at_builtin; refine Coll.push Try.underlying38 int64_info rfl (by decide) hco rfl (by rw [List.length_map]; omega) rfl _ _ rfl rfl rfl ?_; intro v1 w7 hc7 hg7))
        go_roundw
        case rel => exact ⟨k + 1, acc ++ [z], by omega, by go_num, by simp; omega, by simpa using hc7, HN.out⟩
        case measure => simp [intOf]; omega
      · have hkd : ((k : Int) == 0) = false := beq_eq_false_iff_ne.2 (by omega)
        have hkd2 : (k == 0) = false := beq_eq_false_iff_ne.2 hk0
        have hx1 := by_get (show k - 1 < t.size by omega)
        obtain ⟨d1, hd1⟩ : ∃ d, t[k - 1] = d := ⟨_, rfl⟩
        rw [hd1] at hx1
        have hrun1 := run_byte hx1
        have hki : ((k - 1 : Nat) : Int) = (k : Int) - 1 := by omega
        rw [hki] at hrun1
        obtain ⟨q1, hq1⟩ := HIN.out d1 (List.mem_of_getElem? hx1)
        have hqn1 : q1 < n := by have := (idx_lt hq1).1; rw [by_len] at this; omega
        have hps1 : (psOf s t)[k - 1]? = some q1 := by unfold psOf; rw [List.getElem?_map, hx1]; simp [hq1]
        have HI1 : Hid (idV (idx d1 (by_ s)) = (q1 : Int)) := by unfold Hid; rw [hq1]; rfl
        rw [lastP, if_neg hk0, hps1, costsGo] at HG
        have HN : Hid ((acc ++ [costAt xs q1 q]) ++ costsGo xs (lastP (psOf s t) (k + 1)) ((psOf s t).drop (k + 1)) = costsGo xs none (psOf s t)) := by
          unfold Hid
          rw [lastP, if_neg (by omega), Nat.add_sub_cancel, hps, ← HG]; simp
        clear HG hx hd hq hps hk0 hx1 hd1 hq1 hps1 hki
        go_wp2_with fail
        refine (l05Index_any _ _ _ hs).mono ?_
        rintro e w2 ⟨rfl, rfl⟩
        rw [HI.out]
        go_wp2_with fail
        refine (l05Index_any _ _ _ hs).mono ?_
        rintro e w2 ⟨rfl, rfl⟩
        rw [HI1.out]
        go_wp2_with fail
        refine (l07Cost_any _ _ _ _ xs q1 q (h.on hco.below) hqn1 hqn HO.out).mono ?_
        rintro e w3 ⟨rfl, hb3⟩
        have hcD := hco.on hb3
        go_wp2_with (at_builtin; refine Coll.push Try.underlying38 int64_info rfl (by decide) hcD rfl (by rw [List.length_map]; omega) rfl _ _ rfl rfl rfl ?_; intro v1 w7 hc7 hg7)
        go_roundw
        case rel => exact ⟨k + 1, acc ++ [costAt xs q1 q], by omega, by go_num, by simp; omega, by simpa using hc7, HN.out⟩
        case measure => simp [intOf]; omega
    · have e : (psOf s t).drop k = [] := List.drop_eq_nil_of_le (by unfold psOf; rw [List.length_map, by_len]; omega)
      have H2 : Hid (acc = costsGo xs none (psOf s t)) := by
        unfold Hid
        rw [← HG, e]
        cases lastP (psOf s t) k <;> simp [costsGo]
      clear HG e
      go_wp2
      go_ret
      exact ⟨_, rfl, by rw [← H2.out]; exact hco⟩
end Go.Proofs.Ytcgjgelapjdihaa
