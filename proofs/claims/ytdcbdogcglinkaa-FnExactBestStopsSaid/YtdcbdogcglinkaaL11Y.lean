/-
  BestStops: what it returns by the program.
-/
import Derived.Test.YtdcbdogcglinkaaL11X
namespace Go.Proofs.Ytdcbdogcglinkaa
set_option maxRecDepth 100000
open Go.RowKit

set_option maxHeartbeats 1000000 in
theorem BestStops_I1 (w : World) (A : Option Addr) (n c : Nat) (ss : List ByteArray) (h : Sl Value.string w A n ss) (hu : ∀ s ∈ ss, (s.size : Int) ≤ 1048576) (h0 : rowsC ss = 0) :
    Calls Try.prog 15 #[.slice A n c, .int .i64 1] w fun e w' => ∃ v, e = .returned (.tuple #[v, .int .i64 (bestStops ss 1).2.1, .int .i64 (bestStops ss 1).2.2]) ∧ Coll w w' 2 v ((bestStops ss 1).1.map (Value.int .i64)) := by
  have hn := h.max
  replace hu := hide hu
  have hin : inB 1 0 2 = true := by decide
  have HR := hide (bestStops_ok h0 hin)
  obtain ⟨q1, q2, q3⟩ := rowsC_ok h0
  rw [h.len] at q1
  have HS := hide q2
  replace h0 := hide h0
  have hE := LL.empty (Below.refl w.heap.size w)
  clear q2 q3
  go_enter Try.func15, Try.ntmps15
  go_wp2_with (first
    | (go_at_call 41; refine (rowsCode_any _ _ _ _ ss h hu.out).mono ?_; rintro e w2 ⟨rfl, rfl⟩; rw [h0.out])
    | (go_at_call 42; refine (between_any _ _ _ _).mono ?_; rintro e w1 ⟨rfl, rfl⟩))
  go_loopw [8, 9] (fun v i wr => ∃ (k : Nat) (vals : List Value) (ls : List (List Int)), 1 ≤ k ∧ k ≤ 31 ∧ i = .int .i64 k ∧ LL w wr v vals ls ∧ ls ++ restW 0 [] k = wl 1 [] 1) (fun _ i _ => 31 - (intOf i).toNat)
  case atStart => exact ⟨1, [], [], Nat.le_refl _, by decide, rfl, hE, rfl⟩
  case round =>
    clear hE
    obtain ⟨k, vals, ls, hk1, hk, rfl, hL, hW⟩ := hrel
    have hb := hL.coll.below
    by_cases hlt : (k : Int) ≤ 30
    · rw [restW_step (by omega)] at hW
      have hln := congrArg List.length hW
      have hfew := wl_few 1 (by decide)
      rw [List.length_append] at hln
      have hvl := hL.len
      have HW : Hid ((ls ++ [[(k : Int)]]) ++ restW 0 [] (k + 1) = wl 1 [] 1) := by unfold Hid; rw [← hW]; simp [wl]
      have hlit := own_lit wr hb [(k : Int)] (by simp)
      simp only [List.map_cons, List.map_nil, List.length_cons, List.length_nil] at hlit
      have HL := hide (hL.on ((Below.refl _ _).alloc (Nat.le_refl _) (.cells #[.int .i64 (k : Int)] 2)))
      have HLI := hide hlit
      clear hW hlit
      go_wp2_with (at_builtin; refine Coll.push_at Try.underlying54 ints_info rfl (by decide) (hL.coll.lay _) rfl (by omega) (g := wr.heap.size + 1) (by simp) rfl _ _ rfl rfl rfl ?_; intro v1 w1 hc1 hg1)
      have HG := hide (HL.out.grow HLI.out hc1 hg1)
      clear hc1 hg1 hL
      refine wp_loop_rounds 1 ?_
      rw [rounds_succ]
      go_wp2
      go_roundw
      case rel => exact ⟨k + 1, _, _, by omega, by omega, by go_num, HG.out, HW.out⟩
      case measure => simp [intOf]; omega
    · rw [restW_end (by omega), List.append_nil] at hW
      have HLS : Hid (ls = wl 1 [] 1) := hW
      clear hW hin
      have HB := hide hL.coll.below
      obtain ⟨A8, c8, rfl, -, -, hrd⟩ := hL.coll.form
      have hll := hL.len
      have hlen : vals.length ≤ 500 := by rw [hll, HLS.out]; exact wl_few 1 (by decide)
      have hnil : OwnI w (wr.alloc (.cells #[] 2)) (.slice (some ⟨wr.heap.size, 0, none⟩) 0 0) [] := by simpa using own_lit wr HB.out [] (by simp)
      have hL2 := hL.on ((Below.refl _ _).alloc (Nat.le_refl _) (.cells #[] 2))
      have HLL0 := hide hll
      clear hL hrd hll
      go_wp2
      have hll := HLL0.out
      have hnv : vals.length = vals.length := rfl
      have HLL := hide hll
      have HNV := hide hnv
      clear hll hnv
      go_loopw [11, 12, 59] (fun vb lv i wr => ∃ (k : Nat) (st : Option (List Int × Nat)), k ≤ vals.length ∧ i = .int .i64 k ∧ lv = .int .i64 (leastV st) ∧ OwnI w wr vb (bestL st) ∧ LL w wr (.slice A8 vals.length c8) vals ls ∧ (ls.drop k).foldl (upd ss) st = bestR ss 1) (fun _ _ i _ => vals.length - (intOf i).toNat)
      case atStart => exact ⟨0, none, Nat.zero_le _, rfl, rfl, hnil, hL2, by rw [HLS.out]; rfl⟩
      case round =>
        clear hnil hL2 HB
        obtain ⟨k, st, hk, rfl, rfl, hob, hL, hf⟩ := hrel
        have hb := hL.coll.below
        by_cases hlt : k < vals.length
        · have hltd : decide ((k : Int) < (vals.length : Int)) = true := by rw [decide_eq_true_eq]; omega
          obtain ⟨A9, c9, hv9, -, -, hrd⟩ := hL.coll.form
          injection hv9 with e1 e2 e3
          subst e1
          subst e3
          clear e2
          obtain ⟨u, hu9⟩ : ∃ u, vals[k]? = some u := ⟨_, List.getElem?_eq_getElem (by rw [HNV.out]; exact hlt)⟩
          obtain ⟨l, hl9⟩ : ∃ l, ls[k]? = some l := ⟨_, List.getElem?_eq_getElem (by rw [← HLL.out, HNV.out]; exact hlt)⟩
          have hol := hL.own k u l hu9 hl9
          obtain ⟨b8, o8, hA8, hb8, hcell⟩ := hrd k u hu9
          cases hA8
          try simp only [Nat.zero_add] at hcell
          obtain ⟨Au, cu, rfl, -, -, -⟩ := own_rd hol
          have hsl := Sl.of_own hol
          have hlok := wl_ok 1 [] 1 (Nat.le_refl _) (by simp) l (by rw [← HLS.out]; exact List.mem_of_getElem? hl9)
          have hpm := pageM_le hlok.1 HS.out
          rw [h.len] at hpm
          rw [drop_get hl9, List.foldl_cons] at hf
          have HOL := hide hol
          have HOB := hide hob
          have HL := hide hL
          have hA2 := h.on hb
          have HLO := hide hlok.1
          obtain ⟨P, hP⟩ : ∃ P, pageM l ss = P := ⟨_, rfl⟩
          have HP := hide hP
          obtain ⟨q, hq⟩ : ∃ q, leastV st = q := ⟨_, rfl⟩
          rw [hP] at hpm
          try rw [hq]
          clear hol hob hL hrd hu9 hl9 hlok
          go_wp2_with fail
          refine (pageMoves_any _ _ _ _ l _ _ _ ss hsl HLO.out hA2 q1 HS.out).mono ?_
          rintro e w2 ⟨rfl, hb2⟩
          have HL2 := hide (HL.out.on hb2)
          rw [hP]
          clear hP
          by_cases h1 : q < 0
          · have hU := upd_yes (ss := ss) (st := st) (l := l) (.inl (by rw [hq]; exact h1))
            rw [hU, HP.out] at hf
            have HF := hide hf
            have HO := hide (own_below HOL.out hb2)
            clear hf hU hq
            go_wp2
            go_roundw
            case rel => exact ⟨k + 1, some (l, P), by omega, by go_num, rfl, HO.out, HL2.out, HF.out⟩
            case measure => simp [intOf]; omega
          · by_cases h2 : (P : Int) < q
            · have hU := upd_yes (ss := ss) (st := st) (l := l) (.inr (by rw [hq, HP.out]; exact h2))
              rw [hU, HP.out] at hf
              have HF := hide hf
              have HO := hide (own_below HOL.out hb2)
              clear hf hU hq
              go_wp2
              go_roundw
              case rel => exact ⟨k + 1, some (l, P), by omega, by go_num, rfl, HO.out, HL2.out, HF.out⟩
              case measure => simp [intOf]; omega
            · have hU := upd_no (ss := ss) (st := st) (l := l) (by rw [hq]; exact h1) (by rw [hq, HP.out]; exact h2)
              rw [hU] at hf
              have HF := hide hf
              have HO := hide (own_below HOB.out hb2)
              have HQ := hide hq
              clear hf hU hq
              go_wp2
              go_roundw
              case rel => exact ⟨k + 1, st, by omega, by go_num, by rw [HQ.out], HO.out, HL2.out, HF.out⟩
              case measure => simp [intOf]; omega
        · have HF : Hid (st = bestR ss 1) := by
            have : ls.drop k = [] := List.drop_eq_nil_of_le (by rw [← HLL.out, HNV.out]; omega)
            rw [this] at hf
            exact hf
          have HC : Hid (Coll w wr 2 u11 ((bestL st).map (Value.int .i64))) := ⟨by rw [List.length_map]; exact hob, hb⟩
          clear hf hob hL
          go_wp2
          go_ret3
          exact ⟨_, by rw [HR.out, ← HF.out]; rfl, by rw [HR.out, ← HF.out]; exact HC.out⟩
set_option maxHeartbeats 1000000 in
theorem BestStops_I0 (w : World) (A : Option Addr) (n c : Nat) (ss : List ByteArray) (h : Sl Value.string w A n ss) (hu : ∀ s ∈ ss, (s.size : Int) ≤ 1048576) (h0 : rowsC ss = 0) :
    Calls Try.prog 15 #[.slice A n c, .int .i64 0] w fun e w' => ∃ v, e = .returned (.tuple #[v, .int .i64 (bestStops ss 0).2.1, .int .i64 (bestStops ss 0).2.2]) ∧ Coll w w' 2 v ((bestStops ss 0).1.map (Value.int .i64)) := by
  have hn := h.max
  replace hu := hide hu
  have hin : inB 0 0 2 = true := by decide
  have HR := hide (bestStops_ok h0 hin)
  obtain ⟨q1, q2, q3⟩ := rowsC_ok h0
  rw [h.len] at q1
  have HS := hide q2
  replace h0 := hide h0
  have hE := LL.empty (Below.refl w.heap.size w)
  clear q2 q3
  go_enter Try.func15, Try.ntmps15
  go_wp2_with (first
    | (go_at_call 41; refine (rowsCode_any _ _ _ _ ss h hu.out).mono ?_; rintro e w2 ⟨rfl, rfl⟩; rw [h0.out])
    | (go_at_call 42; refine (between_any _ _ _ _).mono ?_; rintro e w1 ⟨rfl, rfl⟩))
  go_loopw [8, 9] (fun v i wr => ∃ k : Nat, 1 ≤ k ∧ k ≤ 31 ∧ i = .int .i64 k ∧ LL w wr v [] []) (fun _ i _ => 31 - (intOf i).toNat)
  case atStart => exact ⟨1, Nat.le_refl _, by decide, rfl, hE⟩
  case round =>
    clear hE
    obtain ⟨k, hk1, hk, rfl, hL⟩ := hrel
    have hb := hL.coll.below
    by_cases hlt : (k : Int) ≤ 30
    · go_wp2
      refine wp_loop_rounds 1 ?_
      rw [rounds_succ]
      go_wp2
      go_roundw
      case rel => exact ⟨k + 1, by omega, by omega, by go_num, hL⟩
      case measure => simp [intOf]; omega
    · obtain ⟨wq, rfl⟩ : ∃ wo : World, wo = wr := ⟨_, rfl⟩
      have hlit := own_lit wq hb ([] : List Int) (by simp)
      simp only [List.map_nil, List.length_nil] at hlit
      have hb2 : Below w.heap.size w (wq.alloc (.cells #[] 2)) := hb.alloc hb.size _
      have hL3 : LL w ((wq.alloc (.cells #[] 2)).alloc (.cells #[.slice (some ⟨wq.heap.size, 0, none⟩) 0 0] 24)) (.slice (some ⟨(wq.alloc (.cells #[] 2)).heap.size, 0, none⟩) 1 1) [.slice (some ⟨wq.heap.size, 0, none⟩) 0 0] [[]] := by
        refine ⟨⟨World.ownsRow_lit (size := 1) _ #[.slice (some ⟨wq.heap.size, 0, none⟩) 0 0] 1 hb2.size (by decide) rfl, hb2.alloc hb2.size _⟩, rfl, fun j u l hu hl => ?_⟩
        match j, hu, hl with
        | 0, hu, hl =>
          simp at hu hl
          subst hu; subst hl
          exact own_below hlit ((Below.refl _ _).alloc (Nat.le_refl _) _)
      rw [show (wq.alloc (.cells #[] 2)).heap.size = wq.heap.size + 1 from by simp] at hL3
      have HL3 := hide hL3
      have hB3 := hL3.coll.below
      have hnil : OwnI w (((wq.alloc (.cells #[] 2)).alloc (.cells #[.slice (some ⟨wq.heap.size, 0, none⟩) 0 0] 24)).alloc (.cells #[] 2)) (.slice (some ⟨wq.heap.size + 1 + 1, 0, none⟩) 0 0) [] := by simpa using own_lit _ hB3 [] (by simp)
      have hL2 := hL3.on ((Below.refl _ _).alloc (Nat.le_refl _) (.cells #[] 2))
      obtain ⟨vals, ls, hL4, hnv0, hls0⟩ : ∃ vals ls, LL w (((wq.alloc (.cells #[] 2)).alloc (.cells #[.slice (some ⟨wq.heap.size, 0, none⟩) 0 0] 24)).alloc (.cells #[] 2)) (.slice (some ⟨wq.heap.size + 1, 0, none⟩) 1 1) vals ls ∧ vals.length = 1 ∧ ls = wl 0 [] 1 := ⟨_, _, hL2, rfl, rfl⟩
      have HNV0 := hide hnv0
      have HLS := hide hls0
      have HLL0 := hide hL4.len
      have HNL := hide hnil
      have HL2 := hide hL4
      have HB := HL2
      clear hL hlit HL3 hL3 hb hb2 hnil hL2 hL4 hnv0 hls0 hB3
      go_wp2
      have hnil := HNL.out
      have hL2 := HL2.out
      have hll := HLL0.out
      have hnv := HNV0.out
      have HLL := hide hll
      have HNV := hide hnv
      clear hll hnv
      go_loopw [11, 12, 59] (fun vb lv i wr => ∃ (k : Nat) (st : Option (List Int × Nat)), k ≤ 1 ∧ i = .int .i64 k ∧ lv = .int .i64 (leastV st) ∧ OwnI w wr vb (bestL st) ∧ LL w wr (.slice (some ⟨wq.heap.size + 1, 0, none⟩) 1 1) vals ls ∧ (ls.drop k).foldl (upd ss) st = bestR ss 0) (fun _ _ i _ => 1 - (intOf i).toNat)
      case atStart => exact ⟨0, none, Nat.zero_le _, rfl, rfl, hnil, hL2, by rw [HLS.out]; rfl⟩
      case round =>
        clear hnil hL2 HB
        obtain ⟨k, st, hk, rfl, rfl, hob, hL, hf⟩ := hrel
        have hb := hL.coll.below
        by_cases hlt : k < 1
        · have hltd : decide ((k : Int) < (1 : Int)) = true := by rw [decide_eq_true_eq]; omega
          obtain ⟨A9, c9, hv9, -, -, hrd⟩ := hL.coll.form
          injection hv9 with e1 e2 e3
          subst e1
          subst e3
          clear e2
          obtain ⟨u, hu9⟩ : ∃ u, vals[k]? = some u := ⟨_, List.getElem?_eq_getElem (by rw [HNV.out]; exact hlt)⟩
          obtain ⟨l, hl9⟩ : ∃ l, ls[k]? = some l := ⟨_, List.getElem?_eq_getElem (by rw [← HLL.out, HNV.out]; exact hlt)⟩
          have hol := hL.own k u l hu9 hl9
          obtain ⟨b8, o8, hA8, hb8, hcell⟩ := hrd k u hu9
          cases hA8
          try simp only [Nat.zero_add] at hcell
          obtain ⟨Au, cu, rfl, -, -, -⟩ := own_rd hol
          have hsl := Sl.of_own hol
          have hlok := wl_ok 0 [] 1 (Nat.le_refl _) (by simp) l (by rw [← HLS.out]; exact List.mem_of_getElem? hl9)
          have hpm := pageM_le hlok.1 HS.out
          rw [h.len] at hpm
          rw [drop_get hl9, List.foldl_cons] at hf
          have HOL := hide hol
          have HOB := hide hob
          have HL := hide hL
          have hA2 := h.on hb
          have HLO := hide hlok.1
          obtain ⟨P, hP⟩ : ∃ P, pageM l ss = P := ⟨_, rfl⟩
          have HP := hide hP
          obtain ⟨q, hq⟩ : ∃ q, leastV st = q := ⟨_, rfl⟩
          rw [hP] at hpm
          try rw [hq]
          clear hol hob hL hrd hu9 hl9 hlok
          go_wp2_with fail
          refine (pageMoves_any _ _ _ _ l _ _ _ ss hsl HLO.out hA2 q1 HS.out).mono ?_
          rintro e w2 ⟨rfl, hb2⟩
          have HL2 := hide (HL.out.on hb2)
          rw [hP]
          clear hP
          by_cases h1 : q < 0
          · have hU := upd_yes (ss := ss) (st := st) (l := l) (.inl (by rw [hq]; exact h1))
            rw [hU, HP.out] at hf
            have HF := hide hf
            have HO := hide (own_below HOL.out hb2)
            clear hf hU hq
            go_wp2
            go_roundw
            case rel => exact ⟨k + 1, some (l, P), by omega, by go_num, rfl, HO.out, HL2.out, HF.out⟩
            case measure => simp [intOf]; omega
          · by_cases h2 : (P : Int) < q
            · have hU := upd_yes (ss := ss) (st := st) (l := l) (.inr (by rw [hq, HP.out]; exact h2))
              rw [hU, HP.out] at hf
              have HF := hide hf
              have HO := hide (own_below HOL.out hb2)
              clear hf hU hq
              go_wp2
              go_roundw
              case rel => exact ⟨k + 1, some (l, P), by omega, by go_num, rfl, HO.out, HL2.out, HF.out⟩
              case measure => simp [intOf]; omega
            · have hU := upd_no (ss := ss) (st := st) (l := l) (by rw [hq]; exact h1) (by rw [hq, HP.out]; exact h2)
              rw [hU] at hf
              have HF := hide hf
              have HO := hide (own_below HOB.out hb2)
              have HQ := hide hq
              clear hf hU hq
              go_wp2
              go_roundw
              case rel => exact ⟨k + 1, st, by omega, by go_num, by rw [HQ.out], HO.out, HL2.out, HF.out⟩
              case measure => simp [intOf]; omega
        · have HF : Hid (st = bestR ss 0) := by
            have : ls.drop k = [] := List.drop_eq_nil_of_le (by rw [← HLL.out, HNV.out]; omega)
            rw [this] at hf
            exact hf
          have HC : Hid (Coll w wr 2 u11 ((bestL st).map (Value.int .i64))) := ⟨by rw [List.length_map]; exact hob, hb⟩
          clear hf hob hL
          go_wp2
          go_ret3
          exact ⟨_, by rw [HR.out, ← HF.out]; rfl, by rw [HR.out, ← HF.out]; exact HC.out⟩
set_option maxHeartbeats 1000000 in
theorem BestStops_I2 (w : World) (A : Option Addr) (n c : Nat) (ss : List ByteArray) (h : Sl Value.string w A n ss) (hu : ∀ s ∈ ss, (s.size : Int) ≤ 1048576) (h0 : rowsC ss = 0) :
    Calls Try.prog 15 #[.slice A n c, .int .i64 2] w fun e w' => ∃ v, e = .returned (.tuple #[v, .int .i64 (bestStops ss 2).2.1, .int .i64 (bestStops ss 2).2.2]) ∧ Coll w w' 2 v ((bestStops ss 2).1.map (Value.int .i64)) := by
  have hn := h.max
  replace hu := hide hu
  have hin : inB 2 0 2 = true := by decide
  have HR := hide (bestStops_ok h0 hin)
  obtain ⟨q1, q2, q3⟩ := rowsC_ok h0
  rw [h.len] at q1
  have HS := hide q2
  replace h0 := hide h0
  have hE := LL.empty (Below.refl w.heap.size w)
  clear q2 q3
  go_enter Try.func15, Try.ntmps15
  go_wp2_with (first
    | (go_at_call 41; refine (rowsCode_any _ _ _ _ ss h hu.out).mono ?_; rintro e w2 ⟨rfl, rfl⟩; rw [h0.out])
    | (go_at_call 42; refine (between_any _ _ _ _).mono ?_; rintro e w1 ⟨rfl, rfl⟩))
  go_loopw [8, 9] (fun v i wr => ∃ (k : Nat) (vals : List Value) (ls : List (List Int)), 1 ≤ k ∧ k ≤ 31 ∧ i = .int .i64 k ∧ LL w wr v vals ls ∧ ls ++ restW 1 [] k = wl 2 [] 1) (fun _ i _ => 31 - (intOf i).toNat)
  case atStart => exact ⟨1, [], [], Nat.le_refl _, by decide, rfl, hE, rfl⟩
  case round =>
    clear hE
    obtain ⟨k, vals, ls, hk1, hk, rfl, hL, hW⟩ := hrel
    have hb := hL.coll.below
    by_cases hlt : (k : Int) ≤ 30
    · rw [restW_step (by omega), List.nil_append, wl_succ] at hW
      have HW0 := hide hW
      clear hW
      go_wp2
      go_loopw [8, 10] (fun v i wr => ∃ (d : Nat) (vals : List Value) (ls : List (List Int)), k + 1 ≤ d ∧ d ≤ 31 ∧ i = .int .i64 d ∧ LL w wr v vals ls ∧ ls ++ (restW 0 [(k : Int)] d ++ restW 1 [] (k + 1)) = wl 2 [] 1) (fun _ i _ => 31 - (intOf i).toNat)
      case atStart => exact ⟨k + 1, vals, ls, Nat.le_refl _, by omega, by go_num, hL, HW0.out⟩
      case round =>
        clear hL HW0 hb
        obtain ⟨d, vals, ls, hd1, hd, rfl, hL, hW⟩ := hrel
        have hb := hL.coll.below
        by_cases hlt2 : (d : Int) ≤ 30
        · rw [restW_step (c := d) (by omega)] at hW
          have hln := congrArg List.length hW
          have hfew := wl_few 2 (by decide)
          rw [List.length_append] at hln
          have hvl := hL.len
          have HW : Hid ((ls ++ [[(k : Int), (d : Int)]]) ++ (restW 0 [(k : Int)] (d + 1) ++ restW 1 [] (k + 1)) = wl 2 [] 1) := by unfold Hid; rw [← hW]; simp [wl]
          have hlit := own_lit wr hb [(k : Int), (d : Int)] (by simp)
          simp only [List.map_cons, List.map_nil, List.length_cons, List.length_nil] at hlit
          have HL := hide (hL.on ((Below.refl _ _).alloc (Nat.le_refl _) (.cells #[.int .i64 (k : Int), .int .i64 (d : Int)] 2)))
          have HLI := hide hlit
          clear hW hlit
          go_wp2_with (at_builtin; refine Coll.push_at Try.underlying54 ints_info rfl (by decide) (hL.coll.lay _) rfl (by omega) (g := wr.heap.size + 1) (by simp) rfl _ _ rfl rfl rfl ?_; intro v1 w1 hc1 hg1)
          have HG := hide (HL.out.grow HLI.out hc1 hg1)
          clear hc1 hg1 hL
          go_roundw
          case rel => exact ⟨d + 1, _, _, by omega, by omega, by go_num, HG.out, HW.out⟩
          case measure => simp [intOf]; omega
        · rw [restW_end (c := d) (by omega), List.nil_append] at hW
          have HW := hide hW
          clear hW
          go_wp2
          go_roundw
          case rel => exact ⟨k + 1, _, _, by omega, by omega, by go_num, hL, HW.out⟩
          case measure => simp [intOf]; omega
    · rw [restW_end (by omega), List.append_nil] at hW
      have HLS : Hid (ls = wl 2 [] 1) := hW
      clear hW hin
      have HB := hide hL.coll.below
      obtain ⟨A8, c8, rfl, -, -, hrd⟩ := hL.coll.form
      have hll := hL.len
      have hlen : vals.length ≤ 500 := by rw [hll, HLS.out]; exact wl_few 2 (by decide)
      have hnil : OwnI w (wr.alloc (.cells #[] 2)) (.slice (some ⟨wr.heap.size, 0, none⟩) 0 0) [] := by simpa using own_lit wr HB.out [] (by simp)
      have hL2 := hL.on ((Below.refl _ _).alloc (Nat.le_refl _) (.cells #[] 2))
      have HLL0 := hide hll
      clear hL hrd hll
      go_wp2
      have hll := HLL0.out
      have hnv : vals.length = vals.length := rfl
      have HLL := hide hll
      have HNV := hide hnv
      clear hll hnv
      go_loopw [11, 12, 59] (fun vb lv i wr => ∃ (k : Nat) (st : Option (List Int × Nat)), k ≤ vals.length ∧ i = .int .i64 k ∧ lv = .int .i64 (leastV st) ∧ OwnI w wr vb (bestL st) ∧ LL w wr (.slice A8 vals.length c8) vals ls ∧ (ls.drop k).foldl (upd ss) st = bestR ss 2) (fun _ _ i _ => vals.length - (intOf i).toNat)
      case atStart => exact ⟨0, none, Nat.zero_le _, rfl, rfl, hnil, hL2, by rw [HLS.out]; rfl⟩
      case round =>
        clear hnil hL2 HB
        obtain ⟨k, st, hk, rfl, rfl, hob, hL, hf⟩ := hrel
        have hb := hL.coll.below
        by_cases hlt : k < vals.length
        · have hltd : decide ((k : Int) < (vals.length : Int)) = true := by rw [decide_eq_true_eq]; omega
          obtain ⟨A9, c9, hv9, -, -, hrd⟩ := hL.coll.form
          injection hv9 with e1 e2 e3
          subst e1
          subst e3
          clear e2
          obtain ⟨u, hu9⟩ : ∃ u, vals[k]? = some u := ⟨_, List.getElem?_eq_getElem (by rw [HNV.out]; exact hlt)⟩
          obtain ⟨l, hl9⟩ : ∃ l, ls[k]? = some l := ⟨_, List.getElem?_eq_getElem (by rw [← HLL.out, HNV.out]; exact hlt)⟩
          have hol := hL.own k u l hu9 hl9
          obtain ⟨b8, o8, hA8, hb8, hcell⟩ := hrd k u hu9
          cases hA8
          try simp only [Nat.zero_add] at hcell
          obtain ⟨Au, cu, rfl, -, -, -⟩ := own_rd hol
          have hsl := Sl.of_own hol
          have hlok := wl_ok 2 [] 1 (Nat.le_refl _) (by simp) l (by rw [← HLS.out]; exact List.mem_of_getElem? hl9)
          have hpm := pageM_le hlok.1 HS.out
          rw [h.len] at hpm
          rw [drop_get hl9, List.foldl_cons] at hf
          have HOL := hide hol
          have HOB := hide hob
          have HL := hide hL
          have hA2 := h.on hb
          have HLO := hide hlok.1
          obtain ⟨P, hP⟩ : ∃ P, pageM l ss = P := ⟨_, rfl⟩
          have HP := hide hP
          obtain ⟨q, hq⟩ : ∃ q, leastV st = q := ⟨_, rfl⟩
          rw [hP] at hpm
          try rw [hq]
          clear hol hob hL hrd hu9 hl9 hlok
          go_wp2_with fail
          refine (pageMoves_any _ _ _ _ l _ _ _ ss hsl HLO.out hA2 q1 HS.out).mono ?_
          rintro e w2 ⟨rfl, hb2⟩
          have HL2 := hide (HL.out.on hb2)
          rw [hP]
          clear hP
          by_cases h1 : q < 0
          · have hU := upd_yes (ss := ss) (st := st) (l := l) (.inl (by rw [hq]; exact h1))
            rw [hU, HP.out] at hf
            have HF := hide hf
            have HO := hide (own_below HOL.out hb2)
            clear hf hU hq
            go_wp2
            go_roundw
            case rel => exact ⟨k + 1, some (l, P), by omega, by go_num, rfl, HO.out, HL2.out, HF.out⟩
            case measure => simp [intOf]; omega
          · by_cases h2 : (P : Int) < q
            · have hU := upd_yes (ss := ss) (st := st) (l := l) (.inr (by rw [hq, HP.out]; exact h2))
              rw [hU, HP.out] at hf
              have HF := hide hf
              have HO := hide (own_below HOL.out hb2)
              clear hf hU hq
              go_wp2
              go_roundw
              case rel => exact ⟨k + 1, some (l, P), by omega, by go_num, rfl, HO.out, HL2.out, HF.out⟩
              case measure => simp [intOf]; omega
            · have hU := upd_no (ss := ss) (st := st) (l := l) (by rw [hq]; exact h1) (by rw [hq, HP.out]; exact h2)
              rw [hU] at hf
              have HF := hide hf
              have HO := hide (own_below HOB.out hb2)
              have HQ := hide hq
              clear hf hU hq
              go_wp2
              go_roundw
              case rel => exact ⟨k + 1, st, by omega, by go_num, by rw [HQ.out], HO.out, HL2.out, HF.out⟩
              case measure => simp [intOf]; omega
        · have HF : Hid (st = bestR ss 2) := by
            have : ls.drop k = [] := List.drop_eq_nil_of_le (by rw [← HLL.out, HNV.out]; omega)
            rw [this] at hf
            exact hf
          have HC : Hid (Coll w wr 2 u11 ((bestL st).map (Value.int .i64))) := ⟨by rw [List.length_map]; exact hob, hb⟩
          clear hf hob hL
          go_wp2
          go_ret3
          exact ⟨_, by rw [HR.out, ← HF.out]; rfl, by rw [HR.out, ← HF.out]; exact HC.out⟩

theorem BestStops_I (w : World) (A : Option Addr) (n c : Nat) (ss : List ByteArray) (many : Int) (h : Sl Value.string w A n ss) (hu : ∀ s ∈ ss, (s.size : Int) ≤ 1048576) :
    Calls Try.prog 15 #[.slice A n c, .int .i64 many] w fun e w' => ∃ v, e = .returned (.tuple #[v, .int .i64 (bestStops ss many).2.1, .int .i64 (bestStops ss many).2.2]) ∧ Coll w w' 2 v ((bestStops ss many).1.map (Value.int .i64)) := by
  have hn := h.max
  replace hu := hide hu
  have hnil : Coll w w 2 (.slice none 0 0) [] := Coll.nil_ (Below.refl _ _)
  by_cases h0 : rowsC ss = 0
  · by_cases hm : inB many 0 2 = true
    · have hmb := inB_iff.1 hm
      rcases (by omega : many = 0 ∨ many = 1 ∨ many = 2) with rfl | rfl | rfl
      · exact BestStops_I0 w A n c ss h hu.out h0
      · exact BestStops_I1 w A n c ss h hu.out h0
      · exact BestStops_I2 w A n c ss h hu.out h0
    · have HR := hide (bestStops_many h0 (by simpa using hm))
      replace hm : inB many 0 2 = false := by simpa using hm
      replace h0 := hide h0
      go_enter Try.func15, Try.ntmps15
      go_wp2_with (first
        | (go_at_call 41; refine (rowsCode_any _ _ _ _ ss h hu.out).mono ?_; rintro e w2 ⟨rfl, rfl⟩; rw [h0.out])
        | (go_at_call 42; refine (between_any _ _ _ _).mono ?_; rintro e w1 ⟨rfl, rfl⟩))
      go_ret3
      exact ⟨_, by rw [HR.out]; rfl, by rw [HR.out]; exact hnil⟩
  · rcases rowsC_bad h0 with ⟨k0, k1⟩ | ⟨k0, k1⟩
    all_goals
      have HR := hide (bestStops_bad (many := many) k0 (by decide))
      replace k0 := hide k0
      clear h0 k1
      go_enter Try.func15, Try.ntmps15
      go_wp2_with (go_at_call 41; refine (rowsCode_any _ _ _ _ ss h hu.out).mono ?_; rintro e w2 ⟨rfl, rfl⟩; rw [k0.out])
      go_ret3
      exact ⟨_, by rw [HR.out]; rfl, by rw [HR.out]; exact hnil⟩
end Go.Proofs.Ytdcbdogcglinkaa
