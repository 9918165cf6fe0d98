/-
  The widths of the columns of a table; ColumnWidths.
-/
import Derived.Test.YtanpmjbephelaaaL08I
import Derived.Deep.RegionLaw
namespace Go.Proofs.Ytanpmjbephelaaa
set_option maxRecDepth 100000
open Go.RowKit

/-- Widths, raised to a row's. -/
def wmax (ws : List Int) (r : List ByteArray) : List Int := List.zipWith (fun a (s : ByteArray) => max a (s.size : Int)) ws r
def widthsOf (rows : List (List ByteArray)) : List Int := rows.foldl wmax (List.replicate (wid0 rows) 0)
theorem wmax_len {ws : List Int} {r : List ByteArray} (h : r.length = ws.length) : (wmax ws r).length = ws.length := by simp [wmax, h]
theorem wmax_get {ws : List Int} {r : List ByteArray} {j : Nat} {a : Int} {s : ByteArray} (ha : ws[j]? = some a) (hs : r[j]? = some s) : (wmax ws r)[j]? = some (max a (s.size : Int)) := by
  unfold wmax
  rw [List.getElem?_zipWith, ha, hs]
theorem wmax_step {ws : List Int} {r : List ByteArray} {j : Nat} {a : Int} {s : ByteArray} (h : r.length = ws.length) (ha : ws[j]? = some a) (hs : r[j]? = some s) :
    ((wmax ws r).take j ++ ws.drop j).set j (max a (s.size : Int)) = (wmax ws r).take (j + 1) ++ ws.drop (j + 1) := by
  have hj := (List.getElem?_eq_some_iff.1 ha).1
  have hl := wmax_len h
  have hg := wmax_get ha hs
  obtain ⟨e1, e2⟩ := List.getElem?_eq_some_iff.1 hg
  rw [List.set_append_right _ _ (by rw [List.length_take]; omega), List.length_take, Nat.min_eq_left (by omega), Nat.sub_self, drop_get ha, List.set_cons_zero, List.take_succ_eq_append_getElem e1, e2]
  simp
theorem wmax_at {ws : List Int} {r : List ByteArray} {j : Nat} {a : Int} (h : r.length = ws.length) (ha : ws[j]? = some a) : ((wmax ws r).take j ++ ws.drop j)[j]? = some a := by
  have hj := (List.getElem?_eq_some_iff.1 ha).1
  have hl := wmax_len h
  rw [List.getElem?_append_right (by rw [List.length_take]; omega), List.length_take, Nat.min_eq_left (by omega), Nat.sub_self, List.getElem?_drop, Nat.add_zero, ha]
theorem wmax_end {ws : List Int} {r : List ByteArray} (h : r.length = ws.length) : (wmax ws r).take ws.length ++ ws.drop ws.length = wmax ws r := by
  rw [List.drop_eq_nil_of_le (Nat.le_refl _), List.append_nil, List.take_of_length_le (by rw [wmax_len h]; exact Nat.le_refl _)]
/-- Each width is at least what it was, and at least each cell of a row that was met. -/
theorem fold_ge {rows : List (List ByteArray)} : ∀ {ws : List Int}, (∀ r ∈ rows, r.length = ws.length) → (rows.foldl wmax ws).length = ws.length ∧ ∀ (j : Nat) (a : Int), ws[j]? = some a → ∃ z : Int, (rows.foldl wmax ws)[j]? = some z ∧ a ≤ z ∧ ∀ r ∈ rows, ∀ s : ByteArray, r[j]? = some s → (s.size : Int) ≤ z := by
  induction rows with
  | nil => intro ws _; exact ⟨rfl, fun j a ha => ⟨a, ha, Int.le_refl _, by simp⟩⟩
  | cons r rows ih =>
    intro ws h
    have hr := h r (List.mem_cons_self ..)
    have hl := wmax_len hr
    obtain ⟨h1, h2⟩ := ih (ws := wmax ws r) (fun r' hr' => by rw [hl]; exact h r' (List.mem_cons_of_mem _ hr'))
    refine ⟨by rw [List.foldl_cons, h1, hl], fun j a ha => ?_⟩
    have hj := (List.getElem?_eq_some_iff.1 ha).1
    obtain ⟨s, hs⟩ : ∃ s, r[j]? = some s := ⟨_, List.getElem?_eq_getElem (by rw [hr]; exact hj)⟩
    obtain ⟨z, hz1, hz2, hz3⟩ := h2 j _ (wmax_get ha hs)
    refine ⟨z, hz1, by omega, fun r' hr' s' hs' => ?_⟩
    rcases List.mem_cons.1 hr' with rfl | hr'
    · rw [hs] at hs'; cases hs'; omega
    · exact hz3 r' hr' s' hs'
theorem fold_le {M : Int} {rows : List (List ByteArray)} : ∀ {ws : List Int}, (∀ a ∈ ws, a ≤ M) → (∀ r ∈ rows, ∀ s ∈ r, (s.size : Int) ≤ M) → ∀ z ∈ rows.foldl wmax ws, z ≤ M := by
  induction rows with
  | nil => intro ws h _; exact h
  | cons r rows ih =>
    intro ws h hr
    refine ih (ws := wmax ws r) (fun a ha => ?_) (fun r' hr' => hr r' (List.mem_cons_of_mem _ hr'))
    unfold wmax at ha
    obtain ⟨j, hj, e⟩ := List.getElem_of_mem ha
    rw [List.getElem_zipWith] at e
    have h1 := h _ (List.getElem_mem (by rw [List.length_zipWith] at hj; omega : j < ws.length))
    have h2 := hr r (List.mem_cons_self ..) _ (List.getElem_mem (by rw [List.length_zipWith] at hj; omega : j < r.length))
    omega
theorem widths_facts {rows : List (List ByteArray)} (h : okTable rows = true) : (widthsOf rows).length = wid0 rows ∧ (∀ z ∈ widthsOf rows, z ≤ 30) ∧ ∀ r ∈ rows, ∀ (j : Nat) (s : ByteArray), r[j]? = some s → ∃ z : Int, (widthsOf rows)[j]? = some z ∧ (s.size : Int) ≤ z := by
  obtain ⟨_, _, h3, h4, h5⟩ := okTable_facts h
  have hg := fold_ge (rows := rows) (ws := List.replicate (wid0 rows) 0) (fun r hr => by rw [List.length_replicate]; exact (h5 r hr).1)
  refine ⟨by unfold widthsOf; rw [hg.1, List.length_replicate], fun z hz => fold_le (M := 30) (fun a ha => by rw [List.eq_of_mem_replicate ha]; decide) (fun r hr s hs => by have := (h5 r hr).2 s hs; omega) z hz, fun r hr j s hs => ?_⟩
  have hj := (List.getElem?_eq_some_iff.1 hs).1
  rw [(h5 r hr).1] at hj
  obtain ⟨z, hz1, _, hz3⟩ := hg.2 j 0 (by rw [List.getElem?_replicate, if_pos hj])
  exact ⟨z, hz1, hz3 r hr s hs⟩

set_option maxHeartbeats 3200000 in
theorem l08Widths_any (w : World) (A : Option Addr) (n c : Nat) (rows : List (List ByteArray)) (h : Tb w A n rows) (hok : okTable rows = true) :
    Calls Try.prog 86 #[.slice A n c] w fun e w' => ∃ v, e = .returned v ∧ Coll w w' 2 v ((widthsOf rows).map (Value.int .i64)) := by
  obtain ⟨k1, k2, k3, k4, k5⟩ := okTable_facts hok
  have hw30 := hide k5
  rw [h.len] at k1 k2
  obtain ⟨i0, hi, hz0, hz1, hz2⟩ := info_parts int64_info
  obtain ⟨b, o, l0, A0, c0, rfl, hbl, hx0, hc00, hs00⟩ := h.at_ (Below.refl _ _) (show 0 < n by omega)
  rw [Nat.add_zero] at hc00
  have hw0 := wid0_get hx0
  obtain ⟨m, hm⟩ : ∃ m, l0.length = m := ⟨_, rfl⟩
  have HW0 : Hid (wid0 rows = m) := by unfold Hid; rw [hw0, hm]
  rw [hw0, hm] at k3 k4
  rw [hm] at hc00
  have HX0 := hide hx0
  clear hx0 hw0 k5
  go_enter Try.func86, Try.ntmps86
  go_wp2_with (at_make; refine wpList_make_full _ rfl _ _ 23 rfl w.heap.size 2 i0 (.int .i64 0) 1 Try.underlying23 hi hz0 hz1 .i64 .i64 _ _ m rfl rfl rfl rfl (by rw [hz2]; omega) (by simp only [maxLen]; omega) (Nat.le_refl _) ?_; intro w1 hown1 hg1)
  have hb1 : Below w.heap.size w w1 := (Below.refl _ _).grown hg1 (Nat.le_refl _) (by simp)
  simp only [Value.cells, Nat.mul_one, toList_madeCells_one] at hown1
  have r0 := IRow.made hown1 hb1
  clear hown1 hg1 hb1 hc00 hs00 hm
  go_loopw [4] (fun i wr => ∃ (k : Nat) (ws : List Int), k ≤ n ∧ i = .int .i64 k ∧ IRow w wr 2 w.heap.size m ws ∧ (rows.drop k).foldl wmax ws = widthsOf rows) (fun i _ => n - (intOf i).toNat)
  case atStart => exact ⟨0, _, Nat.zero_le _, rfl, r0, by unfold widthsOf; rw [HW0.out]; rfl⟩
  case round =>
    clear r0
    obtain ⟨k, ws, hk, rfl, r1, HF⟩ := hrel
    by_cases hlt : k < n
    · obtain ⟨b', o', l, Ak, ck, hA, hbl', hx, hc0, hs0⟩ := h.at_ (Below.refl _ _) hlt
      obtain ⟨rfl, rfl⟩ : b = b' ∧ o = o' := by simpa using hA
      have hl : l.length = m := by rw [(hw30.out l (List.mem_of_getElem? hx)).1, HW0.out]
      have HSZ := hide (hw30.out l (List.mem_of_getElem? hx)).2
      rw [drop_get hx, List.foldl_cons] at HF
      have HF2 := hide HF
      have hwl := hide r1.len
      have HLM := hide hl
      rw [hl] at hc0 hs0
      replace r1 := hide r1
      clear hA hx HF hl hbl'
      go_wp2
      go_loopw [5] (fun j w5 => ∃ (q : Nat) (vs : List Int), q ≤ m ∧ j = .int .i64 q ∧ IRow w w5 2 w.heap.size m vs ∧ vs = (wmax ws l).take q ++ ws.drop q) (fun j _ => m - (intOf j).toNat)
      case atStart => exact ⟨0, ws, Nat.zero_le _, rfl, r1.out, by simp⟩
      case round =>
        clear r1
        obtain ⟨q, vs, hq, rfl, r1, HV⟩ := hrel
        have hb := r1.below
        have hck := (hb.cell (p := ⟨b, o + k, none⟩) hbl).trans hc0
        by_cases hlq : q < m
        · obtain ⟨b2, o2, p, rfl, hy, hcy⟩ := hs0.at_ hb hlq
          have hps := HSZ.out p (List.mem_of_getElem? hy)
          obtain ⟨a, ha⟩ : ∃ a, ws[q]? = some a := ⟨_, List.getElem?_eq_getElem (by rw [hwl.out]; exact hlq)⟩
          have hlw : l.length = ws.length := by rw [HLM.out, hwl.out]
          have hca := r1.cell (j := q) (x := a) (by rw [HV]; exact wmax_at hlw ha)
          have hfa := r1.open_ q
          have HV2 : Hid (vs.set q (max a (p.size : Int)) = (wmax ws l).take (q + 1) ++ ws.drop (q + 1)) := by unfold Hid; rw [HV]; exact wmax_step hlw ha hy
          have R2 := hide (r1.set q (max a (p.size : Int)))
          have hwp : IntKind.i64.wrap (p.size : Int) = (p.size : Int) := IntWalk.i64_in _ (by omega)
          have hq0 : (0 : Int) ≤ (q : Int) := by omega
          have hq1 : (q : Int) < (m : Int) := by omega
          have hk0 : (0 : Int) ≤ (k : Int) := by omega
          have hk1 : (k : Int) < (n : Int) := by omega
          clear HV ha hy hlw r1
          go_wp2
          go_region_law (go_simp; go_at_call 82; refine (l00Max_any _ _ _).mono ?_; rintro e w6 ⟨rfl, rfl⟩)
          all_goals
            go_wp2
            go_roundw
            case rel => exact ⟨q + 1, _, by omega, by go_num, R2.out.draw 1, HV2.out⟩
            case measure => simp [intOf]; omega
        · have hqm : q = m := by omega
          have HF3 : Hid ((rows.drop (k + 1)).foldl wmax vs = widthsOf rows) := by
            unfold Hid
            rw [HV, hqm, ← hwl.out, wmax_end (by rw [HLM.out, hwl.out])]; exact HF2.out
          replace hqm := hide hqm
          replace r1 := hide r1
          clear HV
          go_wp2
          go_roundw
          case rel => exact ⟨k + 1, vs, by omega, by go_num, r1.out, HF3.out⟩
          case measure => simp [intOf]; omega
    · rw [h.end_ hlt, List.foldl_nil] at HF
      have HF2 := hide HF
      have HC := hide r1.coll
      clear HF r1
      go_wp2
      go_ret
      exact ⟨_, rfl, by rw [← HF2.out]; exact HC.out⟩

set_option maxHeartbeats 3200000 in
theorem columnWidths_any (w : World) (A : Option Addr) (n c : Nat) (rows : List (List ByteArray)) (h : Tb w A n rows) (hok : okTable rows = true) :
    Calls Try.prog 88 #[.slice A n c] w fun e w' => ∃ v, e = .returned v ∧ Coll w w' 2 v ((widthsOf rows).map (Value.int .i64)) := by
  obtain ⟨k1, k2, k3, k4, k5⟩ := okTable_facts hok
  have hw30 := hide k5
  rw [h.len] at k1 k2
  obtain ⟨i0, hi, hz0, hz1, hz2⟩ := info_parts int64_info
  obtain ⟨b, o, l0, A0, c0, rfl, hbl, hx0, hc00, hs00⟩ := h.at_ (Below.refl _ _) (show 0 < n by omega)
  rw [Nat.add_zero] at hc00
  have hw0 := wid0_get hx0
  obtain ⟨m, hm⟩ : ∃ m, l0.length = m := ⟨_, rfl⟩
  have HW0 : Hid (wid0 rows = m) := by unfold Hid; rw [hw0, hm]
  rw [hw0, hm] at k3 k4
  rw [hm] at hc00
  clear hx0 hw0 k5
  go_enter Try.func88, Try.ntmps88
  go_wp2_with (at_make; refine wpList_make_full _ rfl _ _ 23 rfl w.heap.size 2 i0 (.int .i64 0) 1 Try.underlying23 hi hz0 hz1 .i64 .i64 _ _ m rfl rfl rfl rfl (by rw [hz2]; omega) (by simp only [maxLen]; omega) (Nat.le_refl _) ?_; intro w1 hown1 hg1)
  have hb1 : Below w.heap.size w w1 := (Below.refl _ _).grown hg1 (Nat.le_refl _) (by simp)
  simp only [Value.cells, Nat.mul_one, toList_madeCells_one] at hown1
  have r0 := IRow.made hown1 hb1
  clear hown1 hg1 hb1 hc00 hs00 hm
  go_loopw [15] (fun i wr => ∃ (k : Nat) (ws : List Int), k ≤ n ∧ i = .int .i64 k ∧ IRow w wr 2 w.heap.size m ws ∧ (rows.drop k).foldl wmax ws = widthsOf rows) (fun i _ => n - (intOf i).toNat)
  case atStart => exact ⟨0, _, Nat.zero_le _, rfl, r0, by unfold widthsOf; rw [HW0.out]; rfl⟩
  case round =>
    clear r0
    obtain ⟨k, ws, hk, rfl, r1, HF⟩ := hrel
    by_cases hlt : k < n
    · obtain ⟨b', o', l, Ak, ck, hA, hbl', hx, hc0, hs0⟩ := h.at_ (Below.refl _ _) hlt
      obtain ⟨rfl, rfl⟩ : b = b' ∧ o = o' := by simpa using hA
      have hl : l.length = m := by rw [(hw30.out l (List.mem_of_getElem? hx)).1, HW0.out]
      have HSZ := hide (hw30.out l (List.mem_of_getElem? hx)).2
      rw [drop_get hx, List.foldl_cons] at HF
      have HF2 := hide HF
      have hwl := hide r1.len
      have HLM := hide hl
      have hck := (r1.below.cell (p := ⟨b, o + k, none⟩) hbl).trans hc0
      rw [hl] at hc0 hs0 hck
      replace r1 := hide r1
      clear hA hx HF hl hbl'
      go_wp2
      clear hck hc0
      go_loopw [21] (fun j w5 => ∃ (q : Nat) (vs : List Int), q ≤ m ∧ j = .int .i64 q ∧ IRow w w5 2 w.heap.size m vs ∧ vs = (wmax ws l).take q ++ ws.drop q) (fun j _ => m - (intOf j).toNat)
      case atStart => exact ⟨0, ws, Nat.zero_le _, rfl, r1.out, by simp⟩
      case round =>
        clear r1
        obtain ⟨q, vs, hq, rfl, r1, HV⟩ := hrel
        have hb := r1.below
        by_cases hlq : q < m
        · obtain ⟨b2, o2, p, rfl, hy, hcy⟩ := hs0.at_ hb hlq
          have hps := HSZ.out p (List.mem_of_getElem? hy)
          obtain ⟨a, ha⟩ : ∃ a, ws[q]? = some a := ⟨_, List.getElem?_eq_getElem (by rw [hwl.out]; exact hlq)⟩
          have hlw : l.length = ws.length := by rw [HLM.out, hwl.out]
          have hca := r1.cell (j := q) (x := a) (by rw [HV]; exact wmax_at hlw ha)
          have hfa := r1.open_ q
          by_cases hmx : a < (p.size : Int)
          · have hmx2 : ¬ (p.size : Int) < a := by omega
            have hmx3 : max a (p.size : Int) = (p.size : Int) := by omega
            have HV2 : Hid (vs.set q (p.size : Int) = (wmax ws l).take (q + 1) ++ ws.drop (q + 1)) := by
              unfold Hid
              rw [HV, ← wmax_step hlw ha hy, show max a (p.size : Int) = (p.size : Int) from by omega]
            have R2 := hide (r1.set q (p.size : Int))
            clear HV ha hy hlw r1
            go_wp2
            all_goals
              go_roundw
              case rel => exact ⟨q + 1, _, by omega, by go_num, R2.out, HV2.out⟩
              case measure => simp [intOf]; omega
          · have hmx3 : max a (p.size : Int) = a := by omega
            have HV2 : Hid (vs.set q a = (wmax ws l).take (q + 1) ++ ws.drop (q + 1)) := by
              unfold Hid
              rw [HV, ← wmax_step hlw ha hy, show max a (p.size : Int) = a from by omega]
            have R2 := hide (r1.set q a)
            clear HV ha hy hlw r1
            go_wp2
            all_goals
              go_roundw
              case rel => exact ⟨q + 1, _, by omega, by go_num, R2.out, HV2.out⟩
              case measure => simp [intOf]; omega
        · have hqm : q = m := by omega
          have HF3 : Hid ((rows.drop (k + 1)).foldl wmax vs = widthsOf rows) := by
            unfold Hid
            rw [HV, hqm, ← hwl.out, wmax_end (by rw [HLM.out, hwl.out])]; exact HF2.out
          replace hqm := hide hqm
          replace r1 := hide r1
          clear HV
          go_wp2
          go_roundw
          case rel => exact ⟨k + 1, vs, by omega, by go_num, r1.out, HF3.out⟩
          case measure => simp [intOf]; omega
    · rw [h.end_ hlt, List.foldl_nil] at HF
      have HF2 := hide HF
      have HC := hide r1.coll
      clear HF r1
      go_wp2
      go_ret
      exact ⟨_, rfl, by rw [← HF2.out]; exact HC.out⟩

def colR (rows : List (List ByteArray)) : List Int × Int := if okTable rows = true then (widthsOf rows, 0) else ([], 1)
theorem colR_len (rows : List (List ByteArray)) : (colR rows).1.length ≤ 12 := by
  unfold colR
  split
  · rename_i h
    rw [(widths_facts h).1]
    exact (okTable_facts h).2.2.2.1
  · simp
set_option maxHeartbeats 400000 in
theorem ColumnWidths_S (w : World) (A : Option Addr) (n c : Nat) (rows : List (List ByteArray)) (h : Tb w A n rows) (hu : ∀ r ∈ rows, ∀ s ∈ r, (s.size : Int) ≤ 1048576) :
    Calls Try.prog 40 #[.slice A n c] w fun e w' => ∃ v, e = .returned (.tuple #[v, .int .i64 (colR rows).2]) ∧ Coll w w' 2 v ((colR rows).1.map (Value.int .i64)) := by
  replace hu := hide hu
  by_cases hok : okTable rows = true
  · have HR : Hid (colR rows = (widthsOf rows, 0)) := by unfold Hid colR; rw [if_pos hok]
    replace hok := hide hok
    go_enter Try.func40, Try.ntmps40
    go_wp2_with (go_at_call 85; refine (l08Rows_any _ _ _ _ rows h hu.out).mono ?_; rintro e w1 ⟨rfl, hb1⟩; rw [hok.out])
    refine (l08Widths_any _ _ _ _ rows (h.on hb1) hok.out).mono ?_
    rintro e w2 ⟨v2, rfl, hc2⟩
    have HC := hide (hc2.since hb1)
    clear hc2
    go_wp2
    go_ret2
    exact ⟨_, by rw [HR.out]; rfl, by rw [HR.out]; exact HC.out⟩
  · have HR : Hid (colR rows = ([], 1)) := by unfold Hid colR; rw [if_neg hok]
    replace hok : Hid (okTable rows = false) := by unfold Hid; simpa using hok
    go_enter Try.func40, Try.ntmps40
    go_wp2_with (go_at_call 85; refine (l08Rows_any _ _ _ _ rows h hu.out).mono ?_; rintro e w1 ⟨rfl, hb1⟩; rw [hok.out])
    go_ret2
    exact ⟨_, by rw [HR.out]; rfl, by rw [HR.out]; exact Coll.nil_ hb1⟩
set_option maxHeartbeats 400000 in
theorem ColumnWidths_I (w : World) (A : Option Addr) (n c : Nat) (rows : List (List ByteArray)) (h : Tb w A n rows) (hu : ∀ r ∈ rows, ∀ s ∈ r, (s.size : Int) ≤ 1048576) :
    Calls Try.prog 42 #[.slice A n c] w fun e w' => ∃ v, e = .returned (.tuple #[v, .int .i64 (colR rows).2]) ∧ Coll w w' 2 v ((colR rows).1.map (Value.int .i64)) := by
  replace hu := hide hu
  by_cases hok : okTable rows = true
  · have HR : Hid (colR rows = (widthsOf rows, 0)) := by unfold Hid colR; rw [if_pos hok]
    replace hok := hide hok
    go_enter Try.func42, Try.ntmps42
    go_wp2_with (go_at_call 87; refine (isTable_any _ _ _ _ rows h hu.out).mono ?_; rintro e w1 ⟨rfl, hb1⟩; rw [hok.out])
    refine (columnWidths_any _ _ _ _ rows (h.on hb1) hok.out).mono ?_
    rintro e w2 ⟨v2, rfl, hc2⟩
    have HC := hide (hc2.since hb1)
    clear hc2
    go_wp2
    go_ret2
    exact ⟨_, by rw [HR.out]; rfl, by rw [HR.out]; exact HC.out⟩
  · have HR : Hid (colR rows = ([], 1)) := by unfold Hid colR; rw [if_neg hok]
    replace hok : Hid (okTable rows = false) := by unfold Hid; simpa using hok
    go_enter Try.func42, Try.ntmps42
    go_wp2_with (go_at_call 87; refine (isTable_any _ _ _ _ rows h hu.out).mono ?_; rintro e w1 ⟨rfl, hb1⟩; rw [hok.out])
    go_ret2
    exact ⟨_, by rw [HR.out]; rfl, by rw [HR.out]; exact Coll.nil_ hb1⟩
end Go.Proofs.Ytanpmjbephelaaa
