/-
  The next permutation of numbers that lie in a row of the call's own.
-/
import Derived.Test.YtcgjgelapjdihaaL07P
import Derived.Test.YtcgjgelapjdihaaInts
import Derived.RegionTactic
import Derived.BigRegion
import Derived.Deep.RegionLaw
namespace Go.Proofs.Ytcgjgelapjdihaa
set_option maxRecDepth 100000
open Go.RowKit

/-- A slice of numbers with room, that lies in block g since the call began. -/
structure CRow (W w : World) (g n c : Nat) (l : List Int) : Prop where
  own : w.ownsRow W.heap.size 2 1 (.slice (some ⟨g, 0, none⟩) n c) n (l.map (Value.int .i64))
  below : Below W.heap.size W w
section
variable {W w w1 : World} {g n c : Nat} {l : List Int}
theorem CRow.len (h : CRow W w g n c l) : l.length = n := by have := h.own.1; simpa using this
theorem CRow.cell (h : CRow W w g n c l) {j : Nat} {x : Int} (hx : l[j]? = some x) : w.cell? ⟨g, j, none⟩ = some (.int .i64 x) := by
  have hj : j < n := by rw [← h.len]; exact (List.getElem?_eq_some_iff.1 hx).1
  rw [h.own.cellAt j (by omega), List.getElem?_map, hx]; rfl
theorem CRow.cellD (h : CRow W w g n c l) {j : Nat} (hj : j < n) : w.cell? ⟨g, j, none⟩ = some (.int .i64 (l.getD j 0)) := by
  refine h.cell ?_
  rw [List.getD_eq_getElem?_getD, List.getElem?_eq_getElem (by rw [h.len]; exact hj)]; rfl
theorem CRow.open_ (h : CRow W w g n c l) (j : Nat) : w.frozen? ⟨g, j, none⟩ = false := h.own.frozenAt j
theorem CRow.lt (h : CRow W w g n c l) : W.heap.size ≤ g ∧ g < w.heap.size := h.own.lt g rfl
theorem CRow.grow (h : CRow W w g n c l) (j : Nat) (v : Value) : w.grownBy (w.setCell ⟨g, j, none⟩ v) (some g) := (h.own.stored j v).2
theorem CRow.set (h : CRow W w g n c l) (j : Nat) (x : Int) : CRow W (w.setCell ⟨g, j, none⟩ (.int .i64 x)) g n c (l.set j x) := by
  have hs := h.own.stored j (.int .i64 x)
  refine ⟨?_, h.below.grown hs.2 h.below.size (fun k hk => (h.own.lt k hk).1)⟩
  rw [List.map_set]
  exact hs.1
theorem CRow.swap (h : CRow W w g n c l) (i k : Nat) : CRow W ((w.setCell ⟨g, i, none⟩ (.int .i64 (l.getD k 0))).setCell ⟨g, k, none⟩ (.int .i64 (l.getD i 0))) g n c (swapI l i k) := (h.set i _).set k _
theorem CRow.on (h : CRow W w g n c l) (hb : Below w.heap.size w w1) : CRow W w1 g n c l := ⟨own_below h.own hb, Below.step h.below hb⟩
theorem CRow.draw (h : CRow W w g n c l) (k : Nat) : CRow W (w.drewN k) g n c l := ⟨h.own, below_drewN h.below k⟩
theorem CRow.drew (h : CRow W w g n c l) : CRow W w.drew g n c l := ⟨h.own, h.below.drew⟩
theorem CRow.sl (h : CRow W w g n c l) : Sl (Value.int .i64) w (some ⟨g, 0, none⟩) n l := Sl.of_own h.own
end
theorem grow_draw {w w1 : World} {r : Option Nat} (h : w.grownBy w1 r) (k : Nat) : w.grownBy (w1.drewN k) r := ⟨h.os, h.tape, h.output, h.size, h.block⟩
theorem grow_drew {w w1 : World} {r : Option Nat} (h : w.grownBy w1 r) : w.grownBy w1.drew r := ⟨h.os, h.tape, h.output, h.size, h.block⟩
theorem swapI_len {l : List Int} {i k : Nat} : (swapI l i k).length = l.length := by simp [swapI]
theorem pivotI_le {l : List Int} : ∀ i {p}, pivotI l i = some p → p < i ∧ ¬ l.getD (p + 1) 0 ≤ l.getD p 0 := by
  intro i
  induction i with
  | zero => intro p h; cases h
  | succ i ih =>
    intro p h
    rw [pivotI] at h
    split at h
    · have := ih h; omega
    · cases h; exact ⟨by omega, by assumption⟩

set_option maxHeartbeats 4000000 in
theorem nextPermutation_any (W w : World) (g n c : Nat) (l : List Int) (h : CRow W w g n c l) (hn1 : 1 ≤ n) (hn : n ≤ 6) :
    Calls Try.prog 17 #[.slice (some ⟨g, 0, none⟩) n c] w fun e w' => e = .returned (.bool (nextI l).isSome) ∧ CRow W w' g n c ((nextI l).getD l) ∧ w.grownBy w' (some g) := by
  have HL := hide h.len
  go_enter Try.func17, Try.ntmps17
  go_wp2
  go_loopw [3] (fun iv wr => ∃ (z : Int) (p : Nat), p + 1 ≤ n ∧ z = (p : Int) - 1 ∧ iv = .int .i64 z ∧ pivotI l p = pivotI l (n - 1) ∧ CRow W wr g n c l ∧ w.grownBy wr (some g)) (fun iv _ => (intOf iv + 1).toNat)
  case atStart => exact ⟨_, n - 1, by omega, by omega, rfl, rfl, h, World.grownBy.refl _ _⟩
  case round =>
    clear h
    obtain ⟨z, p, hp, hz, rfl, hP, h, hg⟩ := hrel
    have hg := hide hg
    by_cases hp0 : p = 0
    · subst hp0
      obtain rfl : z = -1 := by omega
      have HN : Hid (nextI l = none) := by unfold Hid nextI; rw [HL.out, ← hP]; rfl
      have H := hide h
      clear hP h hz
      go_wp2
      go_quiet (fail)
      go_wp2
      go_ret
      exact ⟨by rw [HN.out]; rfl, by rw [HN.out]; exact H.out.draw _, grow_draw hg.out _⟩
    · obtain ⟨i, rfl⟩ : ∃ i, p = i + 1 := ⟨p - 1, by omega⟩
      obtain rfl : z = (i : Int) := by omega
      clear hz
      have ci := h.cellD (show i < n by omega)
      have cj := h.cellD (show i + 1 < n by omega)
      have hi1 : ((i : Int) + 1).toNat = i + 1 := by omega
      have hi2 : (0 : Int) ≤ (i : Int) := by omega
      have hi3 : (i : Int) < (n : Int) := by omega
      have hi4 : (0 : Int) ≤ (i : Int) + 1 := by omega
      have hi5 : (i : Int) + 1 < (n : Int) := by omega
      have hi6 : IntKind.i64.wrap ((i : Int) + 1) = (i : Int) + 1 := IntWalk.i64_in _ (by omega)
      obtain ⟨x, hx⟩ : ∃ x, l.getD i 0 = x := ⟨_, rfl⟩
      obtain ⟨y, hy⟩ : ∃ y, l.getD (i + 1) 0 = y := ⟨_, rfl⟩
      rw [pivotI, hx, hy] at hP
      rw [hx] at ci
      rw [hy] at cj
      by_cases hc : y ≤ x
      · rw [if_pos hc] at hP
        have HP := hide hP
        have H := hide h
        clear hP h hx hy
        go_wp2
        go_quiet (fail)
        go_wp2
        go_roundw
        case rel => exact ⟨_, i, by omega, rfl, rfl, HP.out, H.out.draw _, grow_draw hg.out _⟩
        case measure => simp [intOf]
      · rw [if_neg hc] at hP
        have HP := hide hP
        have H := hide h
        clear hP h
        go_wp2
        go_quiet (fail)
        go_wp2
        go_loopw [4] (fun kv w5 => ∃ q : Nat, i < q ∧ q < n ∧ kv = .int .i64 q ∧ lastI l x q = lastI l x (n - 1) ∧ CRow W w5 g n c l ∧ w.grownBy w5 (some g)) (fun kv _ => (intOf kv).toNat)
        case atStart => exact ⟨n - 1, by omega, by omega, by go_num, rfl, H.out.draw _, grow_draw hg.out _⟩
        case round =>
          clear H hg ci cj
          obtain ⟨q, hiq, hq, rfl, hLq, h, hg⟩ := hrel
          have hg := hide hg
          have ci := h.cellD (show i < n by omega)
          have cq := h.cellD hq
          have hq2 : (0 : Int) ≤ (q : Int) := by omega
          have hq3 : (q : Int) < (n : Int) := by omega
          obtain ⟨v, hv⟩ : ∃ v, l.getD q 0 = v := ⟨_, rfl⟩
          rw [hx] at ci
          rw [hv] at cq
          have hLs : lastI l x q = if v ≤ x then lastI l x (q - 1) else q := by
            obtain ⟨r, rfl⟩ : ∃ r, q = r + 1 := ⟨q - 1, by omega⟩
            rw [lastI, hv, Nat.add_sub_cancel]
          rw [hLs] at hLq
          by_cases hvx : v ≤ x
          · rw [if_pos hvx] at hLq
            have hne : q ≠ i + 1 := fun e => by
              rw [e, hy] at hv
              omega
            have HLQ := hide hLq
            have H := hide h
            have HX := hide hx
            have HY := hide hy
            clear hLq h hLs hv hx hy
            go_wp2
            go_quiet (fail)
            go_wp2
            go_roundw
            case rel => exact ⟨q - 1, by omega, by omega, by go_num, HLQ.out, H.out.draw _, grow_draw hg.out _⟩
            case measure => simp [intOf]; omega
          · rw [if_neg hvx] at hLq
            have HN : Hid (nextI l = some (revI (swapI l i q) n (i + 1) (n - 1))) := by
              unfold Hid nextI
              rw [HL.out, ← HP.out]
              simp only
              rw [hx, ← hLq]
            have hsw := h.swap i q
            have hst := h.set i v
            have hfi := h.open_ i
            have hfq : ∀ k, ((wr.drewN k).setCell ⟨g, i, none⟩ (.int .i64 v)).frozen? ⟨g, q, none⟩ = false := fun _ => hst.open_ q
            have cq2 : ∀ k, ((wr.drewN k).setCell ⟨g, i, none⟩ (.int .i64 v)).cell? ⟨g, q, none⟩ = some (.int .i64 v) := fun _ => hst.cell (j := q) (x := v) (by
              rw [List.getElem?_set_ne (by omega)]
              rw [← hv, List.getD_eq_getElem?_getD, List.getElem?_eq_getElem (by rw [HL.out]; exact hq)]; rfl)
            rw [hx, hv] at hsw
            have HSW := hide hsw
            have HG := hide (grow_trans hg.out (grow_trans (h.grow i (.int .i64 v)) (hst.grow q (.int .i64 x))))
            clear hsw hst h
            clear hLq hLs hv hx hy
            go_wp2
            go_quiet (fail)
            go_wp2
            go_region
            clear ci cq cq2 hfi hfq
            have HC1 : Hid (CRow W (((wr.drewN (nq + 1)).setCell ⟨g, i, none⟩ (.int .i64 v)).setCell ⟨g, q, none⟩ (.int .i64 x)) g n c (swapI l i q)) := HSW.out.draw _
            have HG1 : Hid (w.grownBy (((wr.drewN (nq + 1)).setCell ⟨g, i, none⟩ (.int .i64 v)).setCell ⟨g, q, none⟩ (.int .i64 x)) (some g)) := grow_draw HG.out _
            go_wp2
            go_loopw [5, 6] (fun av bv w6 => ∃ (a b f : Nat) (lc : List Int), b < n ∧ b ≤ a + f ∧ f ≤ n ∧ av = .int .i64 a ∧ bv = .int .i64 b ∧ revI lc f a b = revI (swapI l i q) n (i + 1) (n - 1) ∧ CRow W w6 g n c lc ∧ w.grownBy w6 (some g)) (fun av bv _ => (intOf bv - intOf av).toNat)
            case atStart => exact ⟨i + 1, n - 1, n, _, by omega, by omega, Nat.le_refl _, by go_num, by go_num, rfl, HC1.out, HG1.out⟩
            case round =>
              clear HC1 HG1 HSW HG hg
              obtain ⟨a, b, f, lc, hbn, hbf, hfn, rfl, rfl, hR, h, hg⟩ := hrel
              have hg := hide hg
              by_cases hab : a < b
              · obtain ⟨f', rfl⟩ : ∃ f', f = f' + 1 := ⟨f - 1, by omega⟩
                rw [revI, if_pos hab] at hR
                have HR := hide hR
                have ca := h.cellD (show a < n by omega)
                have cb := h.cellD hbn
                obtain ⟨s, hs⟩ : ∃ v, lc.getD a 0 = v := ⟨_, rfl⟩
                obtain ⟨v2, hv⟩ : ∃ v, lc.getD b 0 = v := ⟨_, rfl⟩
                rw [hs] at ca
                rw [hv] at cb
                have ha2 : (0 : Int) ≤ (a : Int) := by omega
                have ha3 : (a : Int) < (n : Int) := by omega
                have hb2 : (0 : Int) ≤ (b : Int) := by omega
                have hb3 : (b : Int) < (n : Int) := by omega
                have hsw := h.swap a b
                have hst := h.set a v2
                have hfi := h.open_ a
                have hfb := h.open_ b
                have hfq : ∀ k, ((wr.drewN k).setCell ⟨g, a, none⟩ (.int .i64 v2)).frozen? ⟨g, b, none⟩ = false := fun _ => hst.open_ b
                have cq2 : ∀ k, ((wr.drewN k).setCell ⟨g, a, none⟩ (.int .i64 v2)).cell? ⟨g, b, none⟩ = some (.int .i64 v2) := fun _ => hst.cell (j := b) (x := v2) (by
                  rw [List.getElem?_set_ne (by omega)]
                  rw [← hv, List.getD_eq_getElem?_getD, List.getElem?_eq_getElem (by rw [h.len]; exact hbn)]; rfl)
                rw [hs, hv] at hsw
                have HSW := hide hsw
                have HG := hide (grow_trans hg.out (grow_trans (h.grow a (.int .i64 v2)) (hst.grow b (.int .i64 s))))
                clear hsw hst h hR hs hv
                go_wp2
                go_region
                have HC1 : Hid (CRow W (((wr.drewN 1).setCell ⟨g, a, none⟩ (.int .i64 v2)).setCell ⟨g, b, none⟩ (.int .i64 s)) g n c (swapI lc a b)) := HSW.out.draw _
                have HG1 : Hid (w.grownBy (((wr.drewN 1).setCell ⟨g, a, none⟩ (.int .i64 v2)).setCell ⟨g, b, none⟩ (.int .i64 s)) (some g)) := grow_draw HG.out _
                clear ca cb cq2 hfi hfq hfb
                go_wp2
                go_roundw
                case rel => exact ⟨a + 1, b - 1, f', _, by omega, by omega, by omega, by go_num, by go_num, HR.out, HC1.out, HG1.out⟩
                case measure => simp [intOf]; omega
              · have HE : Hid (nextI l = some lc) := by
                  unfold Hid
                  rw [HN.out, ← hR]
                  cases f with
                  | zero => rw [revI]
                  | succ f => rw [revI, if_neg hab]
                have H := hide h
                clear hR h
                go_wp2
                go_ret
                exact ⟨by rw [HE.out]; rfl, by rw [HE.out]; exact H.out, hg.out⟩
end Go.Proofs.Ytcgjgelapjdihaa
