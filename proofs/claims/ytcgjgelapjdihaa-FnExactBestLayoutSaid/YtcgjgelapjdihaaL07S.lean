/-
  sort.Slice of a row of numbers of the call's own, by a closure that is bound to the row's variable.
-/
import Derived.Test.YtcgjgelapjdihaaL07N
import Derived.Test.YtcgjgelapjdihaaShelfG
namespace Go.Proofs.Ytcgjgelapjdihaa
set_option maxRecDepth 100000
open Go.RowKit

theorem swo_lt : Go.Sort.SWO Go.Sort.ltInt := Go.Sort.swo_ltInt
theorem crow_sorted {W w : World} {g n c : Nat} {l ys : List Int} (h : CRow W w g n c l) (k : Nat) (os : Array Obj) (hy : ys.length = n) :
    CRow W (Go.Sort.grow (Go.Sort.putRow (Value.int .i64) (Go.Sort.ahead w k) g 0 ys.toArray) os) g n c ys ∧ w.grownBy (Go.Sort.grow (Go.Sort.putRow (Value.int .i64) (Go.Sort.ahead w k) g 0 ys.toArray) os) (some g) := by
  have hlt := h.lt
  have hsz : (Go.Sort.putRow (Value.int .i64) (Go.Sort.ahead w k) g 0 ys.toArray).heap.size = w.heap.size := by simp [Go.Sort.putRow, Go.Sort.mapBlock, Go.Sort.ahead]
  have hgr : w.grownBy (Go.Sort.grow (Go.Sort.putRow (Value.int .i64) (Go.Sort.ahead w k) g 0 ys.toArray) os) (some g) := by
    refine ⟨rfl, rfl, rfl, ?_, fun j hj hne => ?_⟩
    · rw [Go.Sort.size_grow, hsz]; omega
    · rw [Go.Sort.heap_grow_old _ _ (by rw [hsz]; exact hj)]
      have hgj : ¬ g = j := fun e => hne (by rw [e])
      simp [Go.Sort.putRow, Go.Sort.mapBlock, Go.Sort.ahead, Array.getElem?_modify, hgj]
  refine ⟨⟨?_, h.below.grown hgr h.below.size (fun q hq => by cases hq; exact hlt.1)⟩, hgr⟩
  rcases h.own.2 with ⟨h', _⟩ | ⟨g', cap', cur, h', hb, hg, hnc, hcm, hcs, htake⟩
  · simp at h'
  · simp only [Value.slice.injEq, Option.some.injEq, Addr.mk.injEq, and_true, true_and] at h'
    obtain ⟨rfl, rfl⟩ := h'
    refine ⟨by simp [hy], .inr ⟨g, c, Go.Sort.putCells (Value.int .i64) 0 ys.toArray cur, rfl, hb, ?_, hnc, hcm, by simpa [Go.Sort.putCells] using hcs, ?_⟩⟩
    · rw [Go.Sort.heap_grow_old _ _ (by rw [hsz]; exact hlt.2)]
      simp [Go.Sort.putRow, Go.Sort.mapBlock, Go.Sort.ahead, Array.getElem?_modify, hg, Go.Sort.onCells]
    · apply List.ext_getElem?
      intro j
      rw [List.getElem?_take, List.getElem?_map]
      by_cases hj : j < n
      · have hjc : j < cur.size := by omega
        rw [if_pos (by omega), Array.getElem?_toList, Go.Sort.putCells, Array.getElem?_mapIdx, Array.getElem?_eq_getElem hjc, List.getElem?_eq_getElem (by omega)]
        simp [hy, hj]
      · rw [if_neg (by omega), List.getElem?_eq_none (by omega)]; rfl
theorem crow_holds {W w : World} {g n c : Nat} {l : List Int} (h : CRow W w g n c l) : Go.Sort.Holds (Value.int .i64) w g 0 l.toArray := by
  intro j hj
  have hj2 : j < l.length := by simpa using hj
  rw [Nat.zero_add]
  refine ⟨?_, h.open_ j⟩
  rw [h.cell (j := j) (x := l[j]) (List.getElem?_eq_getElem hj2)]
  simp [hj2]

set_option maxHeartbeats 2000000 in
/-- The closure reads its variable and two numbers of the row. -/
theorem less_any (g n c B : Nat) (W : World) (G : Nat → Int) (hs : W.cell? ⟨B, 0, none⟩ = some (.slice (some ⟨g, 0, none⟩) n c))
    (hc : ∀ t, t < n → W.cell? ⟨g, t, none⟩ = some (.int .i64 (G t))) (i j : Nat) (hi : i < n) (hj : j < n) :
    Calls Try.prog 14 #[.int .i64 i, .int .i64 j, .pointer (some ⟨B, 0, none⟩)] W fun e w' => e = .returned (.bool (decide (G i < G j))) ∧ ∃ q, w' = W.drewN q := by
  have ci := hc i hi
  have cj := hc j hj
  have hi0 : (0 : Int) ≤ (i : Int) := by omega
  have hj0 : (0 : Int) ≤ (j : Int) := by omega
  have hi1 : (i : Int) < (n : Int) := by omega
  have hj1 : (j : Int) < (n : Int) := by omega
  clear hc
  go_enter Try.func14, Try.ntmps14
  go_wp2
  go_quiet (fail)
  go_wp2
  go_ret
  exact ⟨rfl, nq, rfl⟩
noncomputable def siT : TypeInfo := (Try.prog.info? 38).get (by kernel_rfl)
noncomputable def siE : TypeInfo := (Try.prog.info? 2).get (by kernel_rfl)
theorem siK (n : Nat) (h2 : 2 ≤ n) : Go.Lib.swapperK n siE 6 = 5 := by
  have a : siE.hasPointers = false := by kernel_rfl
  have b : siE.bytes = 8 := by kernel_rfl
  have c : (n == 0) = false := by simp; omega
  have d : (n == 1) = false := by simp; omega
  simp [Go.Lib.swapperK, a, b, c, d]
theorem ints_sorted (d d' : Array Int) (hp : Go.Sort.PermIn 0 d.size d d') (hs : Go.Sort.SortedIn Go.Sort.ltInt 0 d.size d') : d' = (d.toList.mergeSort fun x y => decide (x ≤ y)).toArray := by
  have h := Go.Sort.sorted_unique_holds (lt := Go.Sort.ltInt) Go.Sort.swo_ltInt (fun x y h1 h2 => by simp only [Go.Sort.ltInt, decide_eq_false_iff_not] at h1 h2; omega) d d' hp hs
  have e : (fun x y : Int => !Go.Sort.ltInt y x) = fun x y => decide (x ≤ y) := by
    funext x y
    simp only [Go.Sort.ltInt]
    by_cases h : x ≤ y
    · first | (simp [h]; done) | (simp [h]; omega)
    · first | (simp [h]; done) | (simp [h]; omega)
  rw [e] at h
  rw [← h]

set_option maxHeartbeats 2000000 in
theorem sort_row (W w : World) (g n c B : Nat) (l : List Int) (h : CRow W w g n c l) (hbox : w.cell? ⟨B, 0, none⟩ = some (.slice (some ⟨g, 0, none⟩) n c)) (hne : B ≠ g) (hB : B < w.heap.size) (hn1 : 1 ≤ n) (hn : n ≤ 12) :
    Calls Try.prog 13 #[.iface 38 (.slice (some ⟨g, 0, none⟩) n c), .func (.func 14) #[] #[.pointer (some ⟨B, 0, none⟩)]] w fun e w' =>
      e = .returned (.tuple #[]) ∧ CRow W w' g n c (l.mergeSort fun x y => decide (x ≤ y)) ∧ w.grownBy w' (some g) := by
  have hlt := h.lt
  have hll := h.len
  have hH := crow_holds h
  by_cases h2 : 2 ≤ n
  · have hds : l.toArray.size = n := by simp [hll]
    have hless : LessReads Try.prog 14 #[.pointer (some ⟨B, 0, none⟩)] (Value.int .i64) Go.Sort.ltInt g 0 l.toArray.size w := by
      intro m os dk hs i j hi hj
      rw [hds] at hs hi hj
      have e : sortWorld (Value.int .i64) w g 0 m dk os = Go.Sort.putRow (Value.int .i64) (Go.Sort.grow (Go.Sort.ahead w m) os) g 0 dk := by
        unfold sortWorld; rw [Go.Sort.putRow_grow _ (Go.Sort.ahead w m) _ g 0 _ hlt.2]
      have hHg : Go.Sort.Holds (Value.int .i64) (Go.Sort.grow (Go.Sort.ahead w m) os) g 0 l.toArray := Go.Sort.holds_grow _ _ _ g 0 _ hlt.2 (Go.Sort.holds_ahead _ _ _ _ _ _ hH)
      refine less_any g n c B _ (fun t => dk[t]!) ?_ (fun t ht => ?_) i j hi hj
      · rw [e, Go.Sort.cell?_putRow_other _ _ g 0 dk _ (Or.inl hne), Go.Sort.cell?_grow _ _ _ hB]
        exact hbox
      · have := Go.Sort.cell?_putRow (Value.int .i64) (Go.Sort.grow (Go.Sort.ahead w m) os) g 0 l.toArray dk hHg (by rw [hs, hds]) t (by omega)
        rw [Nat.zero_add] at this
        rw [e]; exact this
    have hS := Any.sort_Slice_small_sorted Try.laysGg6 38 2 siT siE (by kernel_rfl) (by kernel_rfl) (by kernel_rfl) (by kernel_rfl) 6 (fun _ => by kernel_rfl) (by kernel_rfl) (fun _ => by kernel_rfl) (Value.int .i64) (fun _ => rfl) Go.Sort.ltInt Go.Sort.swo_ltInt 14 _
      (enters_of Try.func14 (by kernel_rfl) rfl) g 0 c l.toArray (by rw [hds]; exact h2) (by rw [hds]; exact hn) 41 (by rw [hds, siK _ h2]; kernel_rfl) true
      (fun args W => run_callFunc_extern Try.func41 (by kernel_rfl) (by kernel_rfl) (by kernel_rfl) (e := Extern.ReflectliteSwapper.swap true) (by kernel_rfl) args W) w hless hH hlt.2
    rw [hds] at hS
    change Calls Try.prog 13 _ _ _ at hS
    refine hS.mono ?_
    rintro e w' ⟨rfl, d', k, os, hp, hso, rfl⟩
    have hp' : Go.Sort.PermIn 0 l.toArray.size l.toArray d' := by rw [hds]; exact hp
    have hso' : Go.Sort.SortedIn Go.Sort.ltInt 0 l.toArray.size d' := by rw [hds]; exact hso
    rw [ints_sorted l.toArray d' hp' hso']
    exact ⟨rfl, crow_sorted h k os (by rw [List.length_mergeSort]; simpa using hll)⟩
  · obtain rfl : n = 1 := by omega
    have hm : l.mergeSort (fun x y => decide (x ≤ y)) = l := by
      match l, hll with
      | [x], _ => simp
    rw [hm]
    have hS := Any.sort_Slice_tiny Try.laysGg6 38 2 siT siE (by kernel_rfl) (by kernel_rfl) (by kernel_rfl) (by kernel_rfl) 6 (fun _ => by kernel_rfl) (some ⟨g, 0, none⟩) 1 c (Nat.le_refl _) 38 (by kernel_rfl) (.func 14) #[] #[.pointer (some ⟨B, 0, none⟩)] w
    change Calls Try.prog 13 _ _ _ at hS
    refine hS.mono ?_
    rintro e w' ⟨rfl, os, rfl⟩
    have hgr : ∀ r, w.grownBy (Go.Sort.grow w os) r := fun r => ⟨rfl, rfl, rfl, by rw [Go.Sort.size_grow]; omega, fun j hj _ => Go.Sort.heap_grow_old w os hj⟩
    have hbl : Below w.heap.size w (Go.Sort.grow w os) := (Below.refl _ _).grown (hgr none) (Nat.le_refl _) (by simp)
    exact ⟨rfl, h.on hbl, hgr _⟩
end Go.Proofs.Ytcgjgelapjdihaa
