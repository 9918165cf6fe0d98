/-
  The program's least numbers of moves: the walk of distances.
-/
import Derived.Test.YtdcbdogcglinkaaL11Q
import Derived.Test.YtdcbdogcglinkaaL11R
import Derived.Test.YtdcbdogcglinkaaArrs
import Derived.Test.YtdcbdogcglinkaaL11E
namespace Go.Proofs.Ytdcbdogcglinkaa
set_option maxRecDepth 100000
open Go.RowKit

def numI (z : Nat → Int) : List Value := (List.range 31).map fun q => .int .i64 (z q)
theorem numI_len (z : Nat → Int) : (numI z).length = 31 := by simp [numI]
theorem numI_get (z : Nat → Int) {q : Nat} (h : q < 31) : (numI z)[q]? = some (.int .i64 (z q)) := by
  unfold numI; rw [List.getElem?_map, List.getElem?_range h]; rfl
theorem numI_congr {z y : Nat → Int} (h : ∀ q, q < 31 → z q = y q) : numI z = numI y := by
  unfold numI
  refine List.map_congr_left fun q hq => ?_
  rw [h q (List.mem_range.1 hq)]
theorem numI_set (z : Nat → Int) {q : Nat} (hq : q < 31) (v : Int) : (numI z).set q (.int .i64 v) = numI (fun r => if r = q then v else z r) := by
  apply List.ext_getElem?
  intro r
  rw [List.getElem?_set]
  by_cases hr : q = r
  · subst hr
    rw [if_pos rfl, numI_len, if_pos hq, numI_get _ hq]; simp
  · rw [if_neg hr]
    by_cases hr2 : r < 31
    · rw [numI_get z hr2, numI_get _ hr2, if_neg (fun e => hr e.symm)]
    · rw [List.getElem?_eq_none (by rw [numI_len]; omega), List.getElem?_eq_none (by rw [numI_len]; omega)]
theorem numI_zero : List.replicate 31 (Value.int .i64 0) = numI (fun _ => 0) := by
  apply List.ext_getElem?
  intro r
  by_cases h : r < 31
  · rw [numI_get _ h, List.getElem?_replicate, if_pos h]
  · rw [List.getElem?_eq_none (by simp; omega), List.getElem?_eq_none (by rw [numI_len]; omega)]
theorem a31_zero : (Try.prog.info? 60).map (·.zero) = some (some (.agg (List.replicate 31 (Value.int .i64 0)).toArray)) := by kernel_rfl
theorem a31_built : Try.prog.built 60 [] = some (List.replicate 31 (Value.int .i64 0)).toArray := by kernel_rfl
theorem a31_size : (Try.prog.info? 60).map (·.size) = some 31 := by kernel_rfl

/-- A distance as the program keeps it. -/
def oV : Option Nat → Int
  | none => -1
  | some d => d
theorem oV_known {o : Option Nat} : (0 ≤ oV o) ↔ ∃ d, o = some d := by
  cases o with
  | none => simp [oV]
  | some d => simp [oV]
theorem oV_eq {o : Option Nat} {r : Nat} : oV o = (r : Int) ↔ o = some r := by
  cases o with
  | none => simp [oV]
  | some d => simp [oV]; omega
/-- The array at block g holds the distances f. -/
def DistA (w : World) (g : Nat) (f : Nat → Option Nat) : Prop := Arr w g 60 (numI fun q => oV (f q))
theorem DistA.get {w : World} {g : Nat} {f : Nat → Option Nat} (h : DistA w g f) {q : Nat} (hq : q < 31) : w.cell? ⟨g, q, none⟩ = some (.int .i64 (oV (f q))) := by
  rw [Arr.cell h q, numI_get _ hq]
theorem DistA.put {w : World} {g : Nat} {f : Nat → Option Nat} (h : DistA w g f) {q : Nat} (hq : q < 31) (d : Nat) : DistA (w.setCell ⟨g, q, none⟩ (.int .i64 (d : Int))) g (fun r => if r = q then some d else f r) := by
  have := Arr.set_ h q (.int .i64 (d : Int))
  rw [numI_set _ hq] at this
  unfold DistA
  rw [show (fun r => oV (if r = q then some d else f r)) = fun r => if r = q then (d : Int) else oV (f r) from by funext r; by_cases e : r = q <;> simp [e, oV]]
  exact this
/-- Within column k of round r: j moves have been looked at, and none of them hit (h = false), or one did. -/
structure Col (xs : List Int) (to r : Nat) (f g : Nat → Option Nat) (k j : Nat) (b h : Bool) : Prop where
  mid : Mid xs to r f g k b
  fk : f k = none
  miss : h = false → ∀ i t : Nat, i < j → mvTo xs k (mvB i) = some (t : Int) → f t ≠ some r
  hits : h = true → ∃ t, Edge xs k t ∧ f t = some r
/-- The distances as they stand within a column. -/
def colF (g : Nat → Option Nat) (k r : Nat) (h : Bool) : Nat → Option Nat := fun q => if h = true ∧ q = k then some (r + 1) else g q
theorem colF_put (g : Nat → Option Nat) (k r : Nat) (h : Bool) : (fun q => if q = k then some (r + 1) else colF g k r h q) = colF g k r true := by
  funext q
  unfold colF
  by_cases e : q = k
  · simp [e]
  · simp [e]
theorem mvB_edge {xs : List Int} {k j t : Nat} (he : mvTo xs k (mvB j) = some (t : Int)) : Edge xs k t := by
  unfold mvB at he
  by_cases h0 : j = 0
  · rw [if_pos h0] at he; exact Or.inl he
  · rw [if_neg h0] at he
    by_cases h1 : j = 1
    · rw [if_pos h1] at he; exact Or.inr (Or.inl he)
    · rw [if_neg h1] at he; exact Or.inr (Or.inr he)
theorem Col.read {xs : List Int} {to r k j t : Nat} {f g : Nat → Option Nat} {b h : Bool} (hc : Col xs to r f g k j b h) : colF g k r h t = some r ↔ f t = some r := by
  unfold colF
  by_cases e : h = true ∧ t = k
  · rw [if_pos e, e.2, hc.fk]
    constructor
    · intro h1; simp at h1
    · intro h1; cases h1
  · rw [if_neg e]; exact hc.mid.read t
theorem Col.next {xs : List Int} {to r k j : Nat} {f g : Nat → Option Nat} {b h : Bool} (hc : Col xs to r f g k j b h) (hm : ∀ t : Nat, mvTo xs k (mvB j) = some (t : Int) → f t ≠ some r) : Col xs to r f g k (j + 1) b h :=
  ⟨hc.mid, hc.fk, fun e i t hi ht => by
    by_cases hij : i = j
    · subst hij; exact hm t ht
    · exact hc.miss e i t (by omega) ht, hc.hits⟩
theorem Col.hit {xs : List Int} {to r k j t : Nat} {f g : Nat → Option Nat} {b h : Bool} (hc : Col xs to r f g k j b h) (he : mvTo xs k (mvB j) = some (t : Int)) (hf : f t = some r) (j' : Nat) : Col xs to r f g k j' b true :=
  ⟨hc.mid, hc.fk, (fun e => by cases e), fun _ => ⟨t, mvB_edge he, hf⟩⟩
theorem Col.done {xs : List Int} {to r k : Nat} {f g : Nat → Option Nat} {b h : Bool} (hc : Col xs to r f g k 3 b h) : Mid xs to r f (colF g k r h) (k + 1) (b || h) := by
  cases h with
  | true =>
    obtain ⟨t, he, ht⟩ := hc.hits rfl
    have := hc.mid.hit hc.fk he ht
    have e : colF g k r true = fun q => if q = k then some (r + 1) else g q := by funext q; unfold colF; simp
    rw [e, Bool.or_true]; exact this
  | false =>
    have e : colF g k r false = g := by funext q; unfold colF; simp
    rw [e, Bool.or_false]
    refine hc.mid.miss fun t he => ?_
    have hm := hc.miss rfl
    rcases he with e | e | e
    · exact hm 0 t (by omega) e
    · exact hm 1 t (by omega) e
    · exact hm 2 t (by omega) e
theorem Col.count {xs : List Int} {to r k : Nat} {f g : Nat → Option Nat} {b h : Bool} (hc : Col xs to r f g k 3 b h) (hk : k < 31) {S : Nat} (hs : cntN g 31 + (if b = true then 1 else 0) ≤ S) : cntN (colF g k r h) 31 + (if (b || h) = true then 1 else 0) ≤ S := by
  cases h with
  | true =>
    have e : colF g k r true = fun q => if q = k then some (r + 1) else g q := by funext q; unfold colF; simp
    have hgk : g k = none := by rw [hc.mid.rest k (Nat.le_refl _)]; exact hc.fk
    have h1 := cntN_set (g := g) (q := k) (d := r + 1) hgk 31
    rw [if_pos hk] at h1
    rw [e, Bool.or_true, if_pos rfl]
    split at hs <;> omega
  | false =>
    have e : colF g k r false = g := by funext q; unfold colF; simp
    rw [e, Bool.or_false]; exact hs
theorem cntN_le (g : Nat → Option Nat) : ∀ k, cntN g k ≤ k := by
  intro k
  induction k with
  | zero => exact Nat.le_refl _
  | succ k ih =>
    rw [cntN]
    split <;> omega
/-- The two arrays of the call: the result's own, and the one that is worked on. -/
structure DW (W : World) (zs : List Value) (w : World) (z : Nat → Int) : Prop where
  a4 : Arr w W.heap.size 60 zs
  a5 : Arr w (W.heap.size + 1) 60 (numI z)
  below : Below W.heap.size W w
theorem arr_other {w : World} {g b o : Nat} {T : TypeId} {cs : List Value} (h : Arr w g T cs) (hne : b ≠ g) (v : Value) : Arr (w.setCell ⟨b, o, none⟩ v) g T cs := by
  unfold Arr at h ⊢
  simp [World.setCell, Array.getElem?_modify, hne, h]
section
variable {W w : World} {zs : List Value} {z : Nat → Int}
theorem DW.get (h : DW W zs w z) {q : Nat} (hq : q < 31) : w.cell? ⟨W.heap.size + 1, q, none⟩ = some (.int .i64 (z q)) := by
  rw [Arr.cell h.a5 q, numI_get _ hq]
theorem DW.put (h : DW W zs w z) {q : Nat} (hq : q < 31) (v : Int) : DW W zs (w.setCell ⟨W.heap.size + 1, q, none⟩ (.int .i64 v)) (fun r => if r = q then v else z r) := by
  refine ⟨arr_other h.a4 (by omega) _, ?_, h.below.setCell (by show W.heap.size ≤ W.heap.size + 1; omega) _⟩
  have := Arr.set_ h.a5 q (.int .i64 v)
  rw [numI_set _ hq] at this
  exact this
theorem DW.lay (h : DW W zs w z) (o : Obj) : DW W zs (w.alloc o) z := ⟨h.a4.lay o, h.a5.lay o, h.below.alloc h.below.size o⟩
theorem DW.draw (h : DW W zs w z) (n : Nat) : DW W zs (w.drewN n) z := ⟨h.a4, h.a5, below_drewN h.below n⟩
theorem DW.congr (h : DW W zs w z) {y : Nat → Int} (he : ∀ q, q < 31 → z q = y q) : DW W zs w y := ⟨h.a4, by rw [← numI_congr he]; exact h.a5, h.below⟩
end
/-- The distances f stand in the array that is worked on. -/
def DO (W : World) (zs : List Value) (w : World) (f : Nat → Option Nat) : Prop := DW W zs w (fun q => oV (f q))
theorem DO.put {W w : World} {zs : List Value} {g : Nat → Option Nat} {k r : Nat} {h : Bool} (hd : DO W zs w (colF g k r h)) (hk : k < 31) : DO W zs (w.setCell ⟨W.heap.size + 1, k, none⟩ (.int .i64 ((r : Int) + 1))) (colF g k r true) := by
  have := DW.put hd hk ((r : Int) + 1)
  refine this.congr fun q _ => ?_
  rw [← colF_put g k r h]
  by_cases e : q = k
  · simp [e, oV]
  · simp [e]
end Go.Proofs.Ytdcbdogcglinkaa
