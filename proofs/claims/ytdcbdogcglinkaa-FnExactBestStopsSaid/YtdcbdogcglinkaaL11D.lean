/-
  The reference's least numbers of moves.
-/
import Derived.Test.YtdcbdogcglinkaaL11P
import Derived.Test.YtdcbdogcglinkaaInts
import Derived.Deep.LoopGhost
namespace Go.Proofs.Ytdcbdogcglinkaa
set_option maxRecDepth 100000
open Go.RowKit

def numF (f : Nat → Nat) : List Value := (List.range 31).map fun q => .int .i64 (f q : Int)
theorem numF_len (f : Nat → Nat) : (numF f).length = 31 := by simp [numF]
theorem numF_get (f : Nat → Nat) {q : Nat} (h : q < 31) : (numF f)[q]? = some (.int .i64 (f q : Int)) := by
  unfold numF; rw [List.getElem?_map, List.getElem?_range h]; rfl
theorem numF_set (f : Nat → Nat) {q : Nat} (hq : q < 31) (v : Nat) : (numF f).set q (.int .i64 (v : Int)) = numF (fun r => if r = q then v else f r) := by
  apply List.ext_getElem?
  intro r
  rw [List.getElem?_set]
  by_cases hr : q = r
  · subst hr
    rw [if_pos rfl, numF_len, if_pos hq, numF_get _ hq]; simp
  · rw [if_neg hr]
    by_cases hr2 : r < 31
    · rw [numF_get f hr2, numF_get _ hr2, if_neg (fun e => hr e.symm)]
    · rw [List.getElem?_eq_none (by rw [numF_len]; omega), List.getElem?_eq_none (by rw [numF_len]; omega)]
theorem numF_zero : List.replicate 31 (Value.int .i64 0) = numF (fun _ => 0) := by
  apply List.ext_getElem?
  intro r
  by_cases h : r < 31
  · rw [numF_get _ h, List.getElem?_replicate, if_pos h]; rfl
  · rw [List.getElem?_eq_none (by simp; omega), List.getElem?_eq_none (by rw [numF_len]; omega)]
def sumTo (f : Nat → Nat) : Nat → Nat
  | 0 => 0
  | k + 1 => sumTo f k + f k
theorem sumTo_set {f : Nat → Nat} {q v : Nat} (hv : v < f q) : ∀ k, sumTo (fun r => if r = q then v else f r) k + (if q < k then f q - v else 0) = sumTo f k := by
  intro k
  induction k with
  | zero => simp [sumTo]
  | succ k ih =>
    rw [sumTo, sumTo, ← ih]
    by_cases h : k = q
    · subst h
      rw [if_pos rfl, if_pos (by omega), if_neg (by omega)]; omega
    · rw [if_neg h]
      by_cases h2 : q < k
      · rw [if_pos h2, if_pos (by omega)]; omega
      · rw [if_neg h2, if_neg (by omega)]; omega
theorem sumTo_le {f : Nat → Nat} {b : Nat} : ∀ k, (∀ q, q < k → f q ≤ b) → sumTo f k ≤ k * b := by
  intro k
  induction k with
  | zero => intro _; simp [sumTo]
  | succ k ih =>
    intro h
    have := ih (fun q hq => h q (by omega))
    have := h k (by omega)
    rw [sumTo, Nat.succ_mul]; omega

def mvB (j : Nat) : UInt8 := if j = 0 then 35 else if j = 1 then 60 else 62
/-- The edges that have been looked at: all of the columns below c, of column c the first j. -/
def Seen (xs : List Int) (f : Nat → Nat) (c j : Nat) : Prop :=
  (∀ c' t : Nat, c' < c → Edge xs c' t → f c' ≤ f t + 1) ∧ ∀ i t : Nat, i < j → mvTo xs c (mvB i) = some (t : Int) → f c ≤ f t + 1
theorem Seen.nextCol {xs : List Int} {f : Nat → Nat} {c : Nat} (h : Seen xs f c 3) : Seen xs f (c + 1) 0 := by
  refine ⟨fun c' t hc he => ?_, fun i t hi => absurd hi (Nat.not_lt_zero _)⟩
  by_cases e : c' = c
  · subst e
    rcases he with e | e | e
    · exact h.2 0 t (by omega) e
    · exact h.2 1 t (by omega) e
    · exact h.2 2 t (by omega) e
  · exact h.1 c' t (by omega) he
/-- The state of a scan. -/
structure Scan (xs : List Int) (to S : Nat) (b : Bool) (f : Nat → Nat) (c j : Nat) : Prop where
  relax : Relax xs to f
  seen : b = false → Seen xs f c j
  sum : sumTo f 31 + (if b = true then 1 else 0) ≤ S
theorem Scan.hit {xs : List Int} {to S : Nat} {b : Bool} {f : Nat → Nat} {c j t : Nat} (h : Scan xs to S b f c j) (hc : c ≤ 30) (he : mvTo xs c (mvB j) = some (t : Int)) (hlt : f t + 1 < f c) (j' : Nat) : Scan xs to S true (fun q => if q = c then f t + 1 else f q) c j' := by
  have hE : Edge xs c t := by
    unfold mvB at he
    by_cases h0 : j = 0
    · rw [if_pos h0] at he; exact Or.inl he
    · rw [if_neg h0] at he
      by_cases h1 : j = 1
      · rw [if_pos h1] at he; exact Or.inr (Or.inl he)
      · rw [if_neg h1] at he; exact Or.inr (Or.inr he)
  refine ⟨h.relax.step hc hE hlt, (fun e => by cases e), ?_⟩
  have h1 := sumTo_set (f := f) (q := c) hlt 31
  rw [if_pos (by omega)] at h1
  have h2 := h.sum
  rw [if_pos rfl]
  omega
theorem Scan.miss {xs : List Int} {to S : Nat} {b : Bool} {f : Nat → Nat} {c j : Nat} (h : Scan xs to S b f c j) (hm : ∀ t : Nat, mvTo xs c (mvB j) = some (t : Int) → f c ≤ f t + 1) : Scan xs to S b f c (j + 1) :=
  ⟨h.relax, fun e => ⟨(h.seen e).1, fun i t hi ht => by
    by_cases hij : i = j
    · subst hij; exact hm t ht
    · exact (h.seen e).2 i t (by omega) ht⟩, h.sum⟩
theorem Scan.col {xs : List Int} {to S : Nat} {b : Bool} {f : Nat → Nat} {c : Nat} (h : Scan xs to S b f c 3) : Scan xs to S b f (c + 1) 0 :=
  ⟨h.relax, fun e => (h.seen e).nextCol, h.sum⟩
end Go.Proofs.Ytdcbdogcglinkaa
