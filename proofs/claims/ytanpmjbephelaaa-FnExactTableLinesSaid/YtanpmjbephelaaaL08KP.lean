/-
  TableLines, the plain law: the lines of a table.
-/
import Derived.Test.YtanpmjbephelaaaL08J
import Derived.Test.YtanpmjbephelaaaReps
import Derived.Test.YtanpmjbephelaaaStrs
import Derived.Deep.RegionLaw
namespace Go.Proofs.Ytanpmjbephelaaa
set_option maxRecDepth 100000
open Go.RowKit

def mkS (l : List UInt8) : ByteArray := ⟨l.toArray⟩
theorem by_mkS (l : List UInt8) : by_ (mkS l) = l := rfl
theorem mkS_size (l : List UInt8) : (mkS l).size = l.length := rfl
def okSides : List UInt8 → Bool
  | [] => true
  | b :: bs => if b = 108 ∨ b = 114 then okSides bs else false
theorem okSides_all {l : List UInt8} (h : okSides l = true) : ∀ b ∈ l, b = 108 ∨ b = 114 := by
  induction l with
  | nil => simp
  | cons y ys ih =>
    rw [okSides] at h
    by_cases hy : y = 108 ∨ y = 114
    · rw [if_pos hy] at h
      intro b hb
      rcases List.mem_cons.1 hb with rfl | hb
      · exact hy
      · exact ih h b hb
    · rw [if_neg hy] at h; cases h
def piece (gap : Int) (q : Nat) (z : Int) (d : UInt8) (s : ByteArray) : List UInt8 :=
  (if q = 0 then [] else List.replicate gap.toNat 32) ++ (if d = 108 then by_ s ++ List.replicate (z - s.size).toNat 32 else List.replicate (z - s.size).toNat 32 ++ by_ s)
def lineTo (gap : Int) (ws : List Int) (sd : List UInt8) (r : List ByteArray) : Nat → List UInt8
  | 0 => []
  | q + 1 => lineTo gap ws sd r q ++ piece gap q (ws.getD q 0) (sd.getD q 0) (r.getD q ⟨#[]⟩)
def lineR (gap : Int) (ws : List Int) (sd : List UInt8) (r : List ByteArray) : ByteArray := mkS (lineTo gap ws sd r r.length)
def okAsk (rows : List (List ByteArray)) (sd : ByteArray) (gap : Int) : Bool := decide (sd.size = wid0 rows) && (inB gap 0 20 && okSides (by_ sd))
def tableR (rows : List (List ByteArray)) (sd : ByteArray) (gap : Int) : List ByteArray × Int :=
  if okTable rows = true then (if okAsk rows sd gap = true then (rows.map (lineR gap (widthsOf rows) (by_ sd)), 0) else ([], 2)) else ([], 1)
theorem tableR_len (rows : List (List ByteArray)) (sd : ByteArray) (gap : Int) : (tableR rows sd gap).1.length ≤ 40 := by
  unfold tableR
  split
  · rename_i h
    split
    · rw [List.length_map]; exact (okTable_facts h).2.1
    · simp
  · simp
theorem lineTo_succ {gap : Int} {ws : List Int} {sd : List UInt8} {r : List ByteArray} {q : Nat} {z : Int} {d : UInt8} {s : ByteArray} (hz : ws[q]? = some z) (hd : sd[q]? = some d) (hs : r[q]? = some s) :
    lineTo gap ws sd r (q + 1) = lineTo gap ws sd r q ++ piece gap q z d s := by
  rw [lineTo, List.getD_eq_getElem?_getD, List.getD_eq_getElem?_getD, List.getD_eq_getElem?_getD, hz, hd, hs]; rfl
theorem piece_len {gap : Int} {q : Nat} {z : Int} {d : UInt8} {s : ByteArray} (hg : gap ≤ 20) (hz : z ≤ 30) (hs : (s.size : Int) ≤ z) : (piece gap q z d s).length ≤ 50 := by
  unfold piece
  rw [List.length_append]
  have h1 : (if q = 0 then [] else List.replicate gap.toNat (32 : UInt8)).length ≤ 20 := by
    split
    · simp
    · rw [List.length_replicate]; omega
  have h2 : (if d = 108 then by_ s ++ List.replicate (z - s.size).toNat 32 else List.replicate (z - s.size).toNat 32 ++ by_ s).length ≤ 30 := by
    split <;> (rw [List.length_append, List.length_replicate, by_len]; omega)
  omega
theorem set_left {a : List UInt8} {gap : Int} {z : Int} {s : ByteArray} {q : Nat} {d : UInt8} (hd : d = 108) (hq : 0 < q) : (mkS a ++ runs 32 gap) ++ (s ++ runs 32 (z - s.size)) = mkS (a ++ piece gap q z d s) := by
  apply ba_eq
  rw [by_append, by_append, by_append, by_mkS, by_mkS, by_runs, by_runs]
  unfold piece
  rw [if_neg (by omega), if_pos hd]; simp
theorem set_left0 {a : List UInt8} {gap : Int} {z : Int} {s : ByteArray} {q : Nat} {d : UInt8} (hd : d = 108) (hq : q = 0) : mkS a ++ (s ++ runs 32 (z - s.size)) = mkS (a ++ piece gap q z d s) := by
  apply ba_eq
  rw [by_append, by_append, by_mkS, by_mkS, by_runs]
  unfold piece
  rw [if_pos hq, if_pos hd]; simp
theorem set_right {a : List UInt8} {gap : Int} {z : Int} {s : ByteArray} {q : Nat} {d : UInt8} (hd : ¬ d = 108) (hq : 0 < q) : (mkS a ++ runs 32 gap) ++ (runs 32 (z - s.size) ++ s) = mkS (a ++ piece gap q z d s) := by
  apply ba_eq
  rw [by_append, by_append, by_append, by_mkS, by_mkS, by_runs, by_runs]
  unfold piece
  rw [if_neg (by omega), if_neg hd]; simp
theorem set_right0 {a : List UInt8} {gap : Int} {z : Int} {s : ByteArray} {q : Nat} {d : UInt8} (hd : ¬ d = 108) (hq : q = 0) : mkS a ++ (runs 32 (z - s.size) ++ s) = mkS (a ++ piece gap q z d s) := by
  apply ba_eq
  rw [by_append, by_append, by_mkS, by_mkS, by_runs]
  unfold piece
  rw [if_pos hq, if_neg hd]; simp

end Go.Proofs.Ytanpmjbephelaaa
