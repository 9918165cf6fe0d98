/-
  BackSpaces, RuleLine, RightText, CentreText, LeaderLine: what each returns, for all arguments.
-/
import Derived.Test.YtanpmjbephelaaaL10A
namespace Go.Proofs.Ytanpmjbephelaaa
set_option maxRecDepth 100000
open Go.RowKit

theorem isSet_size {s : ByteArray} (h : isSet s = true) : s.size ≤ 100 := by
  rw [isSet, isTxt, Bool.and_eq_true, Bool.and_eq_true, decide_eq_true_eq] at h
  omega
theorem ret_si {s t : ByteArray} {a b : Int} (h : s = t) (h2 : a = b) : Ending.returned (.tuple #[.string s, .int .i64 a]) = .returned (.tuple #[.string t, .int .i64 b]) := by rw [h, h2]

/-! ### BackSpaces -/
def backSpaces (s : ByteArray) : Int × Int := if isSet s = true then (((s.size : Int) + 1) / 2, 0) else (0, 2)

/-! ### RuleLine -/
def ruleLine (s : ByteArray) (n : Int) : ByteArray × Int := if isLet s = true ∧ inB n 1 100 = true then (runs ((by_ s).headD 0) n, 0) else (⟨#[]⟩, 2)

/-! ### RightText, CentreText -/
def setCode (s : ByteArray) (n : Int) : Int := if isSet s = true ∧ inB n 1 100 = true then (if n < (s.size : Int) then 5 else 0) else 2
def rightText (s : ByteArray) (n : Int) : ByteArray × Int := if setCode s n = 0 then (runs 32 (n - s.size) ++ s, 0) else (⟨#[]⟩, setCode s n)
def centreText (s : ByteArray) (n : Int) : ByteArray × Int := if setCode s n = 0 then (runs 32 ((n - s.size) / 2) ++ s, 0) else (⟨#[]⟩, setCode s n)

theorem setCode_bd {s : ByteArray} {n : Int} (h : setCode s n = 0) : (s.size : Int) ≤ n ∧ 1 ≤ n ∧ n ≤ 100 := by
  unfold setCode at h
  split at h
  · rename_i h1
    have := inB_iff.1 h1.2
    split at h
    · omega
    · omega
  · omega


theorem centred_any (w : World) (s : ByteArray) (room : Int) (hs : s.size ≤ 1048576) (h0 : 0 ≤ room) (h1 : room ≤ 100) :
    Calls Try.prog 75 #[.string s, .int .i64 room] w fun e w' => e = .returned (.string (runs 32 (room / 2) ++ s)) ∧ Below w.heap.size w w' := by
  have hsz : (runs 32 (room / 2)).size ≤ 100 := by rw [runs_size]; omega
  go_enter Try.func75, Try.ntmps75
  go_wp2_with (go_at_call 80; refine (repeat_any _ _ _ (by omega)).mono ?_; rintro e w1 ⟨rfl, hb⟩)
  go_ret
  exact ⟨rfl, hb⟩

end Go.Proofs.Ytanpmjbephelaaa
