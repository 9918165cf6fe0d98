/-
  Rules by value: is a rule valid; OverText and ReadOver: what each returns, for all arguments.
-/
import Derived.Test.YtokdbkkjneadgaaL12B
namespace Go.Proofs.Ytokdbkkjneadgaa
set_option maxRecDepth 100000
open Go.RowKit

/-! ### the helpers of the laws -/
def szOver3 (left : Int) (x y z : ByteArray) : Int := if left < (x.size : Int) + y.size + z.size then -1 else left - x.size - y.size - z.size
theorem szOver3_le {left : Int} {x y z : ByteArray} (h : 0 ≤ szOver3 left x y z) : (x.size : Int) ≤ left ∧ (y.size : Int) ≤ left ∧ (z.size : Int) ≤ left := by
  unfold szOver3 at h
  split at h <;> omega
theorem szOver3_left {left : Int} {x y z : ByteArray} (h0 : 0 ≤ left) : -1 ≤ szOver3 left x y z ∧ szOver3 left x y z ≤ left := by
  unfold szOver3
  split <;> omega
theorem szOver_any (w : World) (x y z : ByteArray) (left : Int) (hx : x.size ≤ 9223372036854775807) (hy : y.size ≤ 9223372036854775807) (hz : z.size ≤ 9223372036854775807) (h0 : 0 ≤ left) (h1 : left ≤ 1048576) :
    Calls Try.prog 20 #[.agg #[.string x, .string y, .string z], .int .i64 left] w fun e w' => e = .returned (.int .i64 (szOver3 left x y z)) ∧ Below w.heap.size w w' := by
  by_cases a1 : left - (x.size : Int) < 0
  · have HR : Hid (szOver3 left x y z = -1) := by unfold Hid szOver3; rw [if_pos (by omega)]
    go_enter Try.func20, Try.ntmps20
    go_wp2
    go_ret
    exact ⟨ret_int HR.out.symm, by (repeat first | exact Below.refl _ _ | (refine Below.alloc ?_ (by go_size) _) | (refine Below.step ?_ (by assumption)))⟩
  · by_cases a2 : left - (x.size : Int) - (y.size : Int) < 0
    · have HR : Hid (szOver3 left x y z = -1) := by unfold Hid szOver3; rw [if_pos (by omega)]
      go_enter Try.func20, Try.ntmps20
      go_wp2
      go_ret
      exact ⟨ret_int HR.out.symm, by (repeat first | exact Below.refl _ _ | (refine Below.alloc ?_ (by go_size) _) | (refine Below.step ?_ (by assumption)))⟩
    · by_cases a3 : left - (x.size : Int) - (y.size : Int) - (z.size : Int) < 0
      · have HR : Hid (szOver3 left x y z = -1) := by unfold Hid szOver3; rw [if_pos (by omega)]
        go_enter Try.func20, Try.ntmps20
        go_wp2
        go_ret
        exact ⟨ret_int HR.out.symm, by (repeat first | exact Below.refl _ _ | (refine Below.alloc ?_ (by go_size) _) | (refine Below.step ?_ (by assumption)))⟩
      · have HR : Hid (szOver3 left x y z = left - x.size - y.size - z.size) := by unfold Hid szOver3; rw [if_neg (by omega)]
        go_enter Try.func20, Try.ntmps20
        go_wp2
        go_ret
        exact ⟨ret_int HR.out.symm, by (repeat first | exact Below.refl _ _ | (refine Below.alloc ?_ (by go_size) _) | (refine Below.step ?_ (by assumption)))⟩

theorem toOver_any (x y z : ByteArray) (w : World) :
    Calls Try.prog 22 #[.agg #[.string x, .string y, .string z]] w fun e w' => e = .returned (.agg #[.string x, .string y, .string z]) ∧ Below w.heap.size w w' := by
  go_enter Try.func22, Try.ntmps22
  go_wp2
  go_returns
  exact ⟨rfl, by (repeat first | exact Below.refl _ _ | (refine Below.alloc ?_ (by go_size) _) | (refine Below.step ?_ (by assumption)))⟩

theorem eqOver_same (x y z : ByteArray) (w : World) :
    Calls Try.prog 19 #[.agg #[.string x, .string y, .string z], .agg #[.string x, .string y, .string z]] w fun e w' => e = .returned (.bool true) ∧ Below w.heap.size w w' := by
  go_enter Try.func19, Try.ntmps19
  go_wp2
  go_ret
  exact ⟨rfl, by (repeat first | exact Below.refl _ _ | (refine Below.alloc ?_ (by go_size) _) | (refine Below.step ?_ (by assumption)))⟩

/-! ### is a rule valid -/
def sameT (a b : ByteArray) : Bool := a.toList == b.toList
theorem sameT_comm (a b : ByteArray) : sameT a b = sameT b a := by
  unfold sameT; rw [Bool.eq_iff_iff, beq_iff_eq, beq_iff_eq]; exact eq_comm
def ovOk (x y z : ByteArray) : Bool := isLet x && isLet y && isLet z && !sameT x y && !sameT x z && !sameT y z
theorem ovOk_iff {x y z : ByteArray} : ovOk x y z = true ↔ isLet x = true ∧ isLet y = true ∧ isLet z = true ∧ sameT x y = false ∧ sameT x z = false ∧ sameT y z = false := by
  simp [ovOk, and_assoc]

theorem validOver_any (w : World) (x y z : ByteArray) (hx : x.size ≤ 1048576) (hy : y.size ≤ 1048576) (hz : z.size ≤ 1048576) :
    Calls Try.prog 60 #[.agg #[.string x, .string y, .string z]] w fun e w' => e = .returned (.bool (ovOk x y z)) ∧ Below w.heap.size w w' := by
  obtain ⟨r, hr⟩ : ∃ r, ovOk x y z = r := ⟨_, rfl⟩
  have HR := hide hr
  rw [hr]
  unfold ovOk sameT at hr
  by_cases h1 : isLet x = true
  case' neg => replace h1 : isLet x = false := by simpa using h1
  case' pos =>
    by_cases h2 : isLet y = true
    case' neg => replace h2 : isLet y = false := by simpa using h2
    case' pos =>
      by_cases h3 : isLet z = true
      case' neg => replace h3 : isLet z = false := by simpa using h3
      case' pos =>
        by_cases h4 : (x.toList == y.toList) = true
        case' neg => replace h4 : (x.toList == y.toList) = false := by simpa using h4
        case' neg =>
          by_cases h5 : (x.toList == z.toList) = true
          case' neg => replace h5 : (x.toList == z.toList) = false := by simpa using h5
          case' neg =>
            by_cases h6 : (y.toList == z.toList) = true
            case' neg => replace h6 : (y.toList == z.toList) = false := by simpa using h6
  all_goals
    simp [*] at hr
    subst hr
    go_enter Try.func60, Try.ntmps60
    go_wp2_with (go_at_call 85; refine (isLetter_any _ _ (by omega)).mono ?_; rintro e w1 ⟨rfl, rfl⟩)
    go_ret
    exact ⟨rfl, by (repeat first | exact Below.refl _ _ | (refine Below.alloc ?_ (by go_size) _) | (refine Below.step ?_ (by assumption)))⟩
end Go.Proofs.Ytokdbkkjneadgaa
