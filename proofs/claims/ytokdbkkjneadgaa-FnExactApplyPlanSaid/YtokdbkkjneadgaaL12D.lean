/-
  OverText, ReadOver: what each returns, for all arguments.
-/
import Derived.Test.YtokdbkkjneadgaaL12C
namespace Go.Proofs.Ytokdbkkjneadgaa
set_option maxRecDepth 100000
open Go.RowKit

theorem quiet_left {P : Program} {f : FuncId} {args : Array Value} {w : World} {n : Nat} {v : Value}
    (h : Calls P f args (w.drewN n) fun e w' => e = .returned v ∧ w.drewN n = w') : Calls P f args (w.drewN n) fun e w'' => e = .returned v ∧ ∃ m, w'' = w.drewN m :=
  h.mono fun _ _ ⟨he, hm⟩ => ⟨he, n, hm.symm⟩


theorem l02Letter_is (w : World) (s : ByteArray) (r : Bool) (h : isLet s = r) (hs : s.size ≤ 1048576) :
    Calls Try.prog 84 #[.string s] w fun e w' => e = .returned (.bool r) ∧ w = w' := by
  rw [← h]; exact l02Letter_any w s (by omega)
set_option maxHeartbeats 1000000 in
theorem l12One_any (w : World) (b o : Nat) (x y z : ByteArray) (hx : x.size ≤ 1048576) (hy : y.size ≤ 1048576) (hz : z.size ≤ 1048576)
    (c0 : w.cell? ⟨b, o, none⟩ = some (.string x)) (c1 : w.cell? ⟨b, o + 1, none⟩ = some (.string y)) (c2 : w.cell? ⟨b, o + 2, none⟩ = some (.string z)) :
    Calls Try.prog 59 #[.pointer (some ⟨b, o, none⟩)] w fun e w' => e = .returned (.bool (ovOk x y z)) ∧ Below w.heap.size w w' := by
  have hr : Hid (ovOk x y z = (isLet x && isLet y && isLet z && !(x.toList == y.toList) && !(x.toList == z.toList) && !(y.toList == z.toList))) := rfl
  go_enter Try.func59, Try.ntmps59
  go_wp2
  refine wp_region_quiet_lit ?_ ?_ ?_
  case refine_1 => kernel_rfl
  case refine_2 => kernel_rfl
  case refine_3 =>
    by_cases h1 : isLet x = true
    case' neg => replace h1 : isLet x = false := by simpa using h1
    case' pos =>
      by_cases h2 : isLet y = true
      case' neg => replace h2 : isLet y = false := by simpa using h2
      case' pos =>
        by_cases h3 : isLet z = true
        case' neg => replace h3 : isLet z = false := by simpa using h3
        case' pos =>
          by_cases h4 : (x.toList == z.toList) = true
          case' neg => replace h4 : (x.toList == z.toList) = false := by simpa using h4
          case' neg =>
            by_cases h5 : (y.toList == z.toList) = true
            case' neg => replace h5 : (y.toList == z.toList) = false := by simpa using h5
            case' neg =>
              by_cases h6 : (x.toList == y.toList) = true
              case' neg => replace h6 : (x.toList == y.toList) = false := by simpa using h6
    all_goals
      repeat (go_big_quiet_step ((go_at_call 84; exact quiet_left (l02Letter_is _ _ _ (by assumption) (by assumption)))))
      refine wpQuiet_nil ?_
      intro _ hw'
      obtain ⟨nq, hw''⟩ := hw'
      subst hw''
      go_wp2
      go_ret
      exact ⟨ret_bool (by rw [hr.out]; simp [*]), below_drewN (Below.refl _ _) _⟩
end Go.Proofs.Ytokdbkkjneadgaa
