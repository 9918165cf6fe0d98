/-
  Do numbers rise, within bounds: the contract of the reference's l00Rises; and small leaves.
-/
import Derived.Test.YtanpmjbephelaaaWords
namespace Go.Proofs.Ytanpmjbephelaaa
set_option maxRecDepth 100000
open Go.RowKit

theorem quiet_left {P : Program} {f : FuncId} {args : Array Value} {w : World} {n : Nat} {v : Value}
    (h : Calls P f args (w.drewN n) fun e w' => e = .returned v ∧ w.drewN n = w') : Calls P f args (w.drewN n) fun e w'' => e = .returned v ∧ ∃ m, w'' = w.drewN m :=
  h.mono fun _ _ ⟨he, hm⟩ => ⟨he, n, hm.symm⟩

theorem l00In_any (n lo hi : Int) (w : World) :
    Calls Try.prog 70 #[.int .i64 n, .int .i64 lo, .int .i64 hi] w fun e w' => e = .returned (.bool (inB n lo hi)) ∧ w = w' := by
  go_enter Try.func70, Try.ntmps70
  go_wp2
  all_goals go_ret
  all_goals (refine ⟨?_, rfl⟩; simp [inB]; try omega)

def notAbove : Option Int → Int → Bool
  | none, _ => false
  | some y, x => decide (x ≤ y)
def rises (lo hi : Int) : Option Int → List Int → Bool
  | _, [] => true
  | p, x :: xs => if inB x lo hi = true then (if notAbove p x = true then false else rises lo hi (some x) xs) else false
def prev (xs : List Int) (k : Nat) : Option Int := if k = 0 then none else xs[k - 1]?

set_option maxHeartbeats 400000 in
theorem l00Rises_any (w : World) (A : Option Addr) (n c : Nat) (xs : List Int) (lo hi : Int) (h : Sl (Value.int .i64) w A n xs) :
    Calls Try.prog 95 #[.slice A n c, .int .i64 lo, .int .i64 hi] w fun e w' => e = .returned (.bool (rises lo hi none xs)) ∧ Below w.heap.size w w' := by
  have hn := h.max
  go_enter Try.func95, Try.ntmps95
  go_wp2
  go_loopw [7] (fun i wr => ∃ k : Nat, k ≤ n ∧ i = .int .i64 k ∧ Below w.heap.size w wr ∧ rises lo hi (prev xs k) (xs.drop k) = rises lo hi none xs) (fun i _ => n - (intOf i).toNat)
  case atStart => exact ⟨0, Nat.zero_le _, rfl, Below.refl _ _, by simp [prev]⟩
  case round =>
    obtain ⟨k, hk, rfl, hb, HR⟩ := hrel
    by_cases hlt : k < n
    · obtain ⟨b, o, x, rfl, hx, hc⟩ := h.at_ hb hlt
      rw [drop_get hx, rises] at HR
      by_cases hin : inB x lo hi = true
      · rw [if_pos hin] at HR
        by_cases hk0 : 0 < k
        · obtain ⟨b', o', y, hA, hy, hc'⟩ := h.at_ hb (show k - 1 < n by omega)
          obtain ⟨rfl, rfl⟩ : b = b' ∧ o = o' := by simpa using hA
          have hp : prev xs k = some y := by rw [prev, if_neg (by omega)]; exact hy
          rw [hp, notAbove] at HR
          have hd : decide ((0 : Int) < (k : Int)) = true := by rw [decide_eq_true_eq]; omega
          have hidx : ((k : Int) - 1).toNat = k - 1 := by omega
          have hidx2 : (0 : Int) ≤ (k : Int) - 1 := by omega
          by_cases hxy : x ≤ y
          · rw [if_pos (by simpa using hxy)] at HR
            have H2 := hide HR
            clear HR hx hy hA hp
            go_wp2
            go_quiet ((go_at_call 70; exact quiet_left (l00In_any _ _ _ _)))
            go_wp2
            go_ret
            exact ⟨ret_bool H2.out, below_drewN hb _⟩
          · rw [if_neg (by simpa using hxy)] at HR
            have H2 : Hid (rises lo hi (prev xs (k + 1)) (xs.drop (k + 1)) = rises lo hi none xs) := by
              rw [prev, if_neg (by omega), Nat.add_sub_cancel, hx]; exact HR
            clear HR hx hy hA hp
            go_wp2
            go_quiet ((go_at_call 70; exact quiet_left (l00In_any _ _ _ _)))
            go_wp2
            go_roundw
            case rel => exact ⟨k + 1, by omega, by go_num, below_drewN hb _, H2.out⟩
            case measure => simp [intOf]; omega
        · have hp : prev xs k = none := by rw [prev, if_pos (by omega)]
          rw [hp, notAbove, if_neg (by simp)] at HR
          have hd : decide ((0 : Int) < (k : Int)) = false := by rw [decide_eq_false_iff_not]; omega
          have H2 : Hid (rises lo hi (prev xs (k + 1)) (xs.drop (k + 1)) = rises lo hi none xs) := by
            rw [prev, if_neg (by omega), Nat.add_sub_cancel, hx]; exact HR
          clear HR hx hp
          go_wp2
          go_quiet ((go_at_call 70; exact quiet_left (l00In_any _ _ _ _)))
          go_wp2
          go_roundw
          case rel => exact ⟨k + 1, by omega, by go_num, below_drewN hb _, H2.out⟩
          case measure => simp [intOf]; omega
      · rw [if_neg hin] at HR
        replace hin : inB x lo hi = false := by simpa using hin
        have H2 := hide HR
        clear HR hx
        go_wp2
        go_quiet ((go_at_call 70; exact quiet_left (l00In_any _ _ _ _)))
        go_wp2
        go_ret
        exact ⟨ret_bool H2.out, below_drewN hb _⟩
    · have hkn : k = n := by omega
      rw [h.end_ hlt, rises] at HR
      have H2 := hide HR
      clear HR hkn
      go_wp2
      go_ret
      exact ⟨ret_bool H2.out, hb⟩
end Go.Proofs.Ytanpmjbephelaaa
