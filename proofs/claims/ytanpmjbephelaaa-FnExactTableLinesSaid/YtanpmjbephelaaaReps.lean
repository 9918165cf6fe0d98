/-
  A byte so many times: the program's repeat, the reference's loops over one byte.
-/
import Derived.Test.YtanpmjbephelaaaBytes
namespace Go.Proofs.Ytanpmjbephelaaa
set_option maxRecDepth 100000
open Go.RowKit

/-- Byte c, n times; none for a number below 1. -/
def runs (c : UInt8) (n : Int) : ByteArray := ⟨(List.replicate n.toNat c).toArray⟩
theorem runs_size (c : UInt8) (n : Int) : (runs c n).size = n.toNat := by simp [runs, ByteArray.size]
theorem by_runs (c : UInt8) (n : Int) : by_ (runs c n) = List.replicate n.toNat c := rfl
theorem by_one (c : UInt8) : by_ ⟨#[c]⟩ = [c] := rfl

set_option maxHeartbeats 400000 in
theorem repeat_any (w : World) (c : UInt8) (n : Int) (hn : n ≤ 1048576) :
    Calls Try.prog 80 #[.string ⟨#[c]⟩, .int .i64 n] w fun e w' => e = .returned (.string (runs c n)) ∧ Below w.heap.size w w' := by
  have h0 := Coll.empty (e := 5) (Below.refl w.heap.size w)
  have hsz1 : (⟨#[c]⟩ : ByteArray).size = 1 := rfl
  by_cases hp : 0 ≤ n
  · obtain ⟨m, rfl⟩ := Int.eq_ofNat_of_zero_le hp
    have hd : ¬ ((m : Int) < 0) := by omega
    go_enter Try.func80, Try.ntmps80
    go_wp2
    go_loopw [5, 9] (fun v i wr => ∃ (k : Nat) (acc : List UInt8), k ≤ m ∧ i = .int .i64 k ∧ Coll w wr 5 v (acc.map ub) ∧ acc = List.replicate k c) (fun _ i _ => m - (intOf i).toNat)
    case atStart => exact ⟨0, [], Nat.zero_le _, rfl, h0, rfl⟩
    case round =>
      clear h0
      obtain ⟨k, acc, hk, rfl, hco, ha⟩ := hrel
      have hal : acc.length = k := by rw [ha, List.length_replicate]
      have HA := hide ha
      have HL := hide hal
      clear ha
      by_cases hlt : k < m
      · have hle : acc.length ≤ k := by omega
        clear hal
        go_wp2_with (at_builtin; refine Coll.text hco (by rw [List.length_map]; omega) rfl _ _ rfl rfl rfl ?_; intro v1 w1 hc1 hg1)
        go_roundw
        case rel => exact ⟨k + 1, acc ++ [c], by omega, by go_num, by simpa [by_one] using hc1, by rw [HA.out, List.replicate_succ']⟩
        case measure => simp [intOf]; omega
      · have hkm : Hid (k = m) := by unfold Hid; omega
        have hst := hco.str
        clear hal
        go_wp2
        go_ret
        exact ⟨by rw [HA.out, hkm.out]; rfl, hco.below⟩
  · have hst := h0.str (l := [])
    go_enter Try.func80, Try.ntmps80
    go_wp2
    refine wp_loop_rounds 1 ?_
    rw [rounds_succ]
    go_wp2
    go_ret
    exact ⟨by rw [runs, show n.toNat = 0 from by omega]; rfl, h0.below⟩

theorem l08Blanks_any (w : World) (n : Int) (hn : n ≤ 1048576) :
    Calls Try.prog 71 #[.int .i64 n] w fun e w' => e = .returned (.string (runs 32 n)) ∧ Below w.heap.size w w' := by
  have h0 := Coll.empty (e := 5) (Below.refl w.heap.size w)
  by_cases hp : 0 ≤ n
  · obtain ⟨m, rfl⟩ := Int.eq_ofNat_of_zero_le hp
    go_enter Try.func71, Try.ntmps71
    go_wp2
    go_loopw [3, 4] (fun v i wr => ∃ (k : Nat) (acc : List UInt8), k ≤ m ∧ i = .int .i64 k ∧ Coll w wr 5 v (acc.map ub) ∧ acc = List.replicate k 32) (fun _ i _ => m - (intOf i).toNat)
    case atStart => exact ⟨0, [], Nat.zero_le _, rfl, h0, rfl⟩
    case round =>
      clear h0
      obtain ⟨k, acc, hk, rfl, hco, ha⟩ := hrel
      have hal : acc.length = k := by rw [ha, List.length_replicate]
      have HA := hide ha
      clear ha
      by_cases hlt : k < m
      · have hle : acc.length ≤ k := by omega
        clear hal
        go_wp2_with (at_builtin; refine Coll.push Try.underlying95 byte_info rfl (by decide) hco rfl (by rw [List.length_map]; omega) rfl _ _ rfl rfl rfl ?_; intro v1 w1 hc1 hg1)
        go_roundw
        case rel => exact ⟨k + 1, acc ++ [32], by omega, by go_num, by simpa [ub] using hc1, by rw [HA.out, List.replicate_succ']⟩
        case measure => simp [intOf]; omega
      · have hkm : Hid (k = m) := by unfold Hid; omega
        have hst := hco.str
        clear hal
        go_wp2
        go_ret
        exact ⟨by rw [HA.out, hkm.out]; rfl, hco.below⟩
  · have hst := h0.str (l := [])
    go_enter Try.func71, Try.ntmps71
    go_wp2
    refine wp_loop_rounds 1 ?_
    rw [rounds_succ]
    go_wp2
    go_ret
    exact ⟨by rw [runs, show n.toNat = 0 from by omega]; rfl, h0.below⟩
theorem l10Rule_any (w : World) (c : UInt8) (n : Int) (hn : n ≤ 1048576) :
    Calls Try.prog 79 #[.int .u8 c.toNat, .int .i64 n] w fun e w' => e = .returned (.string (runs c n)) ∧ Below w.heap.size w w' := by
  have h0 := Coll.empty (e := 5) (Below.refl w.heap.size w)
  by_cases hp : 0 ≤ n
  · obtain ⟨m, rfl⟩ := Int.eq_ofNat_of_zero_le hp
    go_enter Try.func79, Try.ntmps79
    go_wp2
    go_loopw [5, 6] (fun v i wr => ∃ (k : Nat) (acc : List UInt8), k ≤ m ∧ i = .int .i64 k ∧ Coll w wr 5 v (acc.map ub) ∧ acc = List.replicate k c) (fun _ i _ => m - (intOf i).toNat)
    case atStart => exact ⟨0, [], Nat.zero_le _, rfl, h0, rfl⟩
    case round =>
      clear h0
      obtain ⟨k, acc, hk, rfl, hco, ha⟩ := hrel
      have hal : acc.length = k := by rw [ha, List.length_replicate]
      have HA := hide ha
      clear ha
      by_cases hlt : k < m
      · have hle : acc.length ≤ k := by omega
        clear hal
        go_wp2_with (at_builtin; refine Coll.push Try.underlying95 byte_info rfl (by decide) hco rfl (by rw [List.length_map]; omega) rfl _ _ rfl rfl rfl ?_; intro v1 w1 hc1 hg1)
        go_roundw
        case rel => exact ⟨k + 1, acc ++ [c], by omega, by go_num, by simpa [ub] using hc1, by rw [HA.out, List.replicate_succ']⟩
        case measure => simp [intOf]; omega
      · have hkm : Hid (k = m) := by unfold Hid; omega
        have hst := hco.str
        clear hal
        go_wp2
        go_ret
        exact ⟨by rw [HA.out, hkm.out]; rfl, hco.below⟩
  · have hst := h0.str (l := [])
    go_enter Try.func79, Try.ntmps79
    go_wp2
    refine wp_loop_rounds 1 ?_
    rw [rounds_succ]
    go_wp2
    go_ret
    exact ⟨by rw [runs, show n.toNat = 0 from by omega]; rfl, h0.below⟩
end Go.Proofs.Ytanpmjbephelaaa
