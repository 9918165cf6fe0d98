/-
  DearestPair of the program: what it returns, for all arguments.
-/
import Derived.Test.YtanpmjbephelaaaL07G
namespace Go.Proofs.Ytanpmjbephelaaa
set_option maxRecDepth 100000
open Go.RowKit

set_option maxHeartbeats 1600000 in
theorem DearestPair_I (w : World) (A : Option Addr) (n c : Nat) (xs : List Pl) (s t : ByteArray) (h : Sl3 (Value.int .i64) w A n xs) (hs : s.size ≤ 1048576) (ht : t.size ≤ 1048576) :
    Calls Try.prog 50 #[.slice A n c, .string s, .string t] w fun e w' => e = .returned (.tuple #[.int .i64 (dearR xs s t).1, .int .i64 (dearR xs s t).2]) ∧ Below w.heap.size w w' := by
  by_cases h0 : codeB xs s t = 0
  · have HQ := hide (asked h.len h0)
    have HC := hide h0
    have HSR : Hid (strokesR xs s t = (psOf s t).map fun q : Nat => (q : Int)) := by unfold Hid strokesR; rw [if_pos h0]; exact HQ.out.pl
    have HPL : Hid (((psOf s t).map fun q : Nat => (q : Int)).length = t.size) := by unfold Hid psOf; rw [List.length_map, List.length_map, by_len]
    have t4 := HQ.out.t400
    by_cases h2 : t.size < 2
    · have HR : Hid (dearR xs s t = (0, 3)) := by unfold Hid dearR; rw [if_pos h0, if_pos h2]
      clear h0
      go_enter Try.func50, Try.ntmps50
      go_wp2_with fail
      refine (strokesOf_any _ _ _ _ xs s t h hs ht).mono ?_
      rintro e w1 ⟨v1, rfl, hc1⟩
      rw [HSR.out] at hc1
      obtain ⟨A1, c1, rfl, -, -, -⟩ := Sl.of_coll hc1
      have hb1 := hide hc1.below
      rw [HC.out, HPL.out]
      clear hc1
      go_wp2
      go_ret2
      exact ⟨by rw [HR.out]; rfl, hb1.out⟩
    · obtain ⟨cs, hcs⟩ : ∃ cs, costsGo xs none (psOf s t) = cs := ⟨_, rfl⟩
      have hcl : cs.length = t.size := by rw [← hcs, costsGo_len]; unfold psOf; rw [List.length_map, by_len]
      have HR : Hid (dearR xs s t = ((bestGo 1 1 (-1) (cs.drop 1) : Int), 0)) := by
        unfold Hid dearR
        rw [if_pos h0, if_neg h2, hcs]
      have HCS := hide hcs
      have HCL := hide hcl
      clear h0 hcs hcl
      go_enter Try.func50, Try.ntmps50
      go_wp2_with fail
      refine (strokesOf_any _ _ _ _ xs s t h hs ht).mono ?_
      rintro e w1 ⟨v1, rfl, hc1⟩
      rw [HSR.out] at hc1
      obtain ⟨A1, c1, rfl, -, -, hs1⟩ := Sl.of_coll hc1
      have hb1 := hc1.below
      rw [HPL.out] at hs1 ⊢
      rw [HC.out]
      clear hc1
      go_wp2
      go_loopw [10, 11, 12] (fun bv mv iv wr => ∃ (k b : Nat) (z : Int), 1 ≤ k ∧ k ≤ t.size ∧ b ≤ k ∧ -1 ≤ z ∧ z ≤ 75 ∧ iv = .int .i64 k ∧ bv = .int .i64 b ∧ mv = .int .i64 z ∧ Below w1.heap.size w1 wr ∧ bestGo k b z (cs.drop k) = bestGo 1 1 (-1) (cs.drop 1)) (fun _ _ iv _ => t.size - (intOf iv).toNat)
      case atStart => exact ⟨1, 1, -1, Nat.le_refl _, by omega, Nat.le_refl _, by omega, by omega, rfl, rfl, rfl, Below.refl _ _, rfl⟩
      case round =>
        obtain ⟨k, b, z, hk1, hk, hbk, hz0, hz1, rfl, rfl, rfl, hb, HG⟩ := hrel
        by_cases hlt : k < t.size
        · obtain ⟨p, hp, hpn⟩ := HQ.out.ps (k - 1) (by omega)
          obtain ⟨q, hq, hqn⟩ := HQ.out.ps k hlt
          have hy : cs[k]? = some (costAt xs p q) := by rw [← HCS.out]; exact costsGo_get (by omega) hp hq
          have hyb := costAt_bd (xs := xs) (i := p) (j := q) (by rw [HQ.out.len]; exact hpn) (by rw [HQ.out.len]; exact hqn) HQ.out.ok
          obtain ⟨b4, o4, p', rfl, hp', hcp⟩ := hs1.at_ hb (show k - 1 < t.size by omega)
          have hpp : p' = (p : Int) := by rw [List.getElem?_map, hp] at hp'; simpa using hp'.symm
          subst hpp
          have hcq := hs1.cell hb (k := k) (x := (q : Int)) (by rw [List.getElem?_map, hq]; rfl)
          have hki : ((k : Int) - 1).toNat = k - 1 := by omega
          have hk0i : (0 : Int) ≤ (k : Int) - 1 := by omega
          have hk1i : (k : Int) - 1 < (t.size : Int) := by omega
          have hk2i : (k : Int) < (t.size : Int) := by omega
          have hk3i : (0 : Int) ≤ (k : Int) := by omega
          have hk4i : (1 : Int) ≤ (k : Int) := by omega
          have hkw : IntKind.i64.wrap ((k : Int) - 1) = (k : Int) - 1 := IntWalk.i64_in _ (by omega)
          rw [drop_get hy, bestGo] at HG
          obtain ⟨y, hye⟩ : ∃ y, costAt xs p q = y := ⟨_, rfl⟩
          rw [hye] at HG hyb
          have HY := hide hye
          have HW1 := hide ((h.on hb1).on hb)
          have HWD : Hid (Sl3 (Value.int .i64) _ _ n xs) := hide HW1.out.draw1
          by_cases hyz : z < y
          · rw [if_pos hyz] at HG
            have HG2 := hide HG
            clear HG hy hp hq hp' hye
            go_wp2
            go_region_law (go_simp; go_at_call 93; refine (strokeCost_any _ _ _ _ xs p q HWD.out hpn hqn HQ.out.ok).mono ?_; rintro e w5 ⟨rfl, hb5⟩; rw [HY.out])
            all_goals
              go_wp2
              go_roundw
              case rel => exact ⟨k + 1, k, y, by omega, by omega, by omega, by omega, by omega, by go_num, rfl, rfl, Below.step hb.drew hb5, HG2.out⟩
              case measure => simp [intOf]; omega
          · rw [if_neg hyz] at HG
            have HG2 := hide HG
            clear HG hy hp hq hp' hye
            go_wp2
            go_region_law (go_simp; go_at_call 93; refine (strokeCost_any _ _ _ _ xs p q HWD.out hpn hqn HQ.out.ok).mono ?_; rintro e w5 ⟨rfl, hb5⟩; rw [HY.out])
            all_goals
              go_wp2
              go_roundw
              case rel => exact ⟨k + 1, b, z, by omega, by omega, by omega, by omega, by omega, by go_num, rfl, rfl, Below.step hb.drew hb5, HG2.out⟩
              case measure => simp [intOf]; omega
        · rw [List.drop_eq_nil_of_le (by rw [HCL.out]; omega), bestGo] at HG
          have HG2 := hide HG
          clear HG
          go_wp2
          go_ret2
          exact ⟨by rw [HR.out, ← HG2.out]; rfl, Below.step hb1 hb⟩
  · have HR : Hid (dearR xs s t = (0, codeB xs s t)) := by unfold Hid dearR; rw [if_neg h0]
    obtain ⟨q, hq⟩ : ∃ q, codeB xs s t = q := ⟨_, rfl⟩
    have HQ := hide hq
    have HS : Hid (strokesR xs s t = []) := by unfold Hid strokesR; rw [if_neg h0]
    rw [hq] at h0
    have hq1 : (q == 0) = false := beq_eq_false_iff_ne.2 h0
    have hq2 : (q != 0) = true := by rw [bne, hq1]; rfl
    clear hq h0
    go_enter Try.func50, Try.ntmps50
    go_wp2_with fail
    refine (strokesOf_any _ _ _ _ xs s t h hs ht).mono ?_
    rintro e w1 ⟨v1, rfl, hc1⟩
    obtain ⟨A1, c1, rfl, -, -, -⟩ := Sl.of_coll hc1
    have hb1 := hide hc1.below
    rw [HQ.out]
    clear hc1
    go_wp2
    go_ret2
    exact ⟨by rw [HR.out, HQ.out]; rfl, hb1.out⟩
end Go.Proofs.Ytanpmjbephelaaa
