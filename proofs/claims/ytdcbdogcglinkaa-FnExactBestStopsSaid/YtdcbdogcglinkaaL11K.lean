/-
  PlanBetween: what it returns, for all arguments.
-/
import Derived.Test.YtdcbdogcglinkaaL11J
namespace Go.Proofs.Ytdcbdogcglinkaa
set_option maxRecDepth 100000
open Go.RowKit

def planB (xs : List Int) (a b : Int) : ByteArray × Int := if colCode xs a b = 0 then (mkB (planOf xs b.toNat a.toNat), 0) else (⟨#[]⟩, colCode xs a b)
theorem planB_ok {xs : List Int} {a b : Int} (h : colCode xs a b = 0) : planB xs a b = (mkB (planOf xs b.toNat a.toNat), 0) := by unfold planB; rw [if_pos h]
theorem planB_bad {xs : List Int} {a b k : Int} (h : colCode xs a b = k) (hk : ¬ k = 0) : planB xs a b = (⟨#[]⟩, k) := by unfold planB; rw [h, if_neg hk]

set_option maxHeartbeats 400000 in
theorem PlanBetween_S (w : World) (A : Option Addr) (n c : Nat) (xs : List Int) (a b : Int) (h : Sl (Value.int .i64) w A n xs) :
    Calls Try.prog 32 #[.slice A n c, .int .i64 a, .int .i64 b] w fun e w' => e = .returned (.tuple #[.string (planB xs a b).1, .int .i64 (planB xs a b).2]) ∧ Below w.heap.size w w' := by
  by_cases hc : colCode xs a b = 0
  · obtain ⟨hok, ha, hb⟩ := colCode_ok hc
    have HR := hide (planB_ok hc)
    obtain ⟨an, rfl⟩ : ∃ an : Nat, a = an := ⟨a.toNat, by omega⟩
    obtain ⟨bn, rfl⟩ : ∃ bn : Nat, b = bn := ⟨b.toNat, by omega⟩
    have HX := hide (okStops_all hok)
    have ha31 : an ≤ 30 := by omega
    have hb31 : bn ≤ 30 := by omega
    have HFR := hide (dist_far HX.out hb31)
    replace hc := hide hc
    clear hok
    go_enter Try.func32, Try.ntmps32
    go_wp2_with (go_at_call 48; refine (l11Code_any _ _ _ _ xs _ _ h).mono ?_; rintro e w1 ⟨rfl, hb1⟩; rw [hc.out])
    refine (l11Far_dist _ _ _ _ xs bn (h.on hb1) HX.out hb31).mono ?_
    rintro e w2 ⟨rfl, hO, hb2⟩
    have hFA := hO.far
    clear hO
    go_wp2_with fail
    refine (l11Moves_any _ _ _ _ xs _ bn an _ ((h.on hb1).on hb2) HX.out hb31 HFR.out hFA ha31).mono ?_
    rintro e w3 ⟨rfl, hb3⟩
    go_wp2
    go_ret2
    exact ⟨by rw [HR.out]; rfl, Below.step (Below.step hb1 hb2) hb3⟩
  · rcases colCode_bad hc with hk | hk
    all_goals
      have HR := hide (planB_bad hk (by decide))
      replace hk := hide hk
      clear hc
      go_enter Try.func32, Try.ntmps32
      go_wp2_with (go_at_call 48; refine (l11Code_any _ _ _ _ xs _ _ h).mono ?_; rintro e w1 ⟨rfl, hb1⟩; rw [hk.out])
      go_ret2
      exact ⟨by rw [HR.out]; rfl, hb1⟩
set_option maxHeartbeats 400000 in
theorem PlanBetween_I (w : World) (A : Option Addr) (n c : Nat) (xs : List Int) (a b : Int) (h : Sl (Value.int .i64) w A n xs) :
    Calls Try.prog 33 #[.slice A n c, .int .i64 a, .int .i64 b] w fun e w' => e = .returned (.tuple #[.string (planB xs a b).1, .int .i64 (planB xs a b).2]) ∧ Below w.heap.size w w' := by
  by_cases hc : colCode xs a b = 0
  · obtain ⟨hok, ha, hb⟩ := colCode_ok hc
    have HR := hide (planB_ok hc)
    obtain ⟨an, rfl⟩ : ∃ an : Nat, a = an := ⟨a.toNat, by omega⟩
    obtain ⟨bn, rfl⟩ : ∃ bn : Nat, b = bn := ⟨b.toNat, by omega⟩
    have HX := hide (okStops_all hok)
    have ha31 : an ≤ 30 := by omega
    have hb31 : bn ≤ 30 := by omega
    replace hc := hide hc
    clear hok
    go_enter Try.func33, Try.ntmps33
    go_wp2_with (go_at_call 50; refine (columnsCode_any _ _ _ _ xs _ _ h).mono ?_; rintro e w1 ⟨rfl, hb1⟩; rw [hc.out])
    refine (planBetween_any _ _ _ _ xs bn an (h.on hb1) HX.out hb31 ha31).mono ?_
    rintro e w2 ⟨rfl, hb2⟩
    go_wp2
    go_ret2
    exact ⟨by rw [HR.out]; rfl, Below.step hb1 hb2⟩
  · rcases colCode_bad hc with hk | hk
    all_goals
      have HR := hide (planB_bad hk (by decide))
      replace hk := hide hk
      clear hc
      go_enter Try.func33, Try.ntmps33
      go_wp2_with (go_at_call 50; refine (columnsCode_any _ _ _ _ xs _ _ h).mono ?_; rintro e w1 ⟨rfl, hb1⟩; rw [hk.out])
      go_ret2
      exact ⟨by rw [HR.out]; rfl, hb1⟩
end Go.Proofs.Ytdcbdogcglinkaa
