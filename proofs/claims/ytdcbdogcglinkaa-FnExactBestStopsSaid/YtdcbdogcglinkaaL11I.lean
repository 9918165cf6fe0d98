/-
  MovesBetween; the least moves, by the reference and by the program.
-/
import Derived.Test.YtdcbdogcglinkaaL11H
import Derived.Test.YtdcbdogcglinkaaL11F
namespace Go.Proofs.Ytdcbdogcglinkaa
set_option maxRecDepth 100000
open Go.RowKit

theorem numF_congr {f g : Nat → Nat} (h : ∀ q, q < 31 → f q = g q) : numF f = numF g := by
  unfold numF
  refine List.map_congr_left fun q hq => ?_
  rw [h q (List.mem_range.1 hq)]
theorem l11Far_dist (w : World) (A : Option Addr) (n c : Nat) (xs : List Int) (to : Nat) (h : Sl (Value.int .i64) w A n xs) (hx : ∀ x ∈ xs, 1 ≤ x ∧ x ≤ 30) (hto : to ≤ 30) :
    Calls Try.prog 49 #[.slice A n c, .int .i64 to] w fun e w' => e = .returned (.slice (some ⟨w.heap.size, 0, none⟩) 31 31) ∧ Own31 w.heap.size w' w.heap.size (dist xs to) ∧ Below w.heap.size w w' := by
  refine (l11Far_any w A n c xs to h hx hto).mono ?_
  rintro e w1 ⟨f, rfl, hO, hb, hF⟩
  refine ⟨rfl, ?_, hb⟩
  unfold Own31 at hO ⊢
  rw [← numF_congr (f := f) fun q hq => hF.unique hx (dist_far hx hto) (by omega)]
  exact hO

def movesB (xs : List Int) (a b : Int) : Int × Int := if colCode xs a b = 0 then (((dist xs b.toNat a.toNat : Nat) : Int), 0) else (0, colCode xs a b)
theorem colCode_bad {xs : List Int} {a b : Int} (h : ¬ colCode xs a b = 0) : colCode xs a b = 1 ∨ colCode xs a b = 2 := by
  unfold colCode at h ⊢
  split
  · split
    · rename_i h1 h2; rw [if_pos h1, if_pos h2] at h; exact absurd rfl h
    · exact .inr rfl
  · exact .inl rfl
theorem movesB_ok {xs : List Int} {a b : Int} (h : colCode xs a b = 0) : movesB xs a b = (((dist xs b.toNat a.toNat : Nat) : Int), 0) := by unfold movesB; rw [if_pos h]
theorem movesB_bad {xs : List Int} {a b k : Int} (h : colCode xs a b = k) (hk : ¬ k = 0) : movesB xs a b = (0, k) := by unfold movesB; rw [h, if_neg hk]

set_option maxHeartbeats 400000 in
theorem MovesBetween_S (w : World) (A : Option Addr) (n c : Nat) (xs : List Int) (a b : Int) (h : Sl (Value.int .i64) w A n xs) :
    Calls Try.prog 26 #[.slice A n c, .int .i64 a, .int .i64 b] w fun e w' => e = .returned (.tuple #[.int .i64 (movesB xs a b).1, .int .i64 (movesB xs a b).2]) ∧ Below w.heap.size w w' := by
  by_cases hc : colCode xs a b = 0
  · obtain ⟨hok, ha, hb⟩ := colCode_ok hc
    have HR := hide (movesB_ok hc)
    obtain ⟨an, rfl⟩ : ∃ an : Nat, a = an := ⟨a.toNat, by omega⟩
    obtain ⟨bn, rfl⟩ : ∃ bn : Nat, b = bn := ⟨b.toNat, by omega⟩
    have HX := hide (okStops_all hok)
    have ha31 : an < 31 := by omega
    replace hc := hide hc
    clear hok
    go_enter Try.func26, Try.ntmps26
    go_wp2_with (go_at_call 48; refine (l11Code_any _ _ _ _ xs _ _ h).mono ?_; rintro e w1 ⟨rfl, hb1⟩; rw [hc.out])
    refine (l11Far_dist _ _ _ _ xs bn (h.on hb1) HX.out (by omega)).mono ?_
    rintro e w2 ⟨rfl, hO, hb2⟩
    have hcell := hO.get ha31
    clear hO
    go_wp2
    go_ret2
    exact ⟨by rw [HR.out]; rfl, Below.step hb1 hb2⟩
  · rcases colCode_bad hc with hk | hk
    all_goals
      have HR := hide (movesB_bad hk (by decide))
      replace hk := hide hk
      clear hc
      go_enter Try.func26, Try.ntmps26
      go_wp2_with (go_at_call 48; refine (l11Code_any _ _ _ _ xs _ _ h).mono ?_; rintro e w1 ⟨rfl, hb1⟩; rw [hk.out])
      go_ret2
      exact ⟨by rw [HR.out]; rfl, hb1⟩
theorem int64_size : (Try.prog.info? 2).map (·.size) = some 1 := by kernel_rfl
set_option maxHeartbeats 400000 in
theorem MovesBetween_I (w : World) (A : Option Addr) (n c : Nat) (xs : List Int) (a b : Int) (h : Sl (Value.int .i64) w A n xs) :
    Calls Try.prog 27 #[.slice A n c, .int .i64 a, .int .i64 b] w fun e w' => e = .returned (.tuple #[.int .i64 (movesB xs a b).1, .int .i64 (movesB xs a b).2]) ∧ Below w.heap.size w w' := by
  by_cases hc : colCode xs a b = 0
  · obtain ⟨hok, ha, hb⟩ := colCode_ok hc
    have HR := hide (movesB_ok hc)
    obtain ⟨an, rfl⟩ : ∃ an : Nat, a = an := ⟨a.toNat, by omega⟩
    obtain ⟨bn, rfl⟩ : ∃ bn : Nat, b = bn := ⟨b.toNat, by omega⟩
    have HX := hide (okStops_all hok)
    have ha31 : an < 31 := by omega
    have hix := run_index_arr (k := .i64) Try.underlying60 Try.underlying2 int64_size (numI_get (fun q => (dist xs bn q : Int)) ha31) ha31
    replace hc := hide hc
    clear hok
    go_enter Try.func27, Try.ntmps27
    go_wp2_with (go_at_call 50; refine (columnsCode_any _ _ _ _ xs _ _ h).mono ?_; rintro e w1 ⟨rfl, hb1⟩; rw [hc.out])
    refine (distances_any _ _ _ _ xs bn (h.on hb1) HX.out (by omega)).mono ?_
    rintro e w2 ⟨rfl, hb2⟩
    go_wp2
    go_ret2
    exact ⟨by rw [HR.out]; rfl, Below.step hb1 hb2⟩
  · rcases colCode_bad hc with hk | hk
    all_goals
      have HR := hide (movesB_bad hk (by decide))
      replace hk := hide hk
      clear hc
      go_enter Try.func27, Try.ntmps27
      go_wp2_with (go_at_call 50; refine (columnsCode_any _ _ _ _ xs _ _ h).mono ?_; rintro e w1 ⟨rfl, hb1⟩; rw [hk.out])
      go_ret2
      exact ⟨by rw [HR.out]; rfl, hb1⟩
end Go.Proofs.Ytdcbdogcglinkaa
