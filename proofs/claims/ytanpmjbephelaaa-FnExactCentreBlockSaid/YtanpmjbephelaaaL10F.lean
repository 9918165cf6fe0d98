/-
  CentreBlock: what it returns, for all arguments.
-/
import Derived.Test.YtanpmjbephelaaaL10E
import Derived.Test.YtanpmjbephelaaaStrs
import Derived.Deep.RegionLaw
namespace Go.Proofs.Ytanpmjbephelaaa
set_option maxRecDepth 100000
open Go.RowKit

def centreBlock (xs : List ByteArray) (m : Int) : List ByteArray × Int :=
  if linesOk xs = true ∧ inB m 1 100 = true then (if m < longGo 0 xs then ([], 5) else (xs.map (fun s => runs 32 ((m - longGo 0 xs) / 2) ++ s), 0)) else ([], 2)
theorem centreBlock_len (xs : List ByteArray) (m : Int) : (centreBlock xs m).1.length ≤ xs.length := by
  unfold centreBlock
  split
  · split
    · simp
    · simp
  · simp

theorem half_i {x : Int} (h0 : 0 ≤ x) (h1 : x ≤ 1048576) : IntKind.i64.wrap (x.tdiv 2) = x / 2 := by
  rw [Int.tdiv_eq_ediv_of_nonneg h0, IntKind.wrap_i64]; omega
set_option maxHeartbeats 1000000 in
theorem CentreBlock_S (w : World) (A : Option Addr) (n c : Nat) (xs : List ByteArray) (m : Int) (h : Sl Value.string w A n xs) (hu : ∀ s ∈ xs, (s.size : Int) ≤ 1048576) :
    Calls Try.prog 31 #[.slice A n c, .int .i64 m] w fun e w' => ∃ v, e = .returned (.tuple #[v, .int .i64 (centreBlock xs m).2]) ∧ Coll w w' 9 v ((centreBlock xs m).1.map Value.string) := by
  replace hu := hide hu
  have hn := h.max
  by_cases hv : linesOk xs = true
  · obtain ⟨f1, f2⟩ := linesOk_facts hv
    rw [h.len] at f2
    obtain ⟨L, hL⟩ : ∃ L, longGo 0 xs = L := ⟨_, rfl⟩
    have hL0 : 0 ≤ L := by rw [← hL]; exact (longGo_ge xs 0).1
    have hL1 : L ≤ 100 := by rw [← hL]; exact longGo_le xs 0 (by omega) f1
    have HM : Hid (mostL xs = L) := by unfold Hid mostL; rw [if_pos hv, hL]
    have HS := hide f1
    clear f1
    by_cases hm : inB m 1 100 = true
    · have hmb := inB_iff.1 hm
      by_cases hlt : m < L
      · have HR : Hid (centreBlock xs m = ([], 5)) := by unfold Hid centreBlock; rw [if_pos ⟨hv, hm⟩, hL, if_pos hlt]
        clear hL hv
        go_enter Try.func31, Try.ntmps31
        go_wp2_with (first | (go_at_call 69; refine (l10Lines_any _ _ _ _ xs h hu.out).mono ?_; rintro e w1 ⟨rfl, hb1⟩; rw [HM.out]) | (go_at_call 70; refine (l00In_any _ _ _ _).mono ?_; rintro e w1 ⟨rfl, rfl⟩))
        go_ret2
        exact ⟨_, by rw [HR.out]; rfl, by rw [HR.out]; exact Coll.nil_ hb1⟩
      · obtain ⟨R, hRR⟩ : ∃ R, runs 32 ((m - L) / 2) = R := ⟨_, rfl⟩
        have hRz : R.size ≤ 50 := by rw [← hRR, runs_size]; omega
        have HR : Hid (centreBlock xs m = (xs.map (fun s => R ++ s), 0)) := by unfold Hid centreBlock; rw [if_pos ⟨hv, hm⟩, hL, if_neg hlt, hRR]
        have HRR := hide hRR
        clear hL hv hRR
        go_enter Try.func31, Try.ntmps31
        go_wp2_with (first | (go_at_call 69; refine (l10Lines_any _ _ _ _ xs h hu.out).mono ?_; rintro e w1 ⟨rfl, hb1⟩; rw [HM.out]) | (go_at_call 70; refine (l00In_any _ _ _ _).mono ?_; rintro e w1 ⟨rfl, rfl⟩))
        have h0 := Coll.empty (e := 9) hb1
        go_loopw [7, 8] (fun v i wr => ∃ (k : Nat) (acc : List ByteArray), k ≤ n ∧ i = .int .i64 k ∧ acc.length ≤ k ∧ Coll w wr 9 v (acc.map Value.string) ∧ acc ++ (xs.drop k).map (fun s => R ++ s) = xs.map (fun s => R ++ s)) (fun _ i _ => n - (intOf i).toNat)
        case atStart => exact ⟨0, [], Nat.zero_le _, rfl, Nat.le_refl _, h0, by simp⟩
        case round =>
          clear h0
          obtain ⟨k, acc, hk, rfl, hal, hco, HG⟩ := hrel
          by_cases hlk : k < n
          · obtain ⟨b, o, p, rfl, hx, hc⟩ := h.at_ hco.below hlk
            have hps := HS.out _ (List.mem_of_getElem? hx)
            have hbl := World.block_lt_of_cell? wr _ hc
            rw [drop_get hx, List.map_cons] at HG
            have HN : Hid ((acc ++ [R ++ p]) ++ (xs.drop (k + 1)).map (fun s => R ++ s) = xs.map (fun s => R ++ s)) := by unfold Hid; rw [← HG]; simp
            clear HG hx
            have hs3 : ¬ 9223372036854775807 < R.size + p.size := by omega
            have hs0 : IntKind.i64.wrap (m - L) = m - L := IntWalk.i64_in _ (by omega)
            have hs1 : IntKind.i64.wrap ((m - L).tdiv 2) = (m - L) / 2 := half_i (by omega) (by omega)
            have hs2 : (m - L) / 2 ≤ 1048576 := by omega
            go_wp2
            go_region_law (first
              | (go_simp; go_at_call 71; refine (l08Blanks_any _ _ hs2).mono ?_; rintro e w2 ⟨rfl, hb2⟩; rw [HRR.out]; have hcc := (hb2.cell (p := ⟨b, o + k, none⟩) (by simpa using hbl)).trans hc; have hcD := hco.drew.on hb2)
              | (refine Coll.push_step Try.underlying22 string_info rfl (by decide) hcD rfl (by rw [List.length_map]; omega) rfl _ _ rfl rfl rfl ?_; intro v1 w3 hc3 hg3))
            all_goals
              go_wp2
              go_roundw
              case rel => exact ⟨k + 1, acc ++ [R ++ p], by omega, by go_num, by simp; omega, by simpa using hc3, HN.out⟩
              case measure => simp [intOf]; omega
          · rw [h.end_ hlk] at HG
            have HE : Hid (centreBlock xs m = (acc, 0)) := by unfold Hid; rw [HR.out, ← HG]; simp
            clear HG
            go_wp2
            go_ret2
            exact ⟨_, by rw [HE.out]; rfl, by rw [HE.out]; exact hco⟩
    · have HR : Hid (centreBlock xs m = ([], 2)) := by unfold Hid centreBlock; rw [if_neg (fun e => hm e.2)]
      replace hm : inB m 1 100 = false := by simpa using hm
      clear hL hv
      go_enter Try.func31, Try.ntmps31
      go_wp2_with (first | (go_at_call 69; refine (l10Lines_any _ _ _ _ xs h hu.out).mono ?_; rintro e w1 ⟨rfl, hb1⟩; rw [HM.out]) | (go_at_call 70; refine (l00In_any _ _ _ _).mono ?_; rintro e w1 ⟨rfl, rfl⟩))
      go_ret2
      exact ⟨_, by rw [HR.out]; rfl, by rw [HR.out]; exact Coll.nil_ hb1⟩
  · have HR : Hid (centreBlock xs m = ([], 2)) := by unfold Hid centreBlock; rw [if_neg (fun e => hv e.1)]
    have HM : Hid (mostL xs = -1) := by unfold Hid mostL; rw [if_neg hv]
    clear hv
    go_enter Try.func31, Try.ntmps31
    go_wp2_with (first | (go_at_call 69; refine (l10Lines_any _ _ _ _ xs h hu.out).mono ?_; rintro e w1 ⟨rfl, hb1⟩; rw [HM.out]) | (go_at_call 70; refine (l00In_any _ _ _ _).mono ?_; rintro e w1 ⟨rfl, rfl⟩))
    go_ret2
    exact ⟨_, by rw [HR.out]; rfl, by rw [HR.out]; exact Coll.nil_ hb1⟩

set_option maxHeartbeats 1000000 in
theorem CentreBlock_I (w : World) (A : Option Addr) (n c : Nat) (xs : List ByteArray) (m : Int) (h : Sl Value.string w A n xs) (hu : ∀ s ∈ xs, (s.size : Int) ≤ 1048576) :
    Calls Try.prog 32 #[.slice A n c, .int .i64 m] w fun e w' => ∃ v, e = .returned (.tuple #[v, .int .i64 (centreBlock xs m).2]) ∧ Coll w w' 9 v ((centreBlock xs m).1.map Value.string) := by
  replace hu := hide hu
  have hn := h.max
  by_cases hv : linesOk xs = true
  · obtain ⟨f1, f2⟩ := linesOk_facts hv
    rw [h.len] at f2
    obtain ⟨L, hL⟩ : ∃ L, longGo 0 xs = L := ⟨_, rfl⟩
    have hL0 : 0 ≤ L := by rw [← hL]; exact (longGo_ge xs 0).1
    have hL1 : L ≤ 100 := by rw [← hL]; exact longGo_le xs 0 (by omega) f1
    have HM := hide hL
    have HS := hide f1
    clear f1
    by_cases hm : inB m 1 100 = true
    · have hmb := inB_iff.1 hm
      by_cases hlt : m < L
      · have HR : Hid (centreBlock xs m = ([], 5)) := by unfold Hid centreBlock; rw [if_pos ⟨hv, hm⟩, hL, if_pos hlt]
        replace hv := hide hv
        clear hL
        go_enter Try.func32, Try.ntmps32
        go_wp2_with (first
          | (go_at_call 72; refine (areLines_any _ _ _ _ xs h hu.out).mono ?_; rintro e w1 ⟨rfl, hb1⟩; rw [hv.out])
          | (go_at_call 73; refine (isWidth_any _ _).mono ?_; rintro e w1 ⟨rfl, rfl⟩)
          | (go_at_call 74; refine (longest_any _ _ _ _ xs (h.on hb1) hu.out).mono ?_; rintro e w2 ⟨rfl, hb2⟩; rw [HM.out]))
        go_ret2
        exact ⟨_, by rw [HR.out]; rfl, by rw [HR.out]; exact Coll.nil_ (Below.step hb1 hb2)⟩
      · obtain ⟨R, hRR⟩ : ∃ R, runs 32 ((m - L) / 2) = R := ⟨_, rfl⟩
        have HR : Hid (centreBlock xs m = (xs.map (fun s => R ++ s), 0)) := by unfold Hid centreBlock; rw [if_pos ⟨hv, hm⟩, hL, if_neg hlt, hRR]
        have HRR := hide hRR
        replace hv := hide hv
        clear hL hRR
        go_enter Try.func32, Try.ntmps32
        go_wp2_with (first
          | (go_at_call 72; refine (areLines_any _ _ _ _ xs h hu.out).mono ?_; rintro e w1 ⟨rfl, hb1⟩; rw [hv.out])
          | (go_at_call 73; refine (isWidth_any _ _).mono ?_; rintro e w1 ⟨rfl, rfl⟩)
          | (go_at_call 74; refine (longest_any _ _ _ _ xs (h.on hb1) hu.out).mono ?_; rintro e w2 ⟨rfl, hb2⟩; rw [HM.out]))
        have h0 := Coll.empty (e := 9) (Below.step hb1 hb2)
        go_loopw [7, 27] (fun v i wr => ∃ (k : Nat) (acc : List ByteArray), k ≤ n ∧ i = .int .i64 k ∧ acc.length ≤ k ∧ Coll w wr 9 v (acc.map Value.string) ∧ acc ++ (xs.drop k).map (fun s => R ++ s) = xs.map (fun s => R ++ s)) (fun _ i _ => n - (intOf i).toNat)
        case atStart => exact ⟨0, [], Nat.zero_le _, rfl, Nat.le_refl _, h0, by simp⟩
        case round =>
          clear h0
          obtain ⟨k, acc, hk, rfl, hal, hco, HG⟩ := hrel
          by_cases hlk : k < n
          · obtain ⟨b, o, p, rfl, hx, hc⟩ := h.at_ hco.below hlk
            have hps := HS.out _ (List.mem_of_getElem? hx)
            rw [drop_get hx, List.map_cons] at HG
            have HN : Hid ((acc ++ [R ++ p]) ++ (xs.drop (k + 1)).map (fun s => R ++ s) = xs.map (fun s => R ++ s)) := by unfold Hid; rw [← HG]; simp
            clear HG hx
            go_wp2_with (first
              | (go_at_call 75; refine (centred_any _ _ _ (by omega) (by omega) (by omega)).mono ?_; rintro e w3 ⟨rfl, hb3⟩; rw [HRR.out]; have hcD := hco.on hb3)
              | (at_builtin; refine Coll.push Try.underlying22 string_info rfl (by decide) hcD rfl (by rw [List.length_map]; omega) rfl _ _ rfl rfl rfl ?_; intro v1 w4 hc4 hg4))
            go_roundw
            case rel => exact ⟨k + 1, acc ++ [R ++ p], by omega, by go_num, by simp; omega, by simpa using hc4, HN.out⟩
            case measure => simp [intOf]; omega
          · rw [h.end_ hlk] at HG
            have HE : Hid (centreBlock xs m = (acc, 0)) := by unfold Hid; rw [HR.out, ← HG]; simp
            clear HG
            go_wp2
            go_ret2
            exact ⟨_, by rw [HE.out]; rfl, by rw [HE.out]; exact hco⟩
    · have HR : Hid (centreBlock xs m = ([], 2)) := by unfold Hid centreBlock; rw [if_neg (fun e => hm e.2)]
      replace hm : inB m 1 100 = false := by simpa using hm
      replace hv := hide hv
      clear hL
      go_enter Try.func32, Try.ntmps32
      go_wp2_with (first
        | (go_at_call 72; refine (areLines_any _ _ _ _ xs h hu.out).mono ?_; rintro e w1 ⟨rfl, hb1⟩; rw [hv.out])
        | (go_at_call 73; refine (isWidth_any _ _).mono ?_; rintro e w1 ⟨rfl, rfl⟩)
        | (go_at_call 74; refine (longest_any _ _ _ _ xs (h.on hb1) hu.out).mono ?_; rintro e w2 ⟨rfl, hb2⟩; rw [HM.out]))
      go_ret2
      exact ⟨_, by rw [HR.out]; rfl, by rw [HR.out]; exact Coll.nil_ hb1⟩
  · have HR : Hid (centreBlock xs m = ([], 2)) := by unfold Hid centreBlock; rw [if_neg (fun e => hv e.1)]
    replace hv : Hid (linesOk xs = false) := by unfold Hid; simpa using hv
    have HM := hide (rfl : longGo 0 xs = longGo 0 xs)
    go_enter Try.func32, Try.ntmps32
    go_wp2_with (first
      | (go_at_call 72; refine (areLines_any _ _ _ _ xs h hu.out).mono ?_; rintro e w1 ⟨rfl, hb1⟩; rw [hv.out])
      | (go_at_call 73; refine (isWidth_any _ _).mono ?_; rintro e w1 ⟨rfl, rfl⟩)
      | (go_at_call 74; refine (longest_any _ _ _ _ xs (h.on hb1) hu.out).mono ?_; rintro e w2 ⟨rfl, hb2⟩; rw [HM.out]))
    go_ret2
    exact ⟨_, by rw [HR.out]; rfl, by rw [HR.out]; exact Coll.nil_ hb1⟩
end Go.Proofs.Ytanpmjbephelaaa
