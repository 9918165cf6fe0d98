/-
  BoxLines: what it returns, for all arguments.
-/
import Derived.Test.YtanpmjbephelaaaL10E
import Derived.Test.YtanpmjbephelaaaStrs
import Derived.Deep.RegionLaw
namespace Go.Proofs.Ytanpmjbephelaaa
set_option maxRecDepth 100000
open Go.RowKit

def boxRule (L : Int) : ByteArray := (⟨#[43]⟩ ++ runs 45 (L + 2)) ++ ⟨#[43]⟩
def boxLine (L : Int) (s : ByteArray) : ByteArray := ((⟨#[124, 32]⟩ ++ s) ++ runs 32 (L - s.size)) ++ ⟨#[32, 124]⟩
def boxLines (xs : List ByteArray) : List ByteArray × Int :=
  if linesOk xs = true then (if 96 < longGo 0 xs then ([], 5) else (boxRule (longGo 0 xs) :: (xs.map (boxLine (longGo 0 xs)) ++ [boxRule (longGo 0 xs)]), 0)) else ([], 2)
theorem boxLines_len (xs : List ByteArray) : (boxLines xs).1.length ≤ xs.length + 2 := by
  unfold boxLines
  split
  · split
    · simp
    · simp
  · simp
theorem Coll.one {W w : World} {e : TypeId} (h : Below W.heap.size W w) (u : Value) : Coll W (w.alloc (.cells #[u] e)) e (.slice (some ⟨w.heap.size, 0, none⟩) 1 1) [u] :=
  ⟨World.ownsRow_lit w #[u] 1 h.size (by unfold maxLen; omega) rfl, h.alloc h.size _⟩

set_option maxHeartbeats 1000000 in
theorem BoxLines_S (w : World) (A : Option Addr) (n c : Nat) (xs : List ByteArray) (h : Sl Value.string w A n xs) (hu : ∀ s ∈ xs, (s.size : Int) ≤ 1048576) :
    Calls Try.prog 35 #[.slice A n c] w fun e w' => ∃ v, e = .returned (.tuple #[v, .int .i64 (boxLines xs).2]) ∧ Coll w w' 9 v ((boxLines xs).1.map Value.string) := by
  replace hu := hide hu
  by_cases hv : linesOk xs = true
  · obtain ⟨f1, f2⟩ := linesOk_facts hv
    rw [h.len] at f2
    obtain ⟨L, hL⟩ : ∃ L, longGo 0 xs = L := ⟨_, rfl⟩
    have hL0 : 0 ≤ L := by rw [← hL]; exact (longGo_ge xs 0).1
    have HLL := hide (fun s hs => by rw [← hL]; exact (longGo_ge xs 0).2 s hs : ∀ s ∈ xs, (s.size : Int) ≤ L)
    have hL1 : L ≤ 100 := by rw [← hL]; exact longGo_le xs 0 (by omega) f1
    clear f1
    have HM : Hid (mostL xs = L) := by unfold Hid mostL; rw [if_pos hv, hL]
    by_cases hlt : 96 < L
    · have HR : Hid (boxLines xs = ([], 5)) := by unfold Hid boxLines; rw [if_pos hv, hL, if_pos hlt]
      clear hL hv
      go_enter Try.func35, Try.ntmps35
      go_wp2_with (go_at_call 69; refine (l10Lines_any _ _ _ _ xs h hu.out).mono ?_; rintro e w1 ⟨rfl, hb1⟩; rw [HM.out])
      go_ret2
      exact ⟨_, by rw [HR.out]; rfl, by rw [HR.out]; exact Coll.nil_ hb1⟩
    · obtain ⟨R, hRR⟩ : ∃ R, runs 45 (L + 2) = R := ⟨_, rfl⟩
      have hRz : R.size ≤ 100 := by rw [← hRR, runs_size]; omega
      have HR : Hid (boxLines xs = (((⟨#[43]⟩ ++ R) ++ ⟨#[43]⟩) :: (xs.map (boxLine L) ++ [((⟨#[43]⟩ ++ R) ++ ⟨#[43]⟩)]), 0)) := by
        unfold Hid boxLines
        rw [if_pos hv, hL, if_neg hlt, boxRule, hRR]
      have HRR := hide hRR
      have z1 : (⟨#[43]⟩ : ByteArray).size = 1 := rfl
      have z2 : (⟨#[124, 32]⟩ : ByteArray).size = 2 := rfl
      have z3 : (⟨#[32, 124]⟩ : ByteArray).size = 2 := rfl
      clear hL hv hRR
      go_enter Try.func35, Try.ntmps35
      go_wp2_with (first | (go_at_call 69; refine (l10Lines_any _ _ _ _ xs h hu.out).mono ?_; rintro e w1 ⟨rfl, hb1⟩; rw [HM.out]) | (go_at_call 79; refine (l10Rule_any _ 45 _ (by omega)).mono ?_; rintro e w2 ⟨rfl, hb2⟩; rw [HRR.out]))
      have h0 := Coll.one (e := 9) (Below.step hb1 hb2) (.string ((⟨#[43]⟩ ++ R) ++ ⟨#[43]⟩))
      obtain ⟨Q, hQ⟩ : ∃ Q : ByteArray, (⟨#[43]⟩ ++ R) ++ ⟨#[43]⟩ = Q := ⟨_, rfl⟩
      have HQ := hide hQ
      rw [hQ] at h0
      go_loopw [6, 7] (fun v i wr => ∃ (k : Nat) (acc : List ByteArray), k ≤ n ∧ i = .int .i64 k ∧ acc.length ≤ k + 1 ∧ Coll w wr 9 v (acc.map Value.string) ∧ acc ++ (xs.drop k).map (boxLine L) = Q :: xs.map (boxLine L)) (fun _ i _ => n - (intOf i).toNat)
      case atStart => exact ⟨0, [Q], Nat.zero_le _, rfl, by simp, by simpa [hQ] using h0, by simp⟩
      case round =>
        clear h0 hQ
        obtain ⟨k, acc, hk, rfl, hal, hco, HG⟩ := hrel
        by_cases hlk : k < n
        · obtain ⟨b, o, p, rfl, hx, hc⟩ := h.at_ hco.below hlk
          have hps := HLL.out _ (List.mem_of_getElem? hx)
          have hbl := World.block_lt_of_cell? wr _ hc
          obtain ⟨F, hF⟩ : ∃ F, runs 32 (L - (p.size : Int)) = F := ⟨_, rfl⟩
          have hFz : F.size ≤ 100 := by rw [← hF, runs_size]; omega
          have HF := hide hF
          rw [drop_get hx, List.map_cons] at HG
          have HN : Hid ((acc ++ [((⟨#[124, 32]⟩ ++ p) ++ F) ++ ⟨#[32, 124]⟩]) ++ (xs.drop (k + 1)).map (boxLine L) = Q :: xs.map (boxLine L)) := by unfold Hid; rw [← HG, ← hF]; simp [boxLine]
          clear HG hx hF
          have hs0 : IntKind.i64.wrap (L - (p.size : Int)) = L - (p.size : Int) := IntWalk.i64_in _ (by omega)
          have hs1 : L - (p.size : Int) ≤ 1048576 := by omega
          have hs2 : ¬ 9223372036854775807 < 2 + p.size := by omega
          have hs3 : ¬ 9223372036854775807 < 2 + p.size + F.size := by omega
          have hs4 : ¬ 9223372036854775807 < 2 + p.size + F.size + 2 := by omega
          go_wp2
          go_region_law (first
            | (go_simp; go_at_call 71; refine (l08Blanks_any _ _ hs1).mono ?_; rintro e w2 ⟨rfl, hb2⟩; rw [HF.out]; have hcc := (hb2.cell (p := ⟨b, o + k, none⟩) (by simpa using hbl)).trans hc; have hcD := hco.drew.on hb2)
            | (refine Coll.push_step Try.underlying22 string_info rfl (by decide) hcD rfl (by rw [List.length_map]; omega) rfl _ _ rfl rfl rfl ?_; intro v1 w4 hc4 hg4))
          all_goals go_wp2
          all_goals
            go_roundw
            case rel => exact ⟨k + 1, acc ++ [((⟨#[124, 32]⟩ ++ p) ++ F) ++ ⟨#[32, 124]⟩], by omega, by go_num, by simp; omega, by simpa using hc4, HN.out⟩
            case measure => simp [intOf]; omega
        · rw [h.end_ hlk] at HG
          have HE : Hid (boxLines xs = (acc ++ [(⟨#[43]⟩ ++ R) ++ ⟨#[43]⟩], 0)) := by unfold Hid; rw [HR.out]; rw [List.map_nil, List.append_nil] at HG; rw [HG, HQ.out]; simp
          have hn := h.max
          clear HG
          go_wp2_with (at_builtin; refine Coll.push Try.underlying22 string_info rfl (by decide) hco rfl (by rw [List.length_map]; omega) rfl _ _ rfl rfl rfl ?_; intro v1 w4 hc4 hg4)
          go_ret2
          exact ⟨_, by rw [HE.out]; rfl, by rw [HE.out]; simpa using hc4⟩
  · have HR : Hid (boxLines xs = ([], 2)) := by unfold Hid boxLines; rw [if_neg hv]
    have HM : Hid (mostL xs = -1) := by unfold Hid mostL; rw [if_neg hv]
    clear hv
    go_enter Try.func35, Try.ntmps35
    go_wp2_with (go_at_call 69; refine (l10Lines_any _ _ _ _ xs h hu.out).mono ?_; rintro e w1 ⟨rfl, hb1⟩; rw [HM.out])
    go_ret2
    exact ⟨_, by rw [HR.out]; rfl, by rw [HR.out]; exact Coll.nil_ hb1⟩

set_option maxHeartbeats 1000000 in
theorem BoxLines_I (w : World) (A : Option Addr) (n c : Nat) (xs : List ByteArray) (h : Sl Value.string w A n xs) (hu : ∀ s ∈ xs, (s.size : Int) ≤ 1048576) :
    Calls Try.prog 36 #[.slice A n c] w fun e w' => ∃ v, e = .returned (.tuple #[v, .int .i64 (boxLines xs).2]) ∧ Coll w w' 9 v ((boxLines xs).1.map Value.string) := by
  replace hu := hide hu
  by_cases hv : linesOk xs = true
  · obtain ⟨f1, f2⟩ := linesOk_facts hv
    rw [h.len] at f2
    obtain ⟨L, hL⟩ : ∃ L, longGo 0 xs = L := ⟨_, rfl⟩
    have hL0 : 0 ≤ L := by rw [← hL]; exact (longGo_ge xs 0).1
    have HLL := hide (fun s hs => by rw [← hL]; exact (longGo_ge xs 0).2 s hs : ∀ s ∈ xs, (s.size : Int) ≤ L)
    have hL1 : L ≤ 100 := by rw [← hL]; exact longGo_le xs 0 (by omega) f1
    clear f1
    have HM := hide hL
    by_cases hlt : 96 < L
    · have HR : Hid (boxLines xs = ([], 5)) := by unfold Hid boxLines; rw [if_pos hv, hL, if_pos hlt]
      replace hv := hide hv
      clear hL
      go_enter Try.func36, Try.ntmps36
      go_wp2_with (first | (go_at_call 72; refine (areLines_any _ _ _ _ xs h hu.out).mono ?_; rintro e w1 ⟨rfl, hb1⟩; rw [hv.out]) | (go_at_call 74; refine (longest_any _ _ _ _ xs (h.on hb1) hu.out).mono ?_; rintro e w2 ⟨rfl, hb2⟩; rw [HM.out]))
      go_ret2
      exact ⟨_, by rw [HR.out]; rfl, by rw [HR.out]; exact Coll.nil_ (Below.step hb1 hb2)⟩
    · obtain ⟨R, hRR⟩ : ∃ R, runs 45 (L + 2) = R := ⟨_, rfl⟩
      have hRz : R.size ≤ 100 := by rw [← hRR, runs_size]; omega
      have HR : Hid (boxLines xs = (((⟨#[43]⟩ ++ R) ++ ⟨#[43]⟩) :: (xs.map (boxLine L) ++ [((⟨#[43]⟩ ++ R) ++ ⟨#[43]⟩)]), 0)) := by
        unfold Hid boxLines
        rw [if_pos hv, hL, if_neg hlt, boxRule, hRR]
      have HRR := hide hRR
      have z1 : (⟨#[43]⟩ : ByteArray).size = 1 := rfl
      have z2 : (⟨#[124, 32]⟩ : ByteArray).size = 2 := rfl
      have z3 : (⟨#[32, 124]⟩ : ByteArray).size = 2 := rfl
      replace hv := hide hv
      clear hL hRR
      go_enter Try.func36, Try.ntmps36
      go_wp2_with (first | (go_at_call 72; refine (areLines_any _ _ _ _ xs h hu.out).mono ?_; rintro e w1 ⟨rfl, hb1⟩; rw [hv.out]) | (go_at_call 74; refine (longest_any _ _ _ _ xs (h.on hb1) hu.out).mono ?_; rintro e w2 ⟨rfl, hb2⟩; rw [HM.out]) | (go_at_call 80; refine (repeat_any _ 45 _ (by omega)).mono ?_; rintro e w3 ⟨rfl, hb3⟩; rw [HRR.out]))
      have h0 := Coll.one (e := 9) (Below.step (Below.step hb1 hb2) hb3) (.string ((⟨#[43]⟩ ++ R) ++ ⟨#[43]⟩))
      obtain ⟨Q, hQ⟩ : ∃ Q : ByteArray, (⟨#[43]⟩ ++ R) ++ ⟨#[43]⟩ = Q := ⟨_, rfl⟩
      have HQ := hide hQ
      rw [hQ] at h0
      go_loopw [6, 26] (fun v i wr => ∃ (k : Nat) (acc : List ByteArray), k ≤ n ∧ i = .int .i64 k ∧ acc.length ≤ k + 1 ∧ Coll w wr 9 v (acc.map Value.string) ∧ acc ++ (xs.drop k).map (boxLine L) = Q :: xs.map (boxLine L)) (fun _ i _ => n - (intOf i).toNat)
      case atStart => exact ⟨0, [Q], Nat.zero_le _, rfl, by simp, by simpa [hQ] using h0, by simp⟩
      case round =>
        clear h0 hQ
        obtain ⟨k, acc, hk, rfl, hal, hco, HG⟩ := hrel
        by_cases hlk : k < n
        · obtain ⟨b, o, p, rfl, hx, hc⟩ := h.at_ hco.below hlk
          have hps := HLL.out _ (List.mem_of_getElem? hx)
          have hbl := World.block_lt_of_cell? wr _ hc
          obtain ⟨F, hF⟩ : ∃ F, runs 32 (L - (p.size : Int)) = F := ⟨_, rfl⟩
          have hFz : F.size ≤ 100 := by rw [← hF, runs_size]; omega
          have HF := hide hF
          rw [drop_get hx, List.map_cons] at HG
          have HN : Hid ((acc ++ [((⟨#[124, 32]⟩ ++ p) ++ F) ++ ⟨#[32, 124]⟩]) ++ (xs.drop (k + 1)).map (boxLine L) = Q :: xs.map (boxLine L)) := by unfold Hid; rw [← HG, ← hF]; simp [boxLine]
          clear HG hx hF
          go_wp2_with (first
            | (go_at_call 80; refine (repeat_any _ _ _ (by omega)).mono ?_; rintro e w3 ⟨rfl, hb3⟩; rw [HF.out]; have hcD := hco.on hb3)
            | (at_builtin; refine Coll.push Try.underlying22 string_info rfl (by decide) hcD rfl (by rw [List.length_map]; omega) rfl _ _ rfl rfl rfl ?_; intro v1 w4 hc4 hg4))
          all_goals
            go_roundw
            case rel => exact ⟨k + 1, acc ++ [((⟨#[124, 32]⟩ ++ p) ++ F) ++ ⟨#[32, 124]⟩], by omega, by go_num, by simp; omega, by simpa using hc4, HN.out⟩
            case measure => simp [intOf]; omega
        · rw [h.end_ hlk] at HG
          have HE : Hid (boxLines xs = (acc ++ [(⟨#[43]⟩ ++ R) ++ ⟨#[43]⟩], 0)) := by unfold Hid; rw [HR.out]; rw [List.map_nil, List.append_nil] at HG; rw [HG, HQ.out]; simp
          have hn := h.max
          clear HG
          go_wp2_with (at_builtin; refine Coll.push Try.underlying22 string_info rfl (by decide) hco rfl (by rw [List.length_map]; omega) rfl _ _ rfl rfl rfl ?_; intro v1 w4 hc4 hg4)
          go_ret2
          exact ⟨_, by rw [HE.out]; rfl, by rw [HE.out]; simpa using hc4⟩
  · have HR : Hid (boxLines xs = ([], 2)) := by unfold Hid boxLines; rw [if_neg hv]
    replace hv : Hid (linesOk xs = false) := by unfold Hid; simpa using hv
    go_enter Try.func36, Try.ntmps36
    go_wp2_with (go_at_call 72; refine (areLines_any _ _ _ _ xs h hu.out).mono ?_; rintro e w1 ⟨rfl, hb1⟩; rw [hv.out])
    go_ret2
    exact ⟨_, by rw [HR.out]; rfl, by rw [HR.out]; exact Coll.nil_ hb1⟩
end Go.Proofs.Ytanpmjbephelaaa
