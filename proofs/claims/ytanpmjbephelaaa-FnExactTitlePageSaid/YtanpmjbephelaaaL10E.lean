/-
  Lines that are set together: are they lines, and the longest of them.
-/
import Derived.Test.YtanpmjbephelaaaL10B
namespace Go.Proofs.Ytanpmjbephelaaa
set_option maxRecDepth 100000
open Go.RowKit

def allT (lo m : Int) : List ByteArray → Bool
  | [] => true
  | s :: ss => if isTxt lo m s = true then allT lo m ss else false
def longGo : Int → List ByteArray → Int
  | m, [] => m
  | m, x :: xs => longGo (max m (x.size : Int)) xs
def linesOk (xs : List ByteArray) : Bool := allT 32 100 xs && decide (xs.length ≤ 30)
def mostL (xs : List ByteArray) : Int := if linesOk xs = true then longGo 0 xs else -1
theorem allT_all {lo m : Int} {ss : List ByteArray} (h : allT lo m ss = true) : ∀ s ∈ ss, (s.size : Int) ≤ m := by
  induction ss with
  | nil => simp
  | cons y ys ih =>
    rw [allT] at h
    by_cases hy : isTxt lo m y = true
    · rw [if_pos hy] at h
      intro s hs
      rcases List.mem_cons.1 hs with rfl | hs
      · simp only [isTxt, Bool.and_eq_true, decide_eq_true_eq] at hy; exact hy.1
      · exact ih h s hs
    · rw [if_neg hy] at h; cases h
theorem linesOk_facts {xs : List ByteArray} (h : linesOk xs = true) : (∀ s ∈ xs, (s.size : Int) ≤ 100) ∧ xs.length ≤ 30 := by
  simp only [linesOk, Bool.and_eq_true, decide_eq_true_eq] at h
  exact ⟨allT_all h.1, h.2⟩
theorem longGo_ge (xs : List ByteArray) : ∀ m, m ≤ longGo m xs ∧ ∀ s ∈ xs, (s.size : Int) ≤ longGo m xs := by
  induction xs with
  | nil => intro m; exact ⟨Int.le_refl _, by simp⟩
  | cons x xs ih =>
    intro m
    rw [longGo]
    have := ih (max m (x.size : Int))
    refine ⟨by omega, fun s hs => ?_⟩
    rcases List.mem_cons.1 hs with rfl | hs
    · omega
    · exact this.2 s hs
theorem longGo_le {M : Int} (xs : List ByteArray) : ∀ m, m ≤ M → (∀ s ∈ xs, (s.size : Int) ≤ M) → longGo m xs ≤ M := by
  induction xs with
  | nil => intro m h _; exact h
  | cons x xs ih =>
    intro m h hs
    rw [longGo]
    have := hs x (List.mem_cons_self ..)
    exact ih _ (by omega) (fun s h2 => hs s (List.mem_cons_of_mem _ h2))

theorem l00Max_any (a b : Int) (w : World) :
    Calls Try.prog 82 #[.int .i64 a, .int .i64 b] w fun e w' => e = .returned (.int .i64 (max a b)) ∧ w = w' := by
  go_enter Try.func82, Try.ntmps82
  go_wp2
  all_goals go_ret
  all_goals (refine ⟨?_, rfl⟩; simp; try omega)
set_option maxHeartbeats 400000 in
theorem l10Lines_any (w : World) (A : Option Addr) (n c : Nat) (xs : List ByteArray) (h : Sl Value.string w A n xs) (hu : ∀ s ∈ xs, (s.size : Int) ≤ 1048576) :
    Calls Try.prog 69 #[.slice A n c] w fun e w' => e = .returned (.int .i64 (mostL xs)) ∧ Below w.heap.size w w' := by
  have hn := h.max
  have HU := hide hu
  clear hu
  go_enter Try.func69, Try.ntmps69
  go_wp2
  go_loopw [3, 4] (fun mv i wr => ∃ (k : Nat) (m : Int), k ≤ n ∧ i = .int .i64 k ∧ mv = .int .i64 m ∧ Below w.heap.size w wr ∧ allT 32 100 (xs.drop k) = allT 32 100 xs ∧ longGo m (xs.drop k) = longGo 0 xs) (fun _ i _ => n - (intOf i).toNat)
  case atStart => exact ⟨0, 0, Nat.zero_le _, rfl, rfl, Below.refl _ _, by simp, by simp⟩
  case round =>
    obtain ⟨k, m, hk, rfl, rfl, hb, HR, HL⟩ := hrel
    by_cases hlt : k < n
    · obtain ⟨b, o, p, rfl, hx, hc⟩ := h.at_ hb hlt
      have hps := HU.out _ (List.mem_of_getElem? hx)
      rw [drop_get hx, allT] at HR
      rw [drop_get hx, longGo] at HL
      by_cases hp : isTxt 32 100 p = true
      · rw [if_pos hp] at HR
        have H2 := hide HR
        have HL2 := hide HL
        clear HR hx HL
        go_wp2_with (first | (go_at_call 61; refine (l00Text_any _ _ _ (by omega)).mono ?_; rintro e w1 ⟨rfl, rfl⟩) | (go_at_call 82; refine (l00Max_any _ _ _).mono ?_; rintro e w1 ⟨rfl, rfl⟩))
        go_roundw
        case rel => exact ⟨k + 1, _, by omega, by go_num, rfl, hb, H2.out, HL2.out⟩
        case measure => simp [intOf]; omega
      · rw [if_neg hp] at HR
        have H2 : Hid (mostL xs = -1) := by unfold Hid mostL linesOk; rw [← HR]; rfl
        replace hp : isTxt 32 100 p = false := by simpa using hp
        clear HR hx HL
        go_wp2_with (go_at_call 61; refine (l00Text_any _ _ _ (by omega)).mono ?_; rintro e w1 ⟨rfl, rfl⟩)
        go_ret
        exact ⟨ret_int H2.out.symm, hb⟩
    · rw [h.end_ hlt, allT] at HR
      rw [h.end_ hlt, longGo] at HL
      by_cases h30 : n ≤ 30
      · have H2 : Hid (mostL xs = m) := by unfold Hid mostL linesOk; rw [← HR, h.len, decide_eq_true h30, HL]; rfl
        have h30i : ¬ 30 < n := by omega
        clear HR HL
        go_wp2
        go_ret
        exact ⟨ret_int H2.out.symm, hb⟩
      · have H2 : Hid (mostL xs = -1) := by unfold Hid mostL linesOk; rw [← HR, h.len, decide_eq_false h30]; rfl
        have h30i : 30 < n := by omega
        clear HR HL
        go_wp2
        go_ret
        exact ⟨ret_int H2.out.symm, hb⟩

set_option maxHeartbeats 400000 in
theorem areLines_any (w : World) (A : Option Addr) (n c : Nat) (xs : List ByteArray) (h : Sl Value.string w A n xs) (hu : ∀ s ∈ xs, (s.size : Int) ≤ 1048576) :
    Calls Try.prog 72 #[.slice A n c] w fun e w' => e = .returned (.bool (linesOk xs)) ∧ Below w.heap.size w w' := by
  have hn := h.max
  have HU := hide hu
  clear hu
  go_enter Try.func72, Try.ntmps72
  go_wp2
  go_loopw [7] (fun i wr => ∃ (k : Nat), k ≤ n ∧ i = .int .i64 k ∧ Below w.heap.size w wr ∧ allT 32 100 (xs.drop k) = allT 32 100 xs) (fun i _ => n - (intOf i).toNat)
  case atStart => exact ⟨0, Nat.zero_le _, rfl, Below.refl _ _, by simp⟩
  case round =>
    obtain ⟨k, hk, rfl, hb, HR⟩ := hrel
    by_cases hlt : k < n
    · obtain ⟨b, o, p, rfl, hx, hc⟩ := h.at_ hb hlt
      have hps := HU.out _ (List.mem_of_getElem? hx)
      rw [drop_get hx, allT] at HR
      by_cases hp : isTxt 32 100 p = true
      · rw [if_pos hp] at HR
        have H2 := hide HR
        clear HR hx
        go_wp2_with (go_at_call 63; refine (isText_any _ _ _ _ (by omega)).mono ?_; rintro e w1 ⟨rfl, rfl⟩)
        go_roundw
        case rel => exact ⟨k + 1, by omega, by go_num, hb, H2.out⟩
        case measure => simp [intOf]; omega
      · rw [if_neg hp] at HR
        have H2 : Hid (linesOk xs = false) := by unfold Hid linesOk; rw [← HR]; rfl
        replace hp : isTxt 32 100 p = false := by simpa using hp
        clear HR hx
        go_wp2_with (go_at_call 63; refine (isText_any _ _ _ _ (by omega)).mono ?_; rintro e w1 ⟨rfl, rfl⟩)
        go_ret
        exact ⟨ret_bool H2.out.symm, hb⟩
    · rw [h.end_ hlt, allT] at HR
      have H2 : Hid (linesOk xs = decide ((n : Int) ≤ 30)) := by
        unfold Hid linesOk
        rw [← HR, h.len, Bool.true_and, decide_eq_decide]; omega
      clear HR
      go_wp2
      go_ret
      exact ⟨ret_bool (by rw [H2.out]), hb⟩
set_option maxHeartbeats 400000 in
theorem longest_any (w : World) (A : Option Addr) (n c : Nat) (xs : List ByteArray) (h : Sl Value.string w A n xs) (hu : ∀ s ∈ xs, (s.size : Int) ≤ 1048576) :
    Calls Try.prog 74 #[.slice A n c] w fun e w' => e = .returned (.int .i64 (longGo 0 xs)) ∧ Below w.heap.size w w' := by
  have hn := h.max
  have HU := hide hu
  clear hu
  go_enter Try.func74, Try.ntmps74
  go_wp2
  go_loopw [3, 8] (fun mv i wr => ∃ (k : Nat) (m : Int), k ≤ n ∧ i = .int .i64 k ∧ mv = .int .i64 m ∧ 0 ≤ m ∧ m ≤ 1048576 ∧ Below w.heap.size w wr ∧ longGo m (xs.drop k) = longGo 0 xs) (fun _ i _ => n - (intOf i).toNat)
  case atStart => exact ⟨0, 0, Nat.zero_le _, rfl, rfl, by omega, by omega, Below.refl _ _, by simp⟩
  case round =>
    obtain ⟨k, m, hk, rfl, rfl, hm0, hm1, hb, HL⟩ := hrel
    by_cases hlt : k < n
    · obtain ⟨b, o, p, rfl, hx, hc⟩ := h.at_ hb hlt
      have hps := HU.out _ (List.mem_of_getElem? hx)
      rw [drop_get hx, longGo] at HL
      have HL2 := hide HL
      clear hx HL
      go_wp2
      all_goals
        go_roundw
        case rel => exact ⟨k + 1, max m (p.size : Int), by omega, by go_num, by first | rfl | (congr 1; omega), by omega, by omega, hb, HL2.out⟩
        case measure => simp [intOf]; omega
    · rw [h.end_ hlt, longGo] at HL
      have H2 := hide HL
      clear HL
      go_wp2
      go_ret
      exact ⟨ret_int H2.out, hb⟩
end Go.Proofs.Ytanpmjbephelaaa
