/-
  RowPlan; codes of rows; the moves of a page, by the program.
-/
import Derived.Test.YtdcbdogcglinkaaL11N
namespace Go.Proofs.Ytdcbdogcglinkaa
set_option maxRecDepth 100000
open Go.RowKit

def rowPlanR (xs : List Int) (s : ByteArray) : ByteArray × Int := if okStops xs = true then (if okRow s = true then (mkB (rowP xs 0 0 (by_ s)).1, 0) else (⟨#[]⟩, 2)) else (⟨#[]⟩, 1)
set_option maxHeartbeats 400000 in
theorem RowPlan_S (w : World) (A : Option Addr) (n c : Nat) (xs : List Int) (s : ByteArray) (h : Sl (Value.int .i64) w A n xs) (hs : s.size ≤ 1048576) :
    Calls Try.prog 34 #[.slice A n c, .string s] w fun e w' => e = .returned (.tuple #[.string (rowPlanR xs s).1, .int .i64 (rowPlanR xs s).2]) ∧ Below w.heap.size w w' := by
  by_cases h1 : okStops xs = true
  · by_cases h2 : okRow s = true
    · have HR : Hid (rowPlanR xs s = (mkB (rowP xs 0 0 (by_ s)).1, 0)) := by unfold Hid rowPlanR; rw [if_pos h1, if_pos h2]
      have HX := hide (okStops_all h1)
      have HZ := hide (okRow_size h2)
      go_enter Try.func34, Try.ntmps34
      go_wp2_with (first | (go_at_call 45; refine (l11Ok_any _ _ _ _ xs h).mono ?_; rintro e w1 ⟨rfl, hb⟩; have hsz := hb.size; obtain ⟨hcw, hfw⟩ := bcell hb) | (go_at_call 57; refine (l11Row_any _ s (by omega)).mono ?_; rintro e w1 ⟨rfl, rfl⟩))
      refine (l11Plan_any _ _ _ _ xs s (h.on hb) HX.out HZ.out).mono ?_
      rintro e w2 ⟨rfl, hb2⟩
      go_wp2
      go_ret2
      exact ⟨by rw [HR.out]; rfl, Below.step hb hb2⟩
    · have HR : Hid (rowPlanR xs s = (⟨#[]⟩, 2)) := by unfold Hid rowPlanR; rw [if_pos h1, if_neg h2]
      replace h2 : okRow s = false := by simpa using h2
      go_enter Try.func34, Try.ntmps34
      go_wp2_with (first | (go_at_call 45; refine (l11Ok_any _ _ _ _ xs h).mono ?_; rintro e w1 ⟨rfl, hb⟩; have hsz := hb.size; obtain ⟨hcw, hfw⟩ := bcell hb) | (go_at_call 57; refine (l11Row_any _ s (by omega)).mono ?_; rintro e w1 ⟨rfl, rfl⟩))
      go_ret2
      exact ⟨by rw [HR.out]; rfl, hb⟩
  · have HR : Hid (rowPlanR xs s = (⟨#[]⟩, 1)) := by unfold Hid rowPlanR; rw [if_neg h1]
    replace h1 : okStops xs = false := by simpa using h1
    go_enter Try.func34, Try.ntmps34
    go_wp2_with (go_at_call 45; refine (l11Ok_any _ _ _ _ xs h).mono ?_; rintro e w1 ⟨rfl, hb⟩; have hsz := hb.size; obtain ⟨hcw, hfw⟩ := bcell hb)
    go_ret2
    exact ⟨by rw [HR.out]; rfl, hb⟩
set_option maxHeartbeats 400000 in
theorem RowPlan_I (w : World) (A : Option Addr) (n c : Nat) (xs : List Int) (s : ByteArray) (h : Sl (Value.int .i64) w A n xs) (hs : s.size ≤ 1048576) :
    Calls Try.prog 35 #[.slice A n c, .string s] w fun e w' => e = .returned (.tuple #[.string (rowPlanR xs s).1, .int .i64 (rowPlanR xs s).2]) ∧ Below w.heap.size w w' := by
  by_cases h1 : okStops xs = true
  · by_cases h2 : okRow s = true
    · have HR : Hid (rowPlanR xs s = (mkB (rowP xs 0 0 (by_ s)).1, 0)) := by unfold Hid rowPlanR; rw [if_pos h1, if_pos h2]
      have HX := hide (okStops_all h1)
      have HZ := hide (okRow_size h2)
      go_enter Try.func35, Try.ntmps35
      go_wp2_with (first | (go_at_call 23; refine (ValidStops_i _ _ _ _ xs h).mono ?_; rintro e w1 ⟨rfl, hb⟩; have hsz := hb.size; obtain ⟨hcw, hfw⟩ := bcell hb) | (go_at_call 59; refine (isRow_any _ s (by omega)).mono ?_; rintro e w1 ⟨rfl, rfl⟩))
      refine (rowPlan_any _ _ _ _ xs s (h.on hb) HX.out HZ.out).mono ?_
      rintro e w2 ⟨rfl, hb2⟩
      go_wp2
      go_ret2
      exact ⟨by rw [HR.out]; rfl, Below.step hb hb2⟩
    · have HR : Hid (rowPlanR xs s = (⟨#[]⟩, 2)) := by unfold Hid rowPlanR; rw [if_pos h1, if_neg h2]
      replace h2 : okRow s = false := by simpa using h2
      go_enter Try.func35, Try.ntmps35
      go_wp2_with (first | (go_at_call 23; refine (ValidStops_i _ _ _ _ xs h).mono ?_; rintro e w1 ⟨rfl, hb⟩; have hsz := hb.size; obtain ⟨hcw, hfw⟩ := bcell hb) | (go_at_call 59; refine (isRow_any _ s (by omega)).mono ?_; rintro e w1 ⟨rfl, rfl⟩))
      go_ret2
      exact ⟨by rw [HR.out]; rfl, hb⟩
  · have HR : Hid (rowPlanR xs s = (⟨#[]⟩, 1)) := by unfold Hid rowPlanR; rw [if_neg h1]
    replace h1 : okStops xs = false := by simpa using h1
    go_enter Try.func35, Try.ntmps35
    go_wp2_with (go_at_call 23; refine (ValidStops_i _ _ _ _ xs h).mono ?_; rintro e w1 ⟨rfl, hb⟩; have hsz := hb.size; obtain ⟨hcw, hfw⟩ := bcell hb)
    go_ret2
    exact ⟨by rw [HR.out]; rfl, hb⟩

def okRows : List ByteArray → Bool
  | [] => true
  | s :: ss => if okRow s = true then okRows ss else false
theorem okRows_all {ss : List ByteArray} (h : okRows ss = true) : ∀ s ∈ ss, okRow s = true := by
  induction ss with
  | nil => simp
  | cons y ys ih =>
    rw [okRows] at h
    by_cases hy : okRow y = true
    · rw [if_pos hy] at h
      intro s hs
      rcases List.mem_cons.1 hs with rfl | hs
      · exact hy
      · exact ih h s hs
    · rw [if_neg hy] at h; cases h
def rowsC (ss : List ByteArray) : Int := if ss.length ≤ 12 then (if okRows ss = true then 0 else 2) else 1
set_option maxHeartbeats 400000 in
theorem l11Rows_any (w : World) (A : Option Addr) (n c : Nat) (ss : List ByteArray) (h : Sl Value.string w A n ss) (hu : ∀ s ∈ ss, (s.size : Int) ≤ 1048576) :
    Calls Try.prog 38 #[.slice A n c] w fun e w' => e = .returned (.bool (okRows ss)) ∧ w = w' := by
  have hn := h.max
  have HU := hide hu
  clear hu
  go_enter Try.func38, Try.ntmps38
  go_wp2
  go_loop [3] (fun i => ∃ k : Nat, k ≤ n ∧ i = .int .i64 k ∧ okRows (ss.drop k) = okRows ss) (fun i => n - (intOf i).toNat)
  case atStart => exact ⟨0, Nat.zero_le _, rfl, by simp⟩
  case round =>
    obtain ⟨k, hk, rfl, HR⟩ := hrel
    by_cases hlt : k < n
    · obtain ⟨b, o, p, rfl, hx, hc⟩ := h.at_ (Below.refl _ _) hlt
      have hps := HU.out _ (List.mem_of_getElem? hx)
      rw [drop_get hx, okRows] at HR
      by_cases hp : okRow p = true
      · rw [if_pos hp] at HR
        have H2 := hide HR
        clear HR hx
        go_wp2_with (go_at_call 57; refine (l11Row_any _ _ (by omega)).mono ?_; rintro e w1 ⟨rfl, rfl⟩)
        go_round
        case rel => exact ⟨k + 1, by omega, by go_num, H2.out⟩
        case measure => simp [intOf]; omega
      · rw [if_neg hp] at HR
        have H2 := hide HR
        replace hp : okRow p = false := by simpa using hp
        clear HR hx
        go_wp2_with (go_at_call 57; refine (l11Row_any _ _ (by omega)).mono ?_; rintro e w1 ⟨rfl, rfl⟩)
        go_ret
        exact ⟨ret_bool H2.out, rfl⟩
    · rw [h.end_ hlt, okRows] at HR
      have H2 := hide HR
      clear HR
      go_wp2
      go_ret
      exact ⟨ret_bool H2.out, rfl⟩
set_option maxHeartbeats 400000 in
theorem rowsCode_any (w : World) (A : Option Addr) (n c : Nat) (ss : List ByteArray) (h : Sl Value.string w A n ss) (hu : ∀ s ∈ ss, (s.size : Int) ≤ 1048576) :
    Calls Try.prog 41 #[.slice A n c] w fun e w' => e = .returned (.int .i64 (rowsC ss)) ∧ w = w' := by
  have hn := h.max
  have HU := hide hu
  clear hu
  by_cases h12 : n ≤ 12
  · have HC : Hid (rowsC ss = if okRows ss = true then 0 else 2) := by unfold Hid rowsC; rw [h.len, if_pos h12]
    go_enter Try.func41, Try.ntmps41
    go_wp2
    go_loop [10] (fun i => ∃ k : Nat, k ≤ n ∧ i = .int .i64 k ∧ okRows (ss.drop k) = okRows ss) (fun i => n - (intOf i).toNat)
    case atStart => exact ⟨0, Nat.zero_le _, rfl, by simp⟩
    case round =>
      obtain ⟨k, hk, rfl, HR⟩ := hrel
      by_cases hlt : k < n
      · obtain ⟨b, o, p, rfl, hx, hc⟩ := h.at_ (Below.refl _ _) hlt
        have hps := HU.out _ (List.mem_of_getElem? hx)
        rw [drop_get hx, okRows] at HR
        by_cases hp : okRow p = true
        · rw [if_pos hp] at HR
          have H2 := hide HR
          clear HR hx
          go_wp2_with (go_at_call 59; refine (isRow_any _ _ (by omega)).mono ?_; rintro e w1 ⟨rfl, rfl⟩)
          go_round
          case rel => exact ⟨k + 1, by omega, by go_num, H2.out⟩
          case measure => simp [intOf]; omega
        · rw [if_neg hp] at HR
          have H2 := hide HR
          replace hp : okRow p = false := by simpa using hp
          clear HR hx
          go_wp2_with (go_at_call 59; refine (isRow_any _ _ (by omega)).mono ?_; rintro e w1 ⟨rfl, rfl⟩)
          go_ret
          exact ⟨ret_int (by rw [HC.out, ← H2.out]; rfl), rfl⟩
      · rw [h.end_ hlt, okRows] at HR
        have H2 := hide HR
        clear HR
        go_wp2
        go_ret
        exact ⟨ret_int (by rw [HC.out, ← H2.out]; rfl), rfl⟩
  · have HC : Hid (rowsC ss = 1) := by unfold Hid rowsC; rw [h.len, if_neg h12]
    go_enter Try.func41, Try.ntmps41
    go_wp2
    go_ret
    exact ⟨ret_int HC.out.symm, rfl⟩

/-! ### the moves of a page -/
def rowM (xs : List Int) (s : ByteArray) : Nat := (rowP xs 0 0 (by_ s)).2
def pageM (xs : List Int) : List ByteArray → Nat
  | [] => 0
  | s :: ss => rowM xs s + pageM xs ss
theorem pageM_take {xs : List Int} {ss : List ByteArray} {k : Nat} {s : ByteArray} (h : ss[k]? = some s) : pageM xs (ss.take (k + 1)) = pageM xs (ss.take k) + rowM xs s := by
  obtain ⟨h1, h2⟩ := List.getElem?_eq_some_iff.1 h
  rw [List.take_succ_eq_append_getElem h1, h2]
  generalize ss.take k = l
  induction l with
  | nil => simp [pageM]
  | cons a l ih => simp only [List.cons_append, pageM, ih]; omega
theorem rowP_le {xs : List Int} (hx : ∀ x ∈ xs, 1 ≤ x ∧ x ≤ 30) : ∀ bs i c, c ≤ i → i + bs.length ≤ 30 → (rowP xs i c bs).2 ≤ 30 * bs.length := by
  intro bs
  induction bs with
  | nil => intro i c _ _; simp [rowP]
  | cons b bs ih =>
    intro i c hc hi
    simp only [List.length_cons] at hi ⊢
    rw [rowP]
    by_cases hb : b = 32
    · rw [if_pos hb]
      have := ih (i + 1) c (by omega) (by omega)
      omega
    · rw [if_neg hb]
      have h1 := planOf_len hx (to := i) (c := c) (by omega) (by omega)
      have h2 := dist_le30 hx (to := i) (c := c) (by omega) (by omega)
      have := ih (i + 1) (i + 1) (Nat.le_refl _) (by omega)
      simp only
      omega
theorem rowM_le {xs : List Int} (hx : ∀ x ∈ xs, 1 ≤ x ∧ x ≤ 30) {s : ByteArray} (hs : s.size ≤ 30) : rowM xs s ≤ 900 := by
  have := rowP_le hx (by_ s) 0 0 (Nat.le_refl _) (by rw [by_len]; omega)
  rw [by_len] at this
  unfold rowM; omega
theorem pageM_le {xs : List Int} (hx : ∀ x ∈ xs, 1 ≤ x ∧ x ≤ 30) {ss : List ByteArray} (hs : ∀ s ∈ ss, s.size ≤ 30) : pageM xs ss ≤ 900 * ss.length := by
  induction ss with
  | nil => simp [pageM]
  | cons a ss ih =>
    have h1 := rowM_le hx (hs a (List.mem_cons_self ..))
    have h2 := ih (fun s h => hs s (List.mem_cons_of_mem _ h))
    simp only [pageM, List.length_cons]; omega

set_option maxHeartbeats 400000 in
theorem pageMoves_any (w : World) (A : Option Addr) (n c : Nat) (xs : List Int) (A2 : Option Addr) (n2 c2 : Nat) (ss : List ByteArray) (h : Sl (Value.int .i64) w A n xs) (hx : ∀ x ∈ xs, 1 ≤ x ∧ x ≤ 30) (h2 : Sl Value.string w A2 n2 ss) (hl : n2 ≤ 12) (hs : ∀ s ∈ ss, s.size ≤ 30) :
    Calls Try.prog 43 #[.slice A n c, .slice A2 n2 c2] w fun e w' => e = .returned (.int .i64 (pageM xs ss : Int)) ∧ Below w.heap.size w w' := by
  have HX := hide hx
  have HS := hide hs
  clear hx hs
  go_enter Try.func43, Try.ntmps43
  go_wp2
  go_loopw [5, 12] (fun m i wr => ∃ k : Nat, k ≤ n2 ∧ i = .int .i64 k ∧ m = .int .i64 (pageM xs (ss.take k) : Int) ∧ Below w.heap.size w wr) (fun _ i _ => n2 - (intOf i).toNat)
  case atStart => exact ⟨0, Nat.zero_le _, rfl, by simp [pageM], Below.refl _ _⟩
  case round =>
    obtain ⟨k, hk, rfl, rfl, hb⟩ := hrel
    by_cases hlt : k < n2
    · obtain ⟨b, o, s, rfl, hxk, hc⟩ := h2.at_ hb hlt
      have hs30 := HS.out _ (List.mem_of_getElem? hxk)
      have hp1 := pageM_le HX.out (ss := ss.take k) (fun s hs => HS.out s (List.mem_of_mem_take hs))
      have hp2 : (ss.take k).length ≤ k := List.length_take_le _ _
      have hr := rowM_le HX.out hs30
      have HT := hide (pageM_take (xs := xs) hxk)
      clear hxk
      go_wp2_with fail
      refine (rowPlan_any _ _ _ _ xs s (h.on hb) HX.out hs30).mono ?_
      rintro e w2 ⟨rfl, hb2⟩
      rw [show (rowP xs 0 0 (by_ s)).2 = rowM xs s from rfl]
      go_wp2
      go_roundw
      case rel => exact ⟨k + 1, by omega, by go_num, by rw [HT.out]; go_num, Below.step hb hb2⟩
      case measure => simp [intOf]; omega
    · have HE : Hid (pageM xs (ss.take k) = pageM xs ss) := by unfold Hid; rw [List.take_of_length_le (by rw [h2.len]; omega)]
      go_wp2
      go_ret
      exact ⟨ret_int (by rw [HE.out]), hb⟩
end Go.Proofs.Ytdcbdogcglinkaa
