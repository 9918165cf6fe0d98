/-
  NextStop, ClearStop, SetStop: what each returns, for all arguments.
-/
import Derived.Test.YtfaaeckcehaheaaL08A
import Derived.Test.YtfaaeckcehaheaaInts
namespace Go.Proofs.Ytfaaeckcehaheaa
open Go.RowKit

/-! ### NextStop -/
def nextStop (xs : List Int) (col : Int) : Int × Int :=
  if rackCode xs col = 0 then (match xs.find? (fun s => decide (col < s)) with | some s => (s, 0) | none => (0, 3)) else (0, rackCode xs col)
def nextGo (col : Int) (xs : List Int) : Int × Int := match xs.find? (fun s => decide (col < s)) with | some s => (s, 0) | none => (0, 3)
theorem nextGo_cons (col x : Int) (xs : List Int) : nextGo col (x :: xs) = if col < x then (x, 0) else nextGo col xs := by
  unfold nextGo; by_cases h : col < x <;> simp [h]

set_option maxHeartbeats 400000 in
theorem NextStop_s (w : World) (A : Option Addr) (n c : Nat) (xs : List Int) (col : Int) (h : Sl (Value.int .i64) w A n xs) :
    Calls Try.prog 22 #[.slice A n c, .int .i64 col] w fun e w' => e = .returned (.tuple #[.int .i64 (nextStop xs col).1, .int .i64 (nextStop xs col).2]) ∧ Below w.heap.size w w' := by
  have hn := h.max
  by_cases h1 : rackCode xs col = 0
  · have HR0 : Hid (nextStop xs col = nextGo col xs) := by unfold Hid nextStop nextGo; rw [if_pos h1]
    go_enter Try.func22, Try.ntmps22
    go_wp2_with (go_at_call 56; refine (l08Code_any _ _ _ _ xs _ h).mono ?_; rintro e w1 ⟨rfl, hb⟩; have hsz := hb.size; obtain ⟨hcw, hfw⟩ := bcell hb)
    have hb0 := hb
    clear h1
    go_loopw [7] (fun i wr => ∃ k : Nat, k ≤ n ∧ i = .int .i64 k ∧ Below w.heap.size w wr ∧ nextGo col (xs.drop k) = nextGo col xs) (fun i _ => n - (intOf i).toNat)
    case atStart => exact ⟨0, Nat.zero_le _, rfl, hb0, by simp⟩
    case round =>
      clear hb hb0 hcw hfw hsz
      obtain ⟨k, hk, rfl, hb, HR⟩ := hrel
      by_cases hlt : k < n
      · obtain ⟨b, o, x, rfl, hx, hc⟩ := h.at_ hb hlt
        rw [drop_get hx, nextGo_cons] at HR
        by_cases hcx : col < x
        · rw [if_pos hcx] at HR
          have H2 := hide HR
          clear HR hx
          go_wp2
          go_ret2
          exact ⟨by rw [HR0.out, ← H2.out]; rfl, hb⟩
        · rw [if_neg hcx] at HR
          have H2 := hide HR
          clear HR hx
          go_wp2
          go_roundw
          case rel => exact ⟨k + 1, by omega, by go_num, hb, H2.out⟩
          case measure => simp [intOf]; omega
      · rw [h.end_ hlt] at HR
        have H2 := hide HR
        clear HR
        go_wp2
        go_ret2
        exact ⟨by rw [HR0.out, ← H2.out]; rfl, hb⟩
  · have HR0 : Hid (nextStop xs col = (0, rackCode xs col)) := by unfold Hid nextStop; rw [if_neg h1]
    have h1b : (rackCode xs col != 0) = true := by simpa using h1
    go_enter Try.func22, Try.ntmps22
    go_wp2_with (go_at_call 56; refine (l08Code_any _ _ _ _ xs _ h).mono ?_; rintro e w1 ⟨rfl, hb⟩; have hsz := hb.size; obtain ⟨hcw, hfw⟩ := bcell hb)
    go_ret2
    exact ⟨by rw [HR0.out]; rfl, by (repeat first | exact Below.refl _ _ | (refine Below.alloc ?_ (by simp) _) | (refine Below.step ?_ (by assumption)))⟩

set_option maxHeartbeats 400000 in
theorem NextStop_i (w : World) (A : Option Addr) (n c : Nat) (xs : List Int) (col : Int) (h : Sl (Value.int .i64) w A n xs) :
    Calls Try.prog 23 #[.slice A n c, .int .i64 col] w fun e w' => e = .returned (.tuple #[.int .i64 (nextStop xs col).1, .int .i64 (nextStop xs col).2]) ∧ Below w.heap.size w w' := by
  have hn := h.max
  by_cases h1 : rackCode xs col = 0
  · have HR0 : Hid (nextStop xs col = nextGo col xs) := by unfold Hid nextStop nextGo; rw [if_pos h1]
    go_enter Try.func23, Try.ntmps23
    go_wp2_with (go_at_call 57; refine (rackCode_any _ _ _ _ xs _ h).mono ?_; rintro e w1 ⟨rfl, hb⟩; have hsz := hb.size; obtain ⟨hcw, hfw⟩ := bcell hb)
    have hb0 := hb
    clear h1
    go_loopw [17] (fun i wr => ∃ k : Nat, k ≤ n ∧ i = .int .i64 k ∧ Below w.heap.size w wr ∧ nextGo col (xs.drop k) = nextGo col xs) (fun i _ => n - (intOf i).toNat)
    case atStart => exact ⟨0, Nat.zero_le _, rfl, hb0, by simp⟩
    case round =>
      clear hb hb0 hcw hfw hsz
      obtain ⟨k, hk, rfl, hb, HR⟩ := hrel
      by_cases hlt : k < n
      · obtain ⟨b, o, x, rfl, hx, hc⟩ := h.at_ hb hlt
        rw [drop_get hx, nextGo_cons] at HR
        by_cases hcx : col < x
        · rw [if_pos hcx] at HR
          have H2 := hide HR
          clear HR hx
          go_wp2
          go_ret2
          exact ⟨by rw [HR0.out, ← H2.out]; rfl, hb⟩
        · rw [if_neg hcx] at HR
          have H2 := hide HR
          clear HR hx
          go_wp2
          go_roundw
          case rel => exact ⟨k + 1, by omega, by go_num, hb, H2.out⟩
          case measure => simp [intOf]; omega
      · rw [h.end_ hlt] at HR
        have H2 := hide HR
        clear HR
        go_wp2
        go_ret2
        exact ⟨by rw [HR0.out, ← H2.out]; rfl, hb⟩
  · have HR0 : Hid (nextStop xs col = (0, rackCode xs col)) := by unfold Hid nextStop; rw [if_neg h1]
    have h1b : (rackCode xs col != 0) = true := by simpa using h1
    go_enter Try.func23, Try.ntmps23
    go_wp2_with (go_at_call 57; refine (rackCode_any _ _ _ _ xs _ h).mono ?_; rintro e w1 ⟨rfl, hb⟩; have hsz := hb.size; obtain ⟨hcw, hfw⟩ := bcell hb)
    go_ret2
    exact ⟨by rw [HR0.out]; rfl, by (repeat first | exact Below.refl _ _ | (refine Below.alloc ?_ (by simp) _) | (refine Below.step ?_ (by assumption)))⟩

/-! ### ClearStop -/
def hasB : List Int → Int → Bool
  | [], _ => false
  | x :: xs, n => if x = n then true else hasB xs n
theorem hasB_iff (xs : List Int) (n : Int) : hasB xs n = true ↔ n ∈ xs := by
  induction xs with
  | nil => simp [hasB]
  | cons x xs ih =>
    by_cases h : x = n
    · simp [hasB, h]
    · simp [hasB, h, ih, show ¬ n = x from fun e => h e.symm]

theorem l00Has_any (w : World) (A : Option Addr) (n c : Nat) (xs : List Int) (z : Int) (h : Sl (Value.int .i64) w A n xs) :
    Calls Try.prog 62 #[.slice A n c, .int .i64 z] w fun e w' => e = .returned (.bool (hasB xs z)) ∧ w = w' := by
  have hn := h.max
  go_enter Try.func62, Try.ntmps62
  go_wp2
  go_loop [5] (fun i => ∃ k : Nat, k ≤ n ∧ i = .int .i64 k ∧ hasB (xs.drop k) z = hasB xs z) (fun i => n - (intOf i).toNat)
  case atStart => exact ⟨0, Nat.zero_le _, rfl, by simp⟩
  case round =>
    obtain ⟨k, hk, rfl, HR⟩ := hrel
    by_cases hlt : k < n
    · obtain ⟨b, o, x, rfl, hx, hc⟩ := h.at_ (Below.refl _ _) hlt
      rw [drop_get hx, hasB] at HR
      by_cases hcx : x = z
      · rw [if_pos hcx] at HR
        have hcb : (x == z) = true := by simpa using hcx
        have H2 := hide HR
        clear HR hx hcx
        go_wp2
        go_ret
        exact ⟨ret_bool H2.out, rfl⟩
      · rw [if_neg hcx] at HR
        have hcb : (x == z) = false := by simpa using hcx
        have H2 := hide HR
        clear HR hx hcx
        go_wp2
        go_round
        case rel => exact ⟨k + 1, by omega, by go_num, H2.out⟩
        case measure => simp [intOf]; omega
    · rw [h.end_ hlt] at HR
      have H2 := hide HR
      clear HR
      go_wp2
      go_ret
      exact ⟨ret_bool H2.out, rfl⟩

def clearStop (xs : List Int) (col : Int) : List Int × Int :=
  if rackCode xs col = 0 then (if hasB xs col = true then (xs.filter (fun s => s != col), 0) else ([], 3)) else ([], rackCode xs col)
theorem filter_step {xs : List Int} {k : Nat} {x col : Int} (hx : xs[k]? = some x) (acc : List Int) (h : acc ++ (xs.drop k).filter (fun s => s != col) = xs.filter (fun s => s != col)) :
    (if x = col then acc else acc ++ [x]) ++ (xs.drop (k + 1)).filter (fun s => s != col) = xs.filter (fun s => s != col) := by
  rw [drop_get hx, List.filter_cons] at h
  by_cases hc : x = col
  · simp [hc] at h ⊢; exact h
  · simp [hc] at h ⊢; exact h

set_option maxHeartbeats 400000 in
theorem ClearStop_s (w : World) (A : Option Addr) (n c : Nat) (xs : List Int) (col : Int) (h : Sl (Value.int .i64) w A n xs) (hl : n ≤ 1048576) :
    Calls Try.prog 30 #[.slice A n c, .int .i64 col] w fun e w' => ∃ v, e = .returned (.tuple #[v, .int .i64 (clearStop xs col).2]) ∧ Coll w w' 2 v ((clearStop xs col).1.map (Value.int .i64)) := by
  by_cases h1 : rackCode xs col = 0
  · by_cases h2 : hasB xs col = true
    · have HR0 : Hid (clearStop xs col = (xs.filter (fun s => s != col), 0)) := by unfold Hid clearStop; rw [if_pos h1, if_pos h2]
      go_enter Try.func30, Try.ntmps30
      go_wp2_with (first | (go_at_call 56; refine (l08Code_any _ _ _ _ xs _ h).mono ?_; rintro e w1 ⟨rfl, hb⟩; have hsz := hb.size; obtain ⟨hcw, hfw⟩ := bcell hb) | (go_at_call 62; refine (l00Has_any _ _ _ _ xs _ (h.on hb)).mono ?_; rintro e w2 ⟨rfl, rfl⟩))
      have hb0 := Coll.empty (e := 2) hb
      clear h1 h2
      go_loopw [7, 8] (fun v i wr => ∃ (k : Nat) (acc : List Int), k ≤ n ∧ acc.length ≤ k ∧ i = .int .i64 k ∧ Coll w wr 2 v (acc.map (Value.int .i64)) ∧ acc ++ (xs.drop k).filter (fun s => s != col) = xs.filter (fun s => s != col)) (fun _ i _ => n - (intOf i).toNat)
      case atStart => exact ⟨0, [], Nat.zero_le _, Nat.zero_le _, rfl, hb0, by simp⟩
      case round =>
        clear hb hb0 hcw hfw hsz
        obtain ⟨k, acc, hk, hak, rfl, hco, HR⟩ := hrel
        by_cases hlt : k < n
        · obtain ⟨b, o, x, rfl, hx, hc⟩ := h.at_ hco.below hlt
          have HF := filter_step hx acc HR
          by_cases hcx : x = col
          · rw [if_pos hcx] at HF
            have hcb : (x != col) = false := by simpa using hcx
            have H2 := hide HF
            clear HF HR hx hcx
            go_wp2
            go_roundw
            case rel => exact ⟨k + 1, acc, by omega, by omega, by go_num, hco, H2.out⟩
            case measure => simp [intOf]; omega
          · rw [if_neg hcx] at HF
            have hcb : (x != col) = true := by simpa using hcx
            have H2 := hide HF
            clear HF HR hx hcx
            go_wp2_with (at_builtin; refine Coll.push Try.underlying22 int64_info rfl (by decide) hco rfl (by rw [List.length_map]; omega) rfl _ _ rfl rfl rfl ?_; intro v1 w1 hc1 hg1)
            go_roundw
            case rel => exact ⟨k + 1, acc ++ [x], by omega, by simp; omega, by go_num, by simpa using hc1, H2.out⟩
            case measure => simp [intOf]; omega
        · rw [h.end_ hlt] at HR
          have H2 := hide HR
          clear HR
          go_wp2
          go_ret2
          refine ⟨_, by rw [HR0.out]; rfl, ?_⟩
          rw [HR0.out, ← H2.out]
          simpa using hco
    · have HR0 : Hid (clearStop xs col = ([], 3)) := by unfold Hid clearStop; rw [if_pos h1, if_neg h2]
      go_enter Try.func30, Try.ntmps30
      go_wp2_with (first | (go_at_call 56; refine (l08Code_any _ _ _ _ xs _ h).mono ?_; rintro e w1 ⟨rfl, hb⟩; have hsz := hb.size; obtain ⟨hcw, hfw⟩ := bcell hb) | (go_at_call 62; refine (l00Has_any _ _ _ _ xs _ (h.on hb)).mono ?_; rintro e w2 ⟨rfl, rfl⟩))
      go_ret2
      exact ⟨_, by rw [HR0.out]; rfl, by rw [HR0.out]; exact Coll.nil_ (by (repeat first | exact Below.refl _ _ | (refine Below.alloc ?_ (by simp) _) | (refine Below.step ?_ (by assumption))))⟩
  · have HR0 : Hid (clearStop xs col = ([], rackCode xs col)) := by unfold Hid clearStop; rw [if_neg h1]
    have h1b : (rackCode xs col != 0) = true := by simpa using h1
    have h1c : (rackCode xs col == 0) = false := by simpa using h1
    go_enter Try.func30, Try.ntmps30
    go_wp2_with (go_at_call 56; refine (l08Code_any _ _ _ _ xs _ h).mono ?_; rintro e w1 ⟨rfl, hb⟩; have hsz := hb.size; obtain ⟨hcw, hfw⟩ := bcell hb)
    go_ret2
    exact ⟨_, by rw [HR0.out]; rfl, by rw [HR0.out]; exact Coll.nil_ (by (repeat first | exact Below.refl _ _ | (refine Below.alloc ?_ (by simp) _) | (refine Below.step ?_ (by assumption))))⟩

theorem filter_len (xs : List Int) (col : Int) : (xs.filter (fun s => s != col)).length = xs.length ↔ ¬ hasB xs col = true := by
  rw [hasB_iff, List.length_filter_eq_length_iff]
  constructor
  · intro h hm
    simpa using h col hm
  · intro h a ha
    simp only [bne_iff_ne, ne_eq]
    rintro rfl
    exact h ha

set_option maxHeartbeats 400000 in
theorem ClearStop_i (w : World) (A : Option Addr) (n c : Nat) (xs : List Int) (col : Int) (h : Sl (Value.int .i64) w A n xs) (hl : n ≤ 1048576) :
    Calls Try.prog 31 #[.slice A n c, .int .i64 col] w fun e w' => ∃ v, e = .returned (.tuple #[v, .int .i64 (clearStop xs col).2]) ∧ Coll w w' 2 v ((clearStop xs col).1.map (Value.int .i64)) := by
  by_cases h1 : rackCode xs col = 0
  · have HR1 : Hid (clearStop xs col = if hasB xs col = true then (xs.filter (fun s => s != col), 0) else ([], 3)) := by unfold Hid clearStop; rw [if_pos h1]
    go_enter Try.func31, Try.ntmps31
    go_wp2_with (go_at_call 57; refine (rackCode_any _ _ _ _ xs _ h).mono ?_; rintro e w1 ⟨rfl, hb⟩; have hsz := hb.size; obtain ⟨hcw, hfw⟩ := bcell hb)
    have hb0 := Coll.empty (e := 2) hb
    clear h1
    go_loopw [7, 19] (fun v i wr => ∃ (k : Nat) (acc : List Int), k ≤ n ∧ acc.length ≤ k ∧ i = .int .i64 k ∧ Coll w wr 2 v (acc.map (Value.int .i64)) ∧ acc ++ (xs.drop k).filter (fun s => s != col) = xs.filter (fun s => s != col)) (fun _ i _ => n - (intOf i).toNat)
    case atStart => exact ⟨0, [], Nat.zero_le _, Nat.zero_le _, rfl, hb0, by simp⟩
    case round =>
      clear hb hb0 hcw hfw hsz
      obtain ⟨k, acc, hk, hak, rfl, hco, HR⟩ := hrel
      by_cases hlt : k < n
      · obtain ⟨b, o, x, rfl, hx, hc⟩ := h.at_ hco.below hlt
        have HF := filter_step hx acc HR
        by_cases hcx : x = col
        · rw [if_pos hcx] at HF
          have hcb : (x != col) = false := by simpa using hcx
          have H2 := hide HF
          clear HF HR hx hcx
          go_wp2
          go_roundw
          case rel => exact ⟨k + 1, acc, by omega, by omega, by go_num, hco, H2.out⟩
          case measure => simp [intOf]; omega
        · rw [if_neg hcx] at HF
          have hcb : (x != col) = true := by simpa using hcx
          have H2 := hide HF
          clear HF HR hx hcx
          go_wp2_with (at_builtin; refine Coll.push Try.underlying22 int64_info rfl (by decide) hco rfl (by rw [List.length_map]; omega) rfl _ _ rfl rfl rfl ?_; intro v1 w1 hc1 hg1)
          go_roundw
          case rel => exact ⟨k + 1, acc ++ [x], by omega, by simp; omega, by go_num, by simpa using hc1, H2.out⟩
          case measure => simp [intOf]; omega
      · rw [h.end_ hlt] at HR
        have H2 : Hid (acc = xs.filter (fun s => s != col)) := by unfold Hid; simpa using HR
        clear HR
        obtain ⟨A1, c1, rfl, -, -, -⟩ := Sl.of_coll hco
        have HL := filter_len xs col
        rw [← H2.out, h.len] at HL
        by_cases h2 : hasB xs col = true
        · have hne : ((acc.length : Int) == (n : Int)) = false := by simp; intro e; exact (HL.1 (by omega)) h2
          rw [if_pos h2] at HR1
          clear HL h2
          go_wp2
          go_ret2
          exact ⟨_, by rw [HR1.out]; rfl, by rw [HR1.out, ← H2.out]; exact hco⟩
        · have hne : ((acc.length : Int) == (n : Int)) = true := by have := HL.2 h2; simp; omega
          rw [if_neg h2] at HR1
          clear HL h2
          go_wp2
          go_ret2
          exact ⟨_, by rw [HR1.out]; rfl, by rw [HR1.out]; exact Coll.nil_ hco.below⟩
  · have HR0 : Hid (clearStop xs col = ([], rackCode xs col)) := by unfold Hid clearStop; rw [if_neg h1]
    have h1b : (rackCode xs col != 0) = true := by simpa using h1
    go_enter Try.func31, Try.ntmps31
    go_wp2_with (go_at_call 57; refine (rackCode_any _ _ _ _ xs _ h).mono ?_; rintro e w1 ⟨rfl, hb⟩; have hsz := hb.size; obtain ⟨hcw, hfw⟩ := bcell hb)
    go_ret2
    exact ⟨_, by rw [HR0.out]; rfl, by rw [HR0.out]; exact Coll.nil_ (by (repeat first | exact Below.refl _ _ | (refine Below.alloc ?_ (by simp) _) | (refine Below.step ?_ (by assumption))))⟩
theorem clearStop_len (xs : List Int) (col : Int) : (clearStop xs col).1.length ≤ xs.length := by
  unfold clearStop
  split
  · split
    · exact List.length_filter_le _ _
    · simp
  · simp
end Go.Proofs.Ytfaaeckcehaheaa
