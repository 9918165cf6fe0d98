/-
  Breaks that fill each line as far as possible.
-/
import Derived.Test.YtdfhibkennbliaaL09A
import Derived.Test.YtdfhibkennbliaaInts
namespace Go.Proofs.Ytdfhibkennbliaa
set_option maxRecDepth 100000
open Go.RowKit

/-- The breaks from word i on, the line begun at word fr; f words to come. -/
def fbGo (xs : List ByteArray) (m : Int) : Nat → Nat → Nat → List Int
  | 0, _, _ => []
  | f + 1, i, fr => if m < lineL ((xs.take (i + 1)).drop fr) then (i : Int) :: fbGo xs m f (i + 1) i else fbGo xs m f (i + 1) fr
def firstB (xs : List ByteArray) (m : Int) : List Int := fbGo xs m (xs.length - 1) 1 0
theorem fbGo_len (xs : List ByteArray) (m : Int) : ∀ f i fr, (fbGo xs m f i fr).length ≤ f := by
  intro f
  induction f with
  | zero => intro i fr; exact Nat.le_refl _
  | succ f ih =>
    intro i fr
    rw [fbGo]
    split
    · have := ih (i + 1) i; rw [List.length_cons]; omega
    · have := ih (i + 1) fr; omega
theorem firstB_len (xs : List ByteArray) (m : Int) : (firstB xs m).length ≤ xs.length - 1 := fbGo_len _ _ _ _ _
theorem fbGo_step {xs : List ByteArray} {m : Int} {n i fr : Nat} (h : i < n) : fbGo xs m (n - i) i fr = if m < lineL ((xs.take (i + 1)).drop fr) then (i : Int) :: fbGo xs m (n - (i + 1)) (i + 1) i else fbGo xs m (n - (i + 1)) (i + 1) fr := by
  rw [show n - i = (n - (i + 1)) + 1 from by omega, fbGo]
theorem mem_part {xs : List ByteArray} {a b : Nat} {s : ByteArray} (h : s ∈ (xs.take b).drop a) : s ∈ xs := List.mem_of_mem_take (List.mem_of_mem_drop h)

set_option maxHeartbeats 1000000 in
theorem l09First_any (w : World) (A : Option Addr) (n c : Nat) (xs : List ByteArray) (m : Int) (h : Sl Value.string w A n xs) (hcap : n ≤ c) (hn : n ≤ 40) (hs : ∀ s ∈ xs, s.size ≤ 80) :
    Calls Try.prog 51 #[.slice A n c, .int .i64 m] w fun e w' => ∃ v, e = .returned v ∧ Coll w w' 2 v ((firstB xs m).map (Value.int .i64)) := by
  have HS := hide hs
  have h0 := Coll.empty (e := 2) (Below.refl w.heap.size w)
  clear hs
  go_enter Try.func51, Try.ntmps51
  go_wp2
  go_loopw [5, 6, 7] (fun v f i wr => ∃ (k fr : Nat) (acc : List Int), 1 ≤ k ∧ (k ≤ n ∨ k = 1) ∧ fr < k ∧ i = .int .i64 k ∧ f = .int .i64 fr ∧ acc.length ≤ k ∧ Coll w wr 2 v (acc.map (Value.int .i64)) ∧ acc ++ fbGo xs m (n - k) k fr = firstB xs m) (fun _ _ i _ => n - (intOf i).toNat)
  case atStart => exact ⟨1, 0, [], Nat.le_refl _, .inr rfl, by omega, rfl, rfl, Nat.zero_le _, h0, by rw [firstB, h.len]; rfl⟩
  case round =>
    clear h0
    obtain ⟨k, fr, acc, hk1, hkn, hfr, rfl, rfl, hal, hco, HR⟩ := hrel
    by_cases hlt : k < n
    · have hb := hco.below
      have hltd : decide ((k : Int) < (n : Int)) = true := by rw [decide_eq_true_eq]; omega
      obtain ⟨b, o, x, rfl, hx, hc⟩ := h.at_ hb hlt
      rw [fbGo_step hlt] at HR
      have hsub := (((h.on hb).take (k := k + 1) (by omega)).from_some fr)
      have hne : ¬ c = fr := by omega
      have hpl := fun s hs => HS.out s (mem_part (xs := xs) (a := fr) (b := k + 1) (s := s) hs)
      obtain ⟨L, hL⟩ : ∃ L, lineL ((xs.take (k + 1)).drop fr) = L := ⟨_, rfl⟩
      rw [hL] at HR
      have HLL := hide hL
      clear hx hc hL
      by_cases hlong : m < L
      · rw [if_pos hlong] at HR
        have HN : Hid ((acc ++ [(k : Int)]) ++ fbGo xs m (n - (k + 1)) (k + 1) k = firstB xs m) := by unfold Hid; rw [← HR]; simp
        clear HR
        go_wp2_with fail
        refine (l09Long_any _ _ _ _ _ hsub (by omega) hpl).mono ?_
        rintro e w2 ⟨rfl, rfl⟩
        rw [HLL.out]
        go_wp2_with (at_builtin; refine Coll.push Try.underlying23 int64_info rfl (by decide) hco rfl (by rw [List.length_map]; omega) rfl _ _ rfl rfl rfl ?_; intro v1 w1 hc1 hg1)
        go_roundw
        case rel => exact ⟨k + 1, k, acc ++ [(k : Int)], by omega, .inl (by omega), by omega, by go_num, rfl, by simp; omega, by simpa using hc1, HN.out⟩
        case measure => simp [intOf]; omega
      · rw [if_neg hlong] at HR
        have HN := hide HR
        clear HR
        go_wp2_with fail
        refine (l09Long_any _ _ _ _ _ hsub (by omega) hpl).mono ?_
        rintro e w2 ⟨rfl, rfl⟩
        rw [HLL.out]
        go_wp2
        go_roundw
        case rel => exact ⟨k + 1, fr, acc, by omega, .inl (by omega), by omega, by go_num, rfl, by omega, hco, HN.out⟩
        case measure => simp [intOf]; omega
    · have HN : Hid (acc = firstB xs m) := by
        rw [show n - k = 0 from by omega, fbGo, List.append_nil] at HR
        exact HR
      clear HR
      go_wp2
      go_ret
      exact ⟨_, rfl, by rw [← HN.out]; exact hco⟩

set_option maxHeartbeats 1000000 in
theorem firstBreaks_any (w : World) (A : Option Addr) (n c : Nat) (xs : List ByteArray) (m : Int) (h : Sl Value.string w A n xs) (hcap : n ≤ c) (hn : n ≤ 40) (hs : ∀ s ∈ xs, s.size ≤ 80) :
    Calls Try.prog 58 #[.slice A n c, .int .i64 m] w fun e w' => ∃ v, e = .returned v ∧ Coll w w' 2 v ((firstB xs m).map (Value.int .i64)) := by
  have HS := hide hs
  have h0 := Coll.empty (e := 2) (Below.refl w.heap.size w)
  clear hs
  go_enter Try.func58, Try.ntmps58
  go_wp2
  go_loopw [5, 6, 11] (fun v f i wr => ∃ (k fr : Nat) (acc : List Int), k ≤ n ∧ i = .int .i64 k ∧ f = .int .i64 fr ∧ ((k = 0 ∧ fr = 0 ∧ acc = []) ∨ (1 ≤ k ∧ fr < k ∧ acc.length ≤ k ∧ acc ++ fbGo xs m (n - k) k fr = firstB xs m)) ∧ Coll w wr 2 v (acc.map (Value.int .i64))) (fun _ _ i _ => n - (intOf i).toNat)
  case atStart => exact ⟨0, 0, [], Nat.zero_le _, rfl, rfl, .inl ⟨rfl, rfl, rfl⟩, h0⟩
  case round =>
    clear h0
    obtain ⟨k, fr, acc, hkn, rfl, rfl, hcase, hco⟩ := hrel
    by_cases hlt : k < n
    · have hb := hco.below
      have hltd : decide ((k : Int) < (n : Int)) = true := by rw [decide_eq_true_eq]; omega
      rcases hcase with ⟨rfl, rfl, rfl⟩ | ⟨hk1, hfr, hal, HR⟩
      · go_wp2
        go_roundw
        case rel => exact ⟨1, 0, [], by omega, by go_num, rfl, .inr ⟨Nat.le_refl _, by omega, Nat.zero_le _, by rw [firstB, h.len]; rfl⟩, hco⟩
        case measure => simp [intOf]; omega
      obtain ⟨b, o, x, rfl, hx, hc⟩ := h.at_ hb hlt
      rw [fbGo_step hlt] at HR
      have hsub := (((h.on hb).take (k := k + 1) (by omega)).from_some fr)
      have hne : ¬ c = fr := by omega
      have hfd : decide ((fr : Int) < (k : Int)) = true := by rw [decide_eq_true_eq]; omega
      have hpl := fun s hs => HS.out s (mem_part (xs := xs) (a := fr) (b := k + 1) (s := s) hs)
      obtain ⟨L, hL⟩ : ∃ L, lineL ((xs.take (k + 1)).drop fr) = L := ⟨_, rfl⟩
      rw [hL] at HR
      have HLL := hide hL
      clear hx hc hL
      by_cases hlong : m < L
      · rw [if_pos hlong] at HR
        have HN : Hid ((acc ++ [(k : Int)]) ++ fbGo xs m (n - (k + 1)) (k + 1) k = firstB xs m) := by unfold Hid; rw [← HR]; simp
        clear HR
        go_wp2_with fail
        refine (lineLength_any _ _ _ _ _ hsub (by omega) hpl).mono ?_
        rintro e w2 ⟨rfl, rfl⟩
        rw [HLL.out]
        go_wp2_with (at_builtin; refine Coll.push Try.underlying23 int64_info rfl (by decide) hco rfl (by rw [List.length_map]; omega) rfl _ _ rfl rfl rfl ?_; intro v1 w1 hc1 hg1)
        go_roundw
        case rel => exact ⟨k + 1, k, acc ++ [(k : Int)], by omega, by go_num, rfl, .inr ⟨by omega, by omega, by simp; omega, HN.out⟩, by simpa using hc1⟩
        case measure => simp [intOf]; omega
      · rw [if_neg hlong] at HR
        have HN := hide HR
        clear HR
        go_wp2_with fail
        refine (lineLength_any _ _ _ _ _ hsub (by omega) hpl).mono ?_
        rintro e w2 ⟨rfl, rfl⟩
        rw [HLL.out]
        go_wp2
        go_roundw
        case rel => exact ⟨k + 1, fr, acc, by omega, by go_num, rfl, .inr ⟨by omega, by omega, by omega, HN.out⟩, hco⟩
        case measure => simp [intOf]; omega
    · have HN : Hid (acc = firstB xs m) := by
        rcases hcase with ⟨rfl, rfl, rfl⟩ | ⟨hk1, hfr, hal, HR⟩
        · have : n = 0 := by omega
          unfold Hid firstB
          rw [h.len, this]; rfl
        · rw [show n - k = 0 from by omega, fbGo, List.append_nil] at HR
          exact HR
      clear hcase
      go_wp2
      go_ret
      exact ⟨_, rfl, by rw [← HN.out]; exact hco⟩

/-! ### FirstBreaks, FewestLines, LeastWidth -/
def firstR (xs : List ByteArray) (m : Int) : List Int × Int := if validT xs m = true then (firstB xs m, 0) else ([], 1)
theorem firstR_len (xs : List ByteArray) (m : Int) : (firstR xs m).1.length ≤ 40 := by
  unfold firstR
  split
  · rename_i h
    have h1 := firstB_len xs m
    have h2 := (validT_facts h).2.1
    simp only; omega
  · simp
set_option maxHeartbeats 400000 in
theorem FirstBreaks_S (w : World) (A : Option Addr) (n c : Nat) (xs : List ByteArray) (m : Int) (h : Sl Value.string w A n xs) (hcap : n ≤ c) (hu : ∀ s ∈ xs, (s.size : Int) ≤ 1048576) :
    Calls Try.prog 32 #[.slice A n c, .int .i64 m] w fun e w' => ∃ v, e = .returned (.tuple #[v, .int .i64 (firstR xs m).2]) ∧ Coll w w' 2 v ((firstR xs m).1.map (Value.int .i64)) := by
  replace hu := hide hu
  by_cases hv : validT xs m = true
  · have HR : Hid (firstR xs m = (firstB xs m, 0)) := by unfold Hid firstR; rw [if_pos hv]
    obtain ⟨f1, f2, f3, f4⟩ := validT_facts hv
    rw [h.len] at f2
    have HS := hide (fun s hs => by have := f1 s hs; omega : ∀ s ∈ xs, s.size ≤ 80)
    clear f1
    go_enter Try.func32, Try.ntmps32
    go_wp2_with (go_at_call 48; refine (l09Ok_any _ _ _ _ xs _ h hu.out).mono ?_; rintro e w1 ⟨rfl, hb⟩)
    refine (l09First_any _ _ _ _ xs m (h.on hb) hcap f2 HS.out).mono ?_
    rintro e w2 ⟨v2, rfl, hc2⟩
    have HC := hide (hc2.since hb)
    clear hc2
    go_wp2
    go_ret2
    exact ⟨_, by rw [HR.out]; rfl, by rw [HR.out]; exact HC.out⟩
  · have HR : Hid (firstR xs m = ([], 1)) := by unfold Hid firstR; rw [if_neg hv]
    replace hv : validT xs m = false := by simpa using hv
    go_enter Try.func32, Try.ntmps32
    go_wp2_with (go_at_call 48; refine (l09Ok_any _ _ _ _ xs _ h hu.out).mono ?_; rintro e w1 ⟨rfl, hb⟩)
    go_ret2
    exact ⟨_, by rw [HR.out]; rfl, by rw [HR.out]; exact Coll.nil_ hb⟩
set_option maxHeartbeats 400000 in
theorem FirstBreaks_I (w : World) (A : Option Addr) (n c : Nat) (xs : List ByteArray) (m : Int) (h : Sl Value.string w A n xs) (hcap : n ≤ c) (hu : ∀ s ∈ xs, (s.size : Int) ≤ 1048576) :
    Calls Try.prog 33 #[.slice A n c, .int .i64 m] w fun e w' => ∃ v, e = .returned (.tuple #[v, .int .i64 (firstR xs m).2]) ∧ Coll w w' 2 v ((firstR xs m).1.map (Value.int .i64)) := by
  replace hu := hide hu
  by_cases hv : validT xs m = true
  · have HR : Hid (firstR xs m = (firstB xs m, 0)) := by unfold Hid firstR; rw [if_pos hv]
    obtain ⟨f1, f2, f3, f4⟩ := validT_facts hv
    rw [h.len] at f2
    have HS := hide (fun s hs => by have := f1 s hs; omega : ∀ s ∈ xs, s.size ≤ 80)
    clear f1
    go_enter Try.func33, Try.ntmps33
    go_wp2_with (go_at_call 23; refine (ValidText_I _ _ _ _ xs _ h hu.out).mono ?_; rintro e w1 ⟨rfl, hb⟩)
    refine (firstBreaks_any _ _ _ _ xs m (h.on hb) hcap f2 HS.out).mono ?_
    rintro e w2 ⟨v2, rfl, hc2⟩
    have HC := hide (hc2.since hb)
    clear hc2
    go_wp2
    go_ret2
    exact ⟨_, by rw [HR.out]; rfl, by rw [HR.out]; exact HC.out⟩
  · have HR : Hid (firstR xs m = ([], 1)) := by unfold Hid firstR; rw [if_neg hv]
    replace hv : validT xs m = false := by simpa using hv
    go_enter Try.func33, Try.ntmps33
    go_wp2_with (go_at_call 23; refine (ValidText_I _ _ _ _ xs _ h hu.out).mono ?_; rintro e w1 ⟨rfl, hb⟩)
    go_ret2
    exact ⟨_, by rw [HR.out]; rfl, by rw [HR.out]; exact Coll.nil_ hb⟩
end Go.Proofs.Ytdfhibkennbliaa
