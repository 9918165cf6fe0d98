/-
  The helpers of the laws over []string: copy, compare, mark, hold.
-/
import Derived.Test.YtanpmjbephelaaaInts
import Derived.Deep.RegionWith
namespace Go.Proofs.Ytanpmjbephelaaa
set_option maxRecDepth 100000
open Go.RowKit
/-! ### markText -/
def markB : Nat → Nat → ByteArray → ByteArray
  | 0, _, acc => acc
  | f + 1, j, acc => if j = 0 then acc else markB f (j / 10) (strOfNums [48 + (j : Int) % 10] ++ acc)
def markTxt (z : Int) : ByteArray := if z.toNat = 0 then ⟨#[109, 48]⟩ else ⟨#[109]⟩ ++ markB z.toNat z.toNat ⟨#[]⟩
theorem markB_zero (f : Nat) (acc : ByteArray) : markB f 0 acc = acc := by cases f <;> simp [markB]
theorem conv_one (z : Int) (W : World) : (convert 95 9 (.slice (some ⟨W.heap.size, 0, none⟩) 1 1)).run Try.prog (W.alloc (.cells #[.int .u8 z] 5)) = .ok (.string (strOfNums [z])) (W.alloc (.cells #[.int .u8 z] 5)) :=
  run_convert_bytes_arg (P := Try.prog) _ 95 5 Try.underlying95 Try.underlying5 W.heap.size 0 1 1 [z] rfl (fun i hi => by
    obtain rfl : i = 0 := by omega
    rw [World.cell?_alloc_at _ _ _ _ rfl]; rfl) 9 Try.underlying9

set_option maxHeartbeats 400000 in
theorem markText_nat (k : Nat) (w : World) (hk : k ≤ 4611686018427387904) :
    Calls Try.prog 60 #[.int .i64 k] w fun e w' => e = .returned (.string (markTxt k)) ∧ Below w.heap.size w w' := by
  by_cases h0 : k = 0
  · subst h0
    go_enter Try.func60, Try.ntmps60
    go_wp2
    go_ret
    exact ⟨rfl, Below.refl _ _⟩
  · have hcv := conv_one
    have hkp : 0 < k := by omega
    have hkd : decide ((k : Int) ≤ 0) = false := by rw [decide_eq_false_iff_not]; omega
    go_enter Try.func60, Try.ntmps60
    go_wp2
    go_loopw [0, 3] (fun kv out wr => ∃ (f j : Nat) (s : ByteArray), j ≤ f ∧ s.size + f ≤ k ∧ kv = .int .i64 j ∧ out = .string s ∧ markB f j s = markB k k ⟨#[]⟩ ∧ Below w.heap.size w wr) (fun kv _ _ => (intOf kv).toNat)
    case atStart => exact ⟨k, k, ⟨#[]⟩, Nat.le_refl _, by show 0 + k ≤ k; omega, rfl, rfl, rfl, Below.refl _ _⟩
    case round =>
      obtain ⟨f, j, s, hjf, hsf, rfl, rfl, HR, hb⟩ := hrel
      replace HR := hide HR
      by_cases hlt : 0 < j
      · obtain ⟨f', rfl⟩ : ∃ f', f = f' + 1 := ⟨f - 1, by omega⟩
        have H2 : Hid (markB f' (j / 10) (strOfNums [48 + (j : Int) % 10] ++ s) = markB k k ⟨#[]⟩) := by
          have := HR.out
          rw [markB, if_neg (by omega)] at this
          exact this
        have hs1 : (strOfNums [48 + (j : Int) % 10]).size = 1 := strOfNums_size _
        go_wp2
        go_roundw
        case rel => exact ⟨f', j / 10, _, by omega, by simp [hs1]; omega, by go_num, rfl, H2.out, hb.alloc hb.size _⟩
        case measure => simp [intOf]; omega
      · go_wp2
        go_ret
        have := HR.out
        rw [show j = 0 from by omega, markB_zero] at this
        exact ⟨by rw [markTxt, Int.toNat_natCast, if_neg h0, ← this]; rfl, hb⟩

theorem markText_any (z : Int) (w : World) (h0 : 0 ≤ z) (hk : z ≤ 4611686018427387904) :
    Calls Try.prog 60 #[.int .i64 z] w fun e w' => e = .returned (.string (markTxt z)) ∧ Below w.heap.size w w' := by
  obtain ⟨k, rfl⟩ := Int.eq_ofNat_of_zero_le h0
  exact markText_nat k w (by omega)


theorem string_info : (Try.prog.info? 9).map (fun i => (i.zero, i.size, i.bytes)) = some (some (.string ⟨#[]⟩), 1, 16) := by kernel_rfl

/-! ### toStringS -/
theorem part_step_s (xs : List ByteArray) (k n : Nat) (x : ByteArray) (hn : xs.length = n) (hx : xs[k]? = some x) :
    ((xs.take k).map Value.string ++ List.replicate (n - k) (Value.string ⟨#[]⟩)).set k (.string x) = (xs.take (k + 1)).map Value.string ++ List.replicate (n - (k + 1)) (Value.string ⟨#[]⟩) := by
  obtain ⟨h1, h2⟩ := List.getElem?_eq_some_iff.1 hx
  have hl : ((xs.take k).map Value.string).length = k := by simp; omega
  rw [List.set_append_right _ _ (by omega), hl, Nat.sub_self, show n - k = (n - (k + 1)) + 1 from by omega, List.replicate_succ, List.set_cons_zero, List.take_succ_eq_append_getElem h1, h2]
  simp

set_option maxHeartbeats 400000 in
theorem toStringS_any (w : World) (A : Option Addr) (n c : Nat) (xs : List ByteArray) (h : Sl Value.string w A n xs) (hn : n ≤ 1048576) :
    Calls Try.prog 16 #[.slice A n c] w fun e w' => ∃ v, e = .returned v ∧ Coll w w' 9 v (xs.map Value.string) := by
  obtain ⟨i0, hi, hz0, hz1, hz2⟩ := info_parts string_info
  go_enter Try.func16, Try.ntmps16
  go_wp2_with (at_make; refine wpList_make_full _ rfl _ _ 22 rfl w.heap.size 9 i0 (.string ⟨#[]⟩) 1 Try.underlying22 hi hz0 hz1 .i64 .i64 _ _ n rfl rfl rfl rfl (by rw [hz2]; omega) (by simp only [maxLen]; omega) (Nat.le_refl _) ?_; intro w1 hown1 hg1)
  have hb1 : Below w.heap.size w w1 := (Below.refl _ _).grown hg1 (Nat.le_refl _) (by simp)
  simp only [Value.cells, Nat.mul_one, toList_madeCells_one] at hown1
  go_loopw [4] (fun i wr => ∃ k : Nat, k ≤ n ∧ i = .int .i64 k ∧ wr.ownsRow w.heap.size 9 1 (.slice (some ⟨w.heap.size, 0, none⟩) n n) n ((xs.take k).map Value.string ++ List.replicate (n - k) (.string ⟨#[]⟩)) ∧ Below w.heap.size w wr) (fun i _ => n - (intOf i).toNat)
  case atStart => exact ⟨0, Nat.zero_le _, rfl, by simpa using hown1, hb1⟩
  case round =>
    obtain ⟨k, hk, rfl, hown, hb⟩ := hrel
    by_cases hlt : k < n
    · obtain ⟨b, o, x, rfl, hx, hc⟩ := h.at_ hb hlt
      have hcell := hown.cellAt k (by omega)
      rw [List.getElem?_append_right (by simp; omega), List.getElem?_replicate] at hcell
      have hlen : ((xs.take k).map Value.string).length = k := by have := h.len; simp; omega
      rw [hlen, if_pos (by omega)] at hcell
      have hfr := hown.frozenAt k
      have hst := hown.stored k (.string x)
      rw [part_step_s xs k n x h.len hx] at hst
      have HS := hide hst
      clear hst hlen hown hx
      go_wp2
      go_roundw
      case rel => exact ⟨k + 1, by omega, by go_num, HS.out.1, hb.grown HS.out.2 hb.size (fun g hg => by cases hg; exact Nat.le_refl _)⟩
      case measure => simp [intOf]; omega
    · have hkn : k = n := by omega
      subst hkn
      have HO : Hid (Coll w wr 9 (.slice (some ⟨w.heap.size, 0, none⟩) k k) (xs.map Value.string)) := by
        refine ⟨?_, hb⟩
        rw [List.length_map, h.len]
        simpa [← h.len] using hown
      clear hown
      go_wp2
      go_ret
      exact ⟨_, rfl, HO.out⟩

/-! ### eqStringS, of two slices that read as one list -/
set_option maxHeartbeats 400000 in
theorem eqStringS_same (w : World) (A A' : Option Addr) (n c c' : Nat) (xs : List ByteArray) (h1 : Sl Value.string w A n xs) (h2 : Sl Value.string w A' n xs) :
    Calls Try.prog 19 #[.slice A n c, .slice A' n c'] w fun e w' => e = .returned (.bool true) ∧ Below w.heap.size w w' := by
  have hn := h1.max
  go_enter Try.func19, Try.ntmps19
  go_wp2
  go_loopw [5] (fun i wr => ∃ k : Nat, k ≤ n ∧ i = .int .i64 k ∧ Below w.heap.size w wr) (fun i _ => n - (intOf i).toNat)
  case atStart => exact ⟨0, Nat.zero_le _, rfl, Below.refl _ _⟩
  case round =>
    obtain ⟨k, hk, rfl, hb⟩ := hrel
    by_cases hlt : k < n
    · obtain ⟨b, o, x, rfl, hx, hc⟩ := h1.at_ hb hlt
      obtain ⟨b', o', x', rfl, hx', hc'⟩ := h2.at_ hb hlt
      obtain rfl : x = x' := by rw [hx] at hx'; exact Option.some.inj hx'
      clear hx hx'
      go_wp2
      go_quiet (fail)
      go_wp2
      go_roundw
      case rel => exact ⟨k + 1, by omega, by go_num, below_drewN hb _⟩
      case measure => simp [intOf]; omega
    · go_wp2
      go_ret
      exact ⟨rfl, hb⟩
/-! ### markStringS, heldStringS -/
def marksS (k0 : Int) (n : Nat) : List Value := (List.range n).map fun j : Nat => Value.string (markTxt (k0 + (j : Int)))
theorem marksS_length (k0 : Int) (n : Nat) : (marksS k0 n).length = n := by simp [marksS]
theorem marksS_get (k0 : Int) (n j : Nat) (h : j < n) : (marksS k0 n)[j]? = some (.string (markTxt (k0 + j))) := by simp [marksS, h]
theorem marksS_succ (k0 : Int) (n : Nat) : marksS k0 (n + 1) = marksS k0 n ++ [.string (markTxt (k0 + n))] := by simp [marksS, List.range_succ]
theorem marksS_step (k0 : Int) (j n : Nat) (xs : List Value) (hx : xs.length = n) (hj : j < n) : (marksS k0 j ++ xs.drop j).set j (.string (markTxt (k0 + j))) = marksS k0 (j + 1) ++ xs.drop (j + 1) := by
  rw [List.set_append_right _ _ (by simp [marksS_length]), marksS_length, Nat.sub_self, List.drop_eq_getElem_cons (by omega), List.set_cons_zero, marksS_succ]
  simp

set_option maxHeartbeats 400000 in
theorem markStringS_any (base : Nat) (A : Option Addr) (c n : Nat) (xs : List Value) (k0 : Int) (w : World) (hown : w.ownsRow base 9 1 (.slice A n c) n (xs)) (hone : ∀ u ∈ xs, ∃ z, u = Value.string z)
    (hn : n ≤ maxLen) (hk0 : 0 ≤ k0) (hk1 : k0 + n ≤ 4611686018427387904) :
    Calls Try.prog 21 #[.slice A n c, .int .i64 k0] w fun e w' =>
      e = .returned (.int .i64 (k0 + n)) ∧ w.grownBy w' (Value.slice A n c).ownBlock ∧ w'.ownsRow base 9 1 (.slice A n c) n (marksS k0 n) := by
  unfold maxLen at hn
  go_enter Try.func21, Try.ntmps21
  go_wp2
  go_loopw [1, 5] (fun kv i wr => ∃ j : Nat, j ≤ n ∧ i = .int .i64 j ∧ kv = .int .i64 (k0 + j) ∧ wr.ownsRow base 9 1 (.slice A n c) n (marksS k0 j ++ xs.drop j) ∧ w.grownBy wr (Value.slice A n c).ownBlock) (fun _ i _ => n - (intOf i).toNat)
  case atStart => exact ⟨0, Nat.zero_le _, rfl, by simp, by simpa [marksS] using hown, World.grownBy.refl _ _⟩
  case round =>
    obtain ⟨j, hj, rfl, rfl, ho, hg⟩ := hrel
    by_cases hlt : j < n
    · have hl : xs.length = n := by have := hown.1; omega
      obtain ⟨g, rfl, hgb⟩ := own_form ho (by omega)
      have hcell := ho.cellAt j (by omega)
      rw [List.getElem?_append_right (by simp [marksS_length]), marksS_length, Nat.sub_self, List.getElem?_drop, Nat.add_zero] at hcell
      obtain ⟨z, hz⟩ := hone xs[j] (List.getElem_mem _)
      have hz' : xs[j]? = some (.string z) := by rw [List.getElem?_eq_getElem (by omega), hz]
      rw [hz'] at hcell
      have hfr := ho.frozenAt j
      have HG := hide hg
      clear hg hz hz' hown
      go_wp2_with fail
      refine (markText_any _ _ (by omega) (by omega)).mono ?_
      rintro e w1 ⟨rfl, hb⟩
      have ho1 := own_below ho hb
      have hg1 : wr.grownBy w1 (Value.slice (some ⟨g, 0, none⟩) n c).ownBlock := ⟨hb.os, hb.tape, hb.output, hb.size, fun i hi _ => hb.block i hi⟩
      have hst := ho1.stored j (.string (markTxt (k0 + j)))
      rw [marksS_step k0 j n xs hl hlt] at hst
      have hgl := (ho.lt g rfl).2
      have hcell1 : w1.cell? ⟨g, j, none⟩ = some (.string z) := (hb.cell (p := ⟨g, j, none⟩) hgl).trans hcell
      have hfr1 : w1.frozen? ⟨g, j, none⟩ = false := (hb.frozen (p := ⟨g, j, none⟩) hgl).trans hfr
      have HS := hide hst
      have HG1 := hide hg1
      clear hst ho ho1 hl hg1 hcell hfr hb
      go_wp2
      go_roundw
      case rel => exact ⟨j + 1, by omega, by go_num, by go_num, HS.out.1, grow_trans (grow_trans HG.out HG1.out) HS.out.2⟩
      case measure => simp [intOf]; omega
    · obtain rfl : j = n := by omega
      have HO : Hid (wr.ownsRow base 9 1 (.slice A j c) j (marksS k0 j)) := by
        have := hown.1
        rw [List.drop_eq_nil_of_le (by omega), List.append_nil] at ho
        exact ho
      have HG := hide hg
      clear ho hg hown
      go_wp2
      go_ret
      exact ⟨rfl, HG.out, HO.out⟩

set_option maxHeartbeats 400000 in
theorem heldStringS_any (base : Nat) (A : Option Addr) (c n : Nat) (k0 : Int) (w : World) (hown : w.ownsRow base 9 1 (.slice A n c) n (marksS k0 n))
    (hn : n ≤ maxLen) (hk0 : 0 ≤ k0) (hk1 : k0 + n ≤ 4611686018427387904) :
    Calls Try.prog 23 #[.slice A n c, .int .i64 k0] w fun e w' => e = .returned (.int .i64 (k0 + n)) ∧ Below w.heap.size w w' := by
  unfold maxLen at hn
  go_enter Try.func23, Try.ntmps23
  go_wp2
  go_loopw [1, 5] (fun kv i wr => ∃ j : Nat, j ≤ n ∧ i = .int .i64 j ∧ kv = .int .i64 (k0 + j) ∧ Below w.heap.size w wr) (fun _ i _ => n - (intOf i).toNat)
  case atStart => exact ⟨0, Nat.zero_le _, rfl, by simp, Below.refl _ _⟩
  case round =>
    obtain ⟨j, hj, rfl, rfl, hb⟩ := hrel
    by_cases hlt : j < n
    · obtain ⟨g, rfl, hgb⟩ := own_form hown (by omega)
      have hgl0 := (hown.lt g rfl).2
      have hcell := (hb.cell (p := ⟨g, j, none⟩) hgl0).trans (hown.cellAt j (by omega))
      rw [marksS_get k0 n j hlt] at hcell
      clear hown
      have hgl : g < wr.heap.size := Nat.lt_of_lt_of_le hgl0 hb.size
      go_wp2_with fail
      go_region_with (go_at_call 60; refine (markText_any _ _ (by omega) (by omega)).mono ?_; rintro e w1 ⟨rfl, hb1⟩; have hcell1 : w1.cell? ⟨g, j, none⟩ = some (.string (markTxt (k0 + j))) := (hb1.cell (p := ⟨g, j, none⟩) hgl).trans hcell)
      all_goals
        go_wp2
        go_roundw
        case rel => exact ⟨j + 1, by omega, by go_num, by go_num, Below.step hb.drew (by assumption)⟩
        case measure => simp [intOf]; omega
    · obtain rfl : j = n := by omega
      go_wp2
      go_ret
      exact ⟨rfl, hb⟩
end Go.Proofs.Ytanpmjbephelaaa
