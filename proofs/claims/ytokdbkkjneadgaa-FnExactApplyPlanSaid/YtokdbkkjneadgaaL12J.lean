/-
  Slices of rules: the copy of the laws; ValidOvers: what it returns, for all arguments.
-/
import Derived.Test.YtokdbkkjneadgaaL12I
namespace Go.Proofs.Ytokdbkkjneadgaa
set_option maxRecDepth 100000
open Go.RowKit

/-! ### toOverS -/
theorem own_below_n {w w' : World} {base e s n : Nat} {v : Value} {xs : List Value} (h : w.ownsRow base e s v n xs) (hb : Below w.heap.size w w') : w'.ownsRow base e s v n xs :=
  h.kept (row := none) ⟨hb.os, hb.tape, hb.output, hb.size, fun k hk _ => hb.block k hk⟩ (by cases v.ownBlock <;> simp)
structure Got3 {α : Type} (f : α → Value) (W w : World) (A : Option Addr) (n c : Nat) (xs : List (α × α × α)) : Prop where
  cap : n ≤ c
  below : Below W.heap.size W w
  sl : Sl3 f w A n xs
theorem over_info : (Try.prog.info? 26).map (fun i => (i.zero, i.size, i.bytes)) = some (some (.agg #[.string ⟨#[]⟩, .string ⟨#[]⟩, .string ⟨#[]⟩]), 3, 48) := by kernel_rfl
abbrev Rule := ByteArray × ByteArray × ByteArray
def OvB (xs : List Rule) : Prop := ∀ x ∈ xs, (x.1.size : Int) ≤ 1048576 ∧ (x.2.1.size : Int) ≤ 1048576 ∧ (x.2.2.size : Int) ≤ 1048576
set_option maxHeartbeats 400000 in
theorem toOverS_any (w : World) (A : Option Addr) (n c : Nat) (xs : List Rule) (h : Sl3 Value.string w A n xs) (hn : (n : Int) ≤ 1048576) (_hu : OvB xs) :
    Calls Try.prog 33 #[.slice A n c] w fun e w' => ∃ A1 c1, e = .returned (.slice A1 n c1) ∧ Got3 Value.string w w' A1 n c1 xs := by
  obtain ⟨i0, hi, hz0, hz1, hz2⟩ := info_parts over_info
  go_enter Try.func33, Try.ntmps33
  go_wp2_with (at_make; refine wpList_make_full _ rfl _ _ 47 rfl w.heap.size 26 i0 (.agg #[.string ⟨#[]⟩, .string ⟨#[]⟩, .string ⟨#[]⟩]) 3 Try.underlying47 hi hz0 hz1 .i64 .i64 _ _ n rfl rfl rfl rfl (by rw [hz2]; omega) (by simp only [maxLen]; omega) (Nat.le_refl _) ?_; intro w1 hown1 hg1)
  have hb1 : Below w.heap.size w w1 := (Below.refl _ _).grown hg1 (Nat.le_refl _) (by simp)
  obtain ⟨cs0, hown0⟩ : ∃ cs0, w1.ownsRow w.heap.size 26 3 (.slice (some ⟨w.heap.size, 0, none⟩) n n) n cs0 := ⟨_, hown1⟩
  clear hown1
  go_loopw [4] (fun i wr => ∃ (k : Nat) (cs : List Value), k ≤ n ∧ i = .int .i64 k ∧ wr.ownsRow w.heap.size 26 3 (.slice (some ⟨w.heap.size, 0, none⟩) n n) n cs ∧ In3 Value.string cs (xs.take k) ∧ Below w.heap.size w wr) (fun i _ => n - (intOf i).toNat)
  case atStart => exact ⟨0, cs0, Nat.zero_le _, rfl, hown0, fun j x hx => by simp at hx, hb1⟩
  case round =>
    clear hown0 hg1 hb1
    obtain ⟨k, cs, hk, rfl, hown, hin, hb⟩ := hrel
    by_cases hlt : k < n
    · obtain ⟨b, o, x, y, z, rfl, hbl, hx, c0, c1, c2⟩ := h.at_ hb hlt
      have hlen : cs.length = n * 3 := hown.1
      have hgl := (hown.lt w.heap.size rfl).2
      have hl3 : k * 3 + 2 < cs.length := by omega
      have hd0 := hown.cellAt (k * 3) (by omega)
      have hd1 := hown.cellAt (k * 3 + 1) (by omega)
      have hd2 := hown.cellAt (k * 3 + 2) (by omega)
      rw [List.getElem?_eq_getElem (by omega)] at hd0 hd1 hd2
      have hf0 := hown.frozenAt (k * 3)
      have hf1 := hown.frozenAt (k * 3 + 1)
      have hf2 := hown.frozenAt (k * 3 + 2)
      have HIN := hide (hin.step hx hl3)
      replace hlen := hide hlen
      clear hx hin
      go_wp2_with fail
      refine (toOver_any _ _ _ _).mono ?_
      rintro e w1 ⟨rfl, hb1⟩
      have ho1 := own_below_n hown hb1
      have e0 := (hb1.cell (p := ⟨w.heap.size, k * 3, none⟩) hgl).trans hd0
      have e1 := (hb1.cell (p := ⟨w.heap.size, k * 3 + 1, none⟩) hgl).trans hd1
      have e2 := (hb1.cell (p := ⟨w.heap.size, k * 3 + 2, none⟩) hgl).trans hd2
      have g0 := (hb1.frozen (p := ⟨w.heap.size, k * 3, none⟩) hgl).trans hf0
      have g1 := (hb1.frozen (p := ⟨w.heap.size, k * 3 + 1, none⟩) hgl).trans hf1
      have g2 := (hb1.frozen (p := ⟨w.heap.size, k * 3 + 2, none⟩) hgl).trans hf2
      have s0 := ho1.stored (k * 3) (.string x)
      have s1 := s0.1.stored (k * 3 + 1) (.string y)
      have s2 := s1.1.stored (k * 3 + 2) (.string z)
      have HS := hide (And.intro s2.1 (grow_trans s0.2 (grow_trans s1.2 s2.2)))
      have HB := hide (Below.step hb hb1)
      clear hd0 hd1 hd2 hf0 hf1 hf2 s0 s1 s2 ho1 hown hb1 hb
      go_wp2
      go_roundw
      case rel => exact ⟨k + 1, _, by omega, by go_num, HS.out.1, HIN.out, HB.out.grown HS.out.2 HB.out.size (fun g hg => by cases hg; exact Nat.le_refl _)⟩
      case measure => simp [intOf]; omega
    · have hkn : k = n := by omega
      have HO : Hid (Got3 Value.string w wr (some ⟨w.heap.size, 0, none⟩) n n xs) := by
        refine ⟨Nat.le_refl _, hb, Sl3.of_own hown h.len (by omega) ?_⟩
        rw [hkn, List.take_of_length_le (by rw [h.len]; exact Nat.le_refl _)] at hin
        exact hin
      clear hown hin hkn
      go_wp2
      go_ret
      exact ⟨_, _, rfl, HO.out⟩

/-! ### ValidOvers -/
def sameR (y x : Rule) : Bool := sameT y.1 x.1 && sameT y.2.1 x.2.1
def hasR (x : Rule) : List Rule → Bool
  | [] => false
  | y :: ys => if sameR y x = true then true else hasR x ys
def oversGo : List Rule → List Rule → Bool
  | _, [] => true
  | pre, x :: xs => if ovOk x.1 x.2.1 x.2.2 = true then (if hasR x pre = true then false else oversGo (pre ++ [x]) xs) else false
def okOvers (xs : List Rule) : Bool := oversGo [] xs && decide (xs.length ≤ 20)
theorem take_next {α : Type} {xs : List α} {k : Nat} {x : α} (hx : xs[k]? = some x) : xs.take (k + 1) = xs.take k ++ [x] := by
  obtain ⟨h1, h2⟩ := List.getElem?_eq_some_iff.1 hx
  rw [List.take_succ_eq_append_getElem h1, h2]
theorem take_drop_next {α : Type} {xs : List α} {k j : Nat} {y : α} (hy : xs[j]? = some y) (hj : j < k) : (xs.take k).drop j = y :: (xs.take k).drop (j + 1) :=
  drop_get (by rw [List.getElem?_take, if_pos hj]; exact hy)

theorem beq_comm_l (a b : List UInt8) : (a == b) = (b == a) := by rw [Bool.eq_iff_iff, beq_iff_eq, beq_iff_eq]; exact eq_comm


set_option maxHeartbeats 1000000 in
theorem l12Ok_any (w : World) (A : Option Addr) (n c : Nat) (xs : List Rule) (h : Sl3 Value.string w A n xs) (hu : OvB xs) :
    Calls Try.prog 68 #[.slice A n c] w fun e w' => e = .returned (.bool (okOvers xs)) ∧ Below w.heap.size w w' := by
  have hn := h.max
  have HU := hide hu
  clear hu
  go_enter Try.func68, Try.ntmps68
  go_wp2
  go_loopw [3] (fun i wr => ∃ k : Nat, k ≤ n ∧ i = .int .i64 k ∧ Below w.heap.size w wr ∧ oversGo (xs.take k) (xs.drop k) = oversGo [] xs) (fun i _ => n - (intOf i).toNat)
  case atStart => exact ⟨0, Nat.zero_le _, rfl, Below.refl _ _, by simp⟩
  case round =>
    obtain ⟨k, hk, rfl, hb, HR⟩ := hrel
    by_cases hlt : k < n
    · obtain ⟨b, o, x, y, z, rfl, hbl, hx, c0, c1, c2⟩ := h.at_ hb hlt
      obtain ⟨m1, m2, m3⟩ := HU.out _ (List.mem_of_getElem? hx)
      simp only at m1 m2 m3
      rw [drop_get hx, oversGo] at HR
      simp only at HR
      by_cases hok : ovOk x y z = true
      · rw [if_pos hok] at HR
        rw [← take_next hx] at HR
        replace HR := hide HR
        replace hx := hide hx
        have hbl' : b < wr.heap.size := Nat.lt_of_lt_of_le hbl hb.size
        go_wp2_with fail
        refine (l12One_any _ _ _ x y z (by omega) (by omega) (by omega) c0 c1 c2).mono ?_
        rintro e w1 ⟨rfl, hb1⟩
        have hb2 := Below.step hb hb1
        have d0 := (hb1.cell (p := ⟨b, o + k * 3, none⟩) hbl').trans c0
        have d1 := (hb1.cell (p := ⟨b, o + k * 3 + 1, none⟩) hbl').trans c1
        clear c0 c1 c2 hb1
        have hbl1 : b < w1.heap.size := Nat.lt_of_lt_of_le hbl hb2.size
        go_wp2
        go_loopw [4] (fun i wi => ∃ j : Nat, j ≤ k ∧ i = .int .i64 j ∧ Below w1.heap.size w1 wi ∧ hasR (x, y, z) ((xs.take k).drop j) = hasR (x, y, z) (xs.take k)) (fun i _ => k - (intOf i).toNat)
        case atStart => exact ⟨0, Nat.zero_le _, rfl, Below.refl _ _, by simp⟩
        case round =>
          obtain ⟨j, hj, rfl, hbi, HQ⟩ := hrel
          have f0 := (hbi.cell (p := ⟨b, o + k * 3, none⟩) hbl1).trans d0
          have f1 := (hbi.cell (p := ⟨b, o + k * 3 + 1, none⟩) hbl1).trans d1
          by_cases hlt2 : j < k
          · have hjl : j < xs.length := by have := h.len; omega
            obtain ⟨⟨u, v, t⟩, hy⟩ : ∃ q, xs[j]? = some q := ⟨_, List.getElem?_eq_getElem hjl⟩
            obtain ⟨e0, e1, e2⟩ := h.cells (Below.step hb2 hbi) hy
            rw [take_drop_next hy hlt2, hasR] at HQ
            clear d0 d1
            by_cases hs : sameR (u, v, t) (x, y, z) = true
            · rw [if_pos hs] at HQ
              have H3 : Hid (okOvers xs = false) := by unfold Hid; rw [okOvers, ← HR.out, ← HQ, if_pos rfl, Bool.false_and]
              have hs' : sameT u x = true ∧ sameT v y = true := by simpa [sameR] using hs
              unfold sameT at hs'
              obtain ⟨q1, q2⟩ := hs'
              skip
              clear hs HQ hy
              go_wp2; go_quiet (fail); go_wp2
              go_ret
              exact ⟨ret_bool H3.out.symm, (by first | exact below_drewN hbi _ | exact below_drewN (Below.step hb2 hbi) _)⟩
            · rw [if_neg hs] at HQ
              have H3 := hide HQ
              have hs' : (u.toList == x.toList) = false ∨ ((u.toList == x.toList) = true ∧ (v.toList == y.toList) = false) := by
                by_cases h1 : (u.toList == x.toList) = true
                · right
                  refine ⟨h1, ?_⟩
                  simp [sameR, sameT] at hs ⊢
                  exact hs (by simpa using h1)
                · left; simpa using h1
              clear hs HQ hy
              rcases hs' with q1 | ⟨q1, q2⟩
              · skip
                go_wp2; go_quiet (fail); go_wp2
                go_roundw
                case rel => exact ⟨j + 1, by omega, by go_num, (by first | exact below_drewN hbi _ | exact below_drewN (Below.step hb2 hbi) _), H3.out⟩
                case measure => simp [intOf]; omega
              · skip
                go_wp2; go_quiet (fail); go_wp2
                go_roundw
                case rel => exact ⟨j + 1, by omega, by go_num, (by first | exact below_drewN hbi _ | exact below_drewN (Below.step hb2 hbi) _), H3.out⟩
                case measure => simp [intOf]; omega
          · have hkj : j = k := by omega
            rw [hkj, List.drop_eq_nil_of_le (by rw [List.length_take]; omega), hasR] at HQ
            have H2 : Hid (oversGo (xs.take (k + 1)) (xs.drop (k + 1)) = oversGo [] xs) := by
              have := HR.out
              rw [← HQ, if_neg (by simp)] at this
              exact this
            clear HQ hkj
            go_wp2
            go_roundw
            case rel => exact ⟨k + 1, by omega, by go_num, Below.step hb2 hbi, H2.out⟩
            case measure => simp [intOf]; omega
      · rw [if_neg hok] at HR
        have H2 : Hid (okOvers xs = false) := by unfold Hid; rw [okOvers, ← HR, Bool.false_and]
        replace hok : ovOk x y z = false := by simpa using hok
        clear HR hx
        go_wp2_with fail
        refine (l12One_any _ _ _ x y z (by omega) (by omega) (by omega) c0 c1 c2).mono ?_
        rintro e w1 ⟨rfl, hb1⟩
        go_wp2
        go_ret
        exact ⟨ret_bool H2.out.symm, Below.step hb hb1⟩
    · rw [h.end_ hlt, oversGo] at HR
      have H2 : Hid (okOvers xs = decide ((n : Int) ≤ 20)) := by
        unfold Hid
        rw [okOvers, ← HR, h.len, Bool.true_and]
        rw [Bool.eq_iff_iff]; simp; omega
      clear HR
      go_wp2
      go_ret
      exact ⟨ret_bool H2.out.symm, hb⟩

set_option maxHeartbeats 1000000 in
theorem ValidOvers_any (w : World) (A : Option Addr) (n c : Nat) (xs : List Rule) (h : Sl3 Value.string w A n xs) (hcap : n ≤ c) (hu : OvB xs) :
    Calls Try.prog 34 #[.slice A n c] w fun e w' => e = .returned (.bool (okOvers xs)) ∧ Below w.heap.size w w' := by
  have hn := h.max
  have HU := hide hu
  clear hu
  by_cases hl20 : n ≤ 20
  · have HL : Hid (okOvers xs = oversGo [] xs) := by unfold Hid; rw [okOvers, h.len]; simp [hl20]
    go_enter Try.func34, Try.ntmps34
    go_wp2
    go_loopw [12] (fun i wr => ∃ k : Nat, k ≤ n ∧ i = .int .i64 k ∧ Below w.heap.size w wr ∧ oversGo (xs.take k) (xs.drop k) = oversGo [] xs) (fun i _ => n - (intOf i).toNat)
    case atStart => exact ⟨0, Nat.zero_le _, rfl, Below.refl _ _, by simp⟩
    case round =>
      obtain ⟨k, hk, rfl, hb, HR⟩ := hrel
      obtain ⟨wo, rfl⟩ : ∃ wo : World, wo = wr := ⟨_, rfl⟩
      by_cases hlt : k < n
      · obtain ⟨b, o, x, y, z, rfl, hbl, hx, c0, c1, c2⟩ := h.at_ hb hlt
        obtain ⟨m1, m2, m3⟩ := HU.out _ (List.mem_of_getElem? hx)
        simp only at m1 m2 m3
        rw [drop_get hx, oversGo] at HR
        simp only at HR
        by_cases hok : ovOk x y z = true
        · rw [if_pos hok] at HR
          rw [← take_next hx] at HR
          replace HR := hide HR
          replace hx := hide hx
          go_wp2_with fail
          refine (validOver_any _ x y z (by omega) (by omega) (by omega)).mono ?_
          rintro e w1 ⟨rfl, hb1⟩
          have hz1 : wo.heap.size < w1.heap.size := by have := hb1.size; simp at this; omega
          have p0 : w1.cell? ⟨wo.heap.size, 0, none⟩ = some (.string x) := (hb1.cell (p := ⟨wo.heap.size, 0, none⟩) (by simp)).trans (by go_simp)
          have p1 : w1.cell? ⟨wo.heap.size, 1, none⟩ = some (.string y) := (hb1.cell (p := ⟨wo.heap.size, 1, none⟩) (by simp)).trans (by go_simp)
          have hb2 : Below w.heap.size w w1 := Below.step (hb.alloc hb.size _) hb1
          clear c0 c1 c2 hb1
          go_wp2
          go_loopw [24] (fun i wi => ∃ j : Nat, j ≤ k ∧ i = .int .i64 j ∧ Below w1.heap.size w1 wi ∧ hasR (x, y, z) ((xs.take k).drop j) = hasR (x, y, z) (xs.take k)) (fun i _ => k - (intOf i).toNat)
          case atStart => exact ⟨0, Nat.zero_le _, rfl, Below.refl _ _, by simp⟩
          case round =>
            obtain ⟨j, hj, rfl, hbi, HQ⟩ := hrel
            have f0 := (hbi.cell (p := ⟨wo.heap.size, 0, none⟩) hz1).trans p0
            have f1 := (hbi.cell (p := ⟨wo.heap.size, 1, none⟩) hz1).trans p1
            have hz2 : wo.heap.size < wr.heap.size := Nat.lt_of_lt_of_le hz1 hbi.size
            by_cases hlt2 : j < k
            · have hjl : j < xs.length := by have := h.len; omega
              obtain ⟨⟨u, v, t⟩, hy⟩ : ∃ q, xs[j]? = some q := ⟨_, List.getElem?_eq_getElem hjl⟩
              obtain ⟨e0, e1, e2⟩ := h.cells (Below.step hb2 hbi) hy
              rw [take_drop_next hy hlt2, hasR] at HQ
              clear p0 p1
              by_cases hs : sameR (u, v, t) (x, y, z) = true
              · rw [if_pos hs] at HQ
                have H3 : Hid (okOvers xs = false) := by unfold Hid; rw [okOvers, ← HR.out, ← HQ, if_pos rfl, Bool.false_and]
                have hs' : sameT u x = true ∧ sameT v y = true := by simpa [sameR] using hs
                unfold sameT at hs'
                obtain ⟨q1, q2⟩ := hs'
                rw [beq_comm_l] at q1 q2
                clear hs HQ hy
                go_wp2
                go_ret
                exact ⟨ret_bool H3.out.symm, (by first | exact hbi.alloc hbi.size _ | exact (Below.step hb2 hbi).alloc (Below.step hb2 hbi).size _)⟩
              · rw [if_neg hs] at HQ
                have H3 := hide HQ
                have hs' : (u.toList == x.toList) = false ∨ ((u.toList == x.toList) = true ∧ (v.toList == y.toList) = false) := by
                  by_cases h1 : (u.toList == x.toList) = true
                  · right
                    refine ⟨h1, ?_⟩
                    simp [sameR, sameT] at hs ⊢
                    exact hs (by simpa using h1)
                  · left; simpa using h1
                clear hs HQ hy
                rcases hs' with q1 | ⟨q1, q2⟩
                · rw [beq_comm_l] at q1
                  go_wp2
                  go_roundw
                  case rel => exact ⟨j + 1, by omega, by go_num, (by first | exact hbi.alloc hbi.size _ | exact (Below.step hb2 hbi).alloc (Below.step hb2 hbi).size _), H3.out⟩
                  case measure => simp [intOf]; omega
                · rw [beq_comm_l] at q1 q2
                  go_wp2
                  go_roundw
                  case rel => exact ⟨j + 1, by omega, by go_num, (by first | exact hbi.alloc hbi.size _ | exact (Below.step hb2 hbi).alloc (Below.step hb2 hbi).size _), H3.out⟩
                  case measure => simp [intOf]; omega
            · have hkj : j = k := by omega
              rw [hkj, List.drop_eq_nil_of_le (by rw [List.length_take]; omega), hasR] at HQ
              have H2 : Hid (oversGo (xs.take (k + 1)) (xs.drop (k + 1)) = oversGo [] xs) := by
                have := HR.out
                rw [← HQ, if_neg (by simp)] at this
                exact this
              clear HQ hkj
              go_wp2
              go_roundw
              case rel => exact ⟨k + 1, by omega, by go_num, Below.step hb2 hbi, H2.out⟩
              case measure => simp [intOf]; omega
        · rw [if_neg hok] at HR
          have H2 : Hid (okOvers xs = false) := by unfold Hid; rw [HL.out, ← HR]
          replace hok : ovOk x y z = false := by simpa using hok
          clear HR hx
          go_wp2_with fail
          refine (validOver_any _ x y z (by omega) (by omega) (by omega)).mono ?_
          rintro e w1 ⟨rfl, hb1⟩
          go_wp2
          go_ret
          exact ⟨ret_bool H2.out.symm, Below.step (hb.alloc hb.size _) hb1⟩
      · rw [h.end_ hlt, oversGo] at HR
        have H2 : Hid (okOvers xs = true) := by
          unfold Hid
          rw [HL.out, ← HR]
        clear HR
        go_wp2
        go_ret
        exact ⟨ret_bool H2.out.symm, hb⟩
  · have H2 : Hid (okOvers xs = false) := by unfold Hid; rw [okOvers, h.len]; simp; omega
    go_enter Try.func34, Try.ntmps34
    go_wp2
    go_ret
    exact ⟨ret_bool H2.out.symm, Below.refl _ _⟩

theorem l12OkV (w : World) (A : Option Addr) (n c : Nat) (xs : List Rule) (h : Sl3 Value.string w A n xs) (hu : OvB xs) :
    Calls Try.prog 32 #[.slice A n c] w fun e w' => e = .returned (.bool (okOvers xs)) ∧ Below w.heap.size w w' := by
  replace hu := hide hu
  go_enter Try.func32, Try.ntmps32
  go_wp2_with (go_at_call 68; refine (l12Ok_any _ _ _ _ xs h hu.out).mono ?_; rintro e w1 ⟨rfl, hb⟩; have hsz := hb.size; obtain ⟨hcw, hfw⟩ := bcell hb)
  go_ret
  exact ⟨rfl, by (repeat first | exact Below.refl _ _ | (refine Below.alloc ?_ (by go_size) _) | (refine Below.step ?_ (by assumption)))⟩
end Go.Proofs.Ytokdbkkjneadgaa
