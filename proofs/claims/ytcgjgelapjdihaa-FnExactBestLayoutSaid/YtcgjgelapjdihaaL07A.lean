/-
  Boards: the helpers of the laws over places.
-/
import Derived.Test.YtcgjgelapjdihaaTriples
import Derived.Deep.RegionWith
namespace Go.Proofs.Ytcgjgelapjdihaa
set_option maxRecDepth 100000
open Go.RowKit

abbrev Pl := Int × Int × Int
theorem own_below_n {w w' : World} {base e s n : Nat} {v : Value} {xs : List Value} (h : w.ownsRow base e s v n xs) (hb : Below w.heap.size w w') : w'.ownsRow base e s v n xs :=
  h.kept (row := none) ⟨hb.os, hb.tape, hb.output, hb.size, fun k hk _ => hb.block k hk⟩ (by cases v.ownBlock <;> simp)
structure Got3 {α : Type} (f : α → Value) (W w : World) (A : Option Addr) (n c : Nat) (xs : List (α × α × α)) : Prop where
  cap : n ≤ c
  below : Below W.heap.size W w
  sl : Sl3 f w A n xs
theorem place_info : (Try.prog.info? 35).map (fun i => (i.zero, i.size, i.bytes)) = some (some (.agg #[.int .i64 0, .int .i64 0, .int .i64 0]), 3, 24) := by kernel_rfl

def szPlaceS (left : Int) (xs : List Pl) : Int := if left - (xs.length : Int) < 0 then -1 else left - (xs.length : Int)
theorem szPlaceS_le {left : Int} {xs : List Pl} (h : 0 ≤ szPlaceS left xs) : (xs.length : Int) ≤ left ∧ True := by
  unfold szPlaceS at h
  split at h
  · omega
  · exact ⟨by omega, trivial⟩
theorem szPlaceS_any (w : World) (A : Option Addr) (n c : Nat) (xs : List Pl) (left : Int) (h : Sl3 (Value.int .i64) w A n xs) (h0 : 0 ≤ left) (h1 : left ≤ 1048576) :
    Calls Try.prog 4 #[.slice A n c, .int .i64 left] w fun e w' => e = .returned (.int .i64 (szPlaceS left xs)) ∧ w = w' := by
  have hn := h.max
  have HL := hide h.len
  by_cases hl : left - (n : Int) < 0
  · have HR : Hid (szPlaceS left xs = -1) := by unfold Hid szPlaceS; rw [HL.out, if_pos hl]
    go_enter Try.func4, Try.ntmps4
    go_wp2
    go_ret
    exact ⟨ret_int HR.out.symm, rfl⟩
  · have HR : Hid (szPlaceS left xs = left - (n : Int)) := by unfold Hid szPlaceS; rw [HL.out, if_neg hl]
    go_enter Try.func4, Try.ntmps4
    go_wp2
    go_ret
    exact ⟨ret_int HR.out.symm, rfl⟩
set_option maxHeartbeats 400000 in
theorem toPlace_any (x y z : Int) (w : World) :
    Calls Try.prog 11 #[.agg #[.int .i64 x, .int .i64 y, .int .i64 z]] w fun e w' => e = .returned (.agg #[.int .i64 x, .int .i64 y, .int .i64 z]) ∧ Below w.heap.size w w' := by
  go_enter Try.func11, Try.ntmps11
  go_wp2
  go_returns
  exact ⟨rfl, by (repeat first | exact Below.refl _ _ | (refine Below.alloc ?_ (by go_size) _) | (refine Below.step ?_ (by assumption)))⟩
theorem eqPlace_same (x y z : Int) (w : World) :
    Calls Try.prog 18 #[.agg #[.int .i64 x, .int .i64 y, .int .i64 z], .agg #[.int .i64 x, .int .i64 y, .int .i64 z]] w fun e w' => e = .returned (.bool true) ∧ Below w.heap.size w w' := by
  go_enter Try.func18, Try.ntmps18
  go_wp2
  go_ret
  exact ⟨rfl, by (repeat first | exact Below.refl _ _ | (refine Below.alloc ?_ (by go_size) _) | (refine Below.step ?_ (by assumption)))⟩
set_option maxHeartbeats 400000 in
theorem eqPlaceS_same (w : World) (A A' : Option Addr) (n c c' : Nat) (xs : List Pl) (h1 : Sl3 (Value.int .i64) w A n xs) (h2 : Sl3 (Value.int .i64) w A' n xs) :
    Calls Try.prog 8 #[.slice A n c, .slice A' n c'] w fun e w' => e = .returned (.bool true) ∧ Below w.heap.size w w' := by
  have hn := h1.max
  go_enter Try.func8, Try.ntmps8
  go_wp2
  go_loopw [5] (fun i wr => ∃ k : Nat, k ≤ n ∧ i = .int .i64 k ∧ Below w.heap.size w wr) (fun i _ => n - (intOf i).toNat)
  case atStart => exact ⟨0, Nat.zero_le _, rfl, Below.refl _ _⟩
  case round =>
    obtain ⟨k, hk, rfl, hb⟩ := hrel
    by_cases hlt : k < n
    · obtain ⟨b, o, x, y, z, rfl, hbl, hx, c0, c1, c2⟩ := h1.at_ hb hlt
      obtain ⟨b', o', x', y', z', rfl, hbl', hx', c0', c1', c2'⟩ := h2.at_ hb hlt
      obtain ⟨rfl, rfl, rfl⟩ : x = x' ∧ y = y' ∧ z = z' := by rw [hx] at hx'; simpa using hx'
      clear hx hx'
      go_wp2
      go_region_with (go_at_call 18; refine (eqPlace_same _ _ _ _).mono ?_; rintro e w1 ⟨rfl, hb1⟩)
      all_goals
        go_wp2
        go_roundw
        case rel => exact ⟨k + 1, by omega, by go_num, Below.step hb.drew (by assumption)⟩
        case measure => simp [intOf]; omega
    · go_wp2
      go_ret
      exact ⟨rfl, hb⟩
set_option maxHeartbeats 400000 in
theorem toPlaceS_any (w : World) (A : Option Addr) (n c : Nat) (xs : List Pl) (h : Sl3 (Value.int .i64) w A n xs) (hn : (n : Int) ≤ 1048576) (_hu : True) :
    Calls Try.prog 6 #[.slice A n c] w fun e w' => ∃ A1 c1, e = .returned (.slice A1 n c1) ∧ Got3 (Value.int .i64) w w' A1 n c1 xs := by
  obtain ⟨i0, hi, hz0, hz1, hz2⟩ := info_parts place_info
  go_enter Try.func6, Try.ntmps6
  go_wp2_with (at_make; refine wpList_make_full _ rfl _ _ 26 rfl w.heap.size 35 i0 (.agg #[.int .i64 0, .int .i64 0, .int .i64 0]) 3 Try.underlying26 hi hz0 hz1 .i64 .i64 _ _ n rfl rfl rfl rfl (by rw [hz2]; omega) (by simp only [maxLen]; omega) (Nat.le_refl _) ?_; intro w1 hown1 hg1)
  have hb1 : Below w.heap.size w w1 := (Below.refl _ _).grown hg1 (Nat.le_refl _) (by simp)
  obtain ⟨cs0, hown0⟩ : ∃ cs0, w1.ownsRow w.heap.size 35 3 (.slice (some ⟨w.heap.size, 0, none⟩) n n) n cs0 := ⟨_, hown1⟩
  clear hown1
  go_loopw [4] (fun i wr => ∃ (k : Nat) (cs : List Value), k ≤ n ∧ i = .int .i64 k ∧ wr.ownsRow w.heap.size 35 3 (.slice (some ⟨w.heap.size, 0, none⟩) n n) n cs ∧ In3 (Value.int .i64) cs (xs.take k) ∧ Below w.heap.size w wr) (fun i _ => n - (intOf i).toNat)
  case atStart => exact ⟨0, cs0, Nat.zero_le _, rfl, hown0, fun j x hx => by simp at hx, hb1⟩
  case round =>
    clear hown0 hg1 hb1
    obtain ⟨k, cs, hk, rfl, hown, hin, hb⟩ := hrel
    by_cases hlt : k < n
    · obtain ⟨b, o, x, y, z, rfl, hbl, hx, c0, c1, c2⟩ := h.at_ hb hlt
      have hlen : cs.length = n * 3 := hown.1
      have hgl := (hown.lt w.heap.size rfl).2
      have hl3 : k * 3 + 2 < cs.length := by omega
      have hd0 := hown.cellAt (k * 3) (by omega)
      have hd1 := hown.cellAt (k * 3 + 1) (by omega)
      have hd2 := hown.cellAt (k * 3 + 2) (by omega)
      rw [List.getElem?_eq_getElem (by omega)] at hd0 hd1 hd2
      have hf0 := hown.frozenAt (k * 3)
      have hf1 := hown.frozenAt (k * 3 + 1)
      have hf2 := hown.frozenAt (k * 3 + 2)
      have HIN := hide (hin.step hx hl3)
      replace hlen := hide hlen
      clear hx hin
      go_wp2_with fail
      refine (toPlace_any _ _ _ _).mono ?_
      rintro e w1 ⟨rfl, hb1⟩
      have ho1 := own_below_n hown hb1
      have e0 := (hb1.cell (p := ⟨w.heap.size, k * 3, none⟩) hgl).trans hd0
      have e1 := (hb1.cell (p := ⟨w.heap.size, k * 3 + 1, none⟩) hgl).trans hd1
      have e2 := (hb1.cell (p := ⟨w.heap.size, k * 3 + 2, none⟩) hgl).trans hd2
      have g0 := (hb1.frozen (p := ⟨w.heap.size, k * 3, none⟩) hgl).trans hf0
      have g1 := (hb1.frozen (p := ⟨w.heap.size, k * 3 + 1, none⟩) hgl).trans hf1
      have g2 := (hb1.frozen (p := ⟨w.heap.size, k * 3 + 2, none⟩) hgl).trans hf2
      have s0 := ho1.stored (k * 3) (.int .i64 x)
      have s1 := s0.1.stored (k * 3 + 1) (.int .i64 y)
      have s2 := s1.1.stored (k * 3 + 2) (.int .i64 z)
      have HS := hide (And.intro s2.1 (grow_trans s0.2 (grow_trans s1.2 s2.2)))
      have HB := hide (Below.step hb hb1)
      clear hd0 hd1 hd2 hf0 hf1 hf2 s0 s1 s2 ho1 hown hb1 hb
      go_wp2
      go_roundw
      case rel => exact ⟨k + 1, _, by omega, by go_num, HS.out.1, HIN.out, HB.out.grown HS.out.2 HB.out.size (fun g hg => by cases hg; exact Nat.le_refl _)⟩
      case measure => simp [intOf]; omega
    · have hkn : k = n := by omega
      have HO : Hid (Got3 (Value.int .i64) w wr (some ⟨w.heap.size, 0, none⟩) n n xs) := by
        refine ⟨Nat.le_refl _, hb, Sl3.of_own hown h.len (by omega) ?_⟩
        rw [hkn, List.take_of_length_le (by rw [h.len]; exact Nat.le_refl _)] at hin
        exact hin
      clear hown hin hkn
      go_wp2
      go_ret
      exact ⟨_, _, rfl, HO.out⟩
end Go.Proofs.Ytcgjgelapjdihaa
