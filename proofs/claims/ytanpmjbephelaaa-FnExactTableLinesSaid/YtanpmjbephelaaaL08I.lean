/-
  Tables of cells: what the program asks of rows.
-/
import Derived.Test.YtanpmjbephelaaaL08H
namespace Go.Proofs.Ytanpmjbephelaaa
set_option maxRecDepth 100000
open Go.RowKit

set_option maxHeartbeats 1600000 in
theorem isTable_any (w : World) (A : Option Addr) (n c : Nat) (rows : List (List ByteArray)) (h : Tb w A n rows) (hu : ∀ r ∈ rows, ∀ s ∈ r, (s.size : Int) ≤ 1048576) :
    Calls Try.prog 87 #[.slice A n c] w fun e w' => e = .returned (.bool (okTable rows)) ∧ Below w.heap.size w w' := by
  have hn := h.max
  have HU := hide hu
  clear hu
  by_cases hin0 : inB (n : Int) 1 40 = true
  · have HT : Hid (okTable rows = okRowsGo (wid0 rows) rows) := by unfold Hid okTable; rw [h.len, hin0, Bool.true_and]
    have hin0b := inB_iff.1 hin0
    go_enter Try.func87, Try.ntmps87
    go_wp2_with (go_at_call 77; refine (between_any _ _ _ _).mono ?_; rintro e w1 ⟨rfl, rfl⟩)
    clear hin0
    go_loopw [13] (fun i wr => ∃ k : Nat, k ≤ n ∧ i = .int .i64 k ∧ Below w.heap.size w wr ∧ okRowsGo (wid0 rows) (rows.drop k) = okRowsGo (wid0 rows) rows) (fun i _ => n - (intOf i).toNat)
    case atStart => exact ⟨0, Nat.zero_le _, rfl, Below.refl _ _, by simp⟩
    case round =>
      obtain ⟨k, hk, rfl, hb, HR⟩ := hrel
      by_cases hlt : k < n
      · obtain ⟨b, o, l, Ak, ck, rfl, hbl, hx, hc0, hs0⟩ := h.at_ (Below.refl _ _) hlt
        obtain ⟨l0, hx0⟩ : ∃ l0, rows[0]? = some l0 := ⟨_, List.getElem?_eq_getElem (by rw [h.len]; omega)⟩
        obtain ⟨A0, c0, hcz, -⟩ := h.cell (Below.refl _ _) hx0
        rw [Nat.add_zero] at hcz
        have hw0 := wid0_get hx0
        have hl := hs0.max
        have hl0 : l0.length ≤ 9223372036854775807 := by
          obtain ⟨_, _, h9⟩ := h.cell (Below.refl _ _) hx0
          exact h9.2.max
        have hck := (hb.cell (p := ⟨b, o + k, none⟩) hbl).trans hc0
        have hcz2 := (hb.cell (p := ⟨b, o, none⟩) hbl).trans hcz
        have HSZ := hide (HU.out l (List.mem_of_getElem? hx))
        rw [hw0, drop_get hx, okRowsGo] at HR
        by_cases hlen : l.length = l0.length
        · have hnd : ((l.length : Int) != (l0.length : Int)) = false := by simp [hlen]
          by_cases hin : inB (l.length : Int) 1 12 = true
          · have hinb := inB_iff.1 hin
            by_cases hall : allC l = true
            · rw [if_pos (by unfold okRow; rw [hin, hall, decide_eq_true hlen]; rfl)] at HR
              have HR2 : Hid (okRowsGo (wid0 rows) (rows.drop (k + 1)) = okRowsGo (wid0 rows) rows) := by unfold Hid; rw [hw0]; exact HR
              replace hall := hide hall
              clear HR hx hx0 hw0 hlen
              go_wp2_with (go_at_call 77; refine (between_any _ _ _ _).mono ?_; rintro e w1 ⟨rfl, rfl⟩)
              clear hck hcz2 hcz hnd hin hinb
              go_loopw [32] (fun j w5 => ∃ q : Nat, q ≤ l.length ∧ j = .int .i64 q ∧ Below w.heap.size w w5 ∧ allC (l.drop q) = true) (fun j _ => l.length - (intOf j).toNat)
              case atStart => exact ⟨0, Nat.zero_le _, rfl, hb, by simpa using hall.out⟩
              case round =>
                clear hb
                obtain ⟨q, hq, rfl, hb, HQ⟩ := hrel
                by_cases hlq : q < l.length
                · obtain ⟨b2, o2, p, rfl, hy, hcy⟩ := hs0.at_ hb hlq
                  have hps := HSZ.out p (List.mem_of_getElem? hy)
                  rw [drop_get hy, allC] at HQ
                  have hp : isTxt 32 30 p = true := by
                    by_cases e : isTxt 32 30 p = true
                    · exact e
                    · rw [if_neg e] at HQ; cases HQ
                  rw [if_pos hp] at HQ
                  have HQ2 := hide HQ
                  clear HQ hy
                  go_wp2_with (go_at_call 63; refine (isText_any _ _ _ _ (by omega)).mono ?_; rintro e w1 ⟨rfl, rfl⟩)
                  go_roundw
                  case rel => exact ⟨q + 1, by omega, by go_num, hb, HQ2.out⟩
                  case measure => simp [intOf]; omega
                · clear HQ
                  go_wp2
                  go_roundw
                  case rel => exact ⟨k + 1, by omega, by go_num, hb, HR2.out⟩
                  case measure => simp [intOf]; omega
            · rw [if_neg (by unfold okRow; simp [hall])] at HR
              have HF : Hid (okTable rows = false) := by unfold Hid; rw [HT.out, hw0, ← HR]
              replace hall : Hid (allC l = false) := by unfold Hid; simpa using hall
              clear HR hx hx0 hw0 hlen
              go_wp2_with (go_at_call 77; refine (between_any _ _ _ _).mono ?_; rintro e w1 ⟨rfl, rfl⟩)
              clear hck hcz2 hcz hnd hin hinb
              go_loopw [32] (fun j w5 => ∃ q : Nat, q ≤ l.length ∧ j = .int .i64 q ∧ Below w.heap.size w w5 ∧ allC (l.drop q) = false) (fun j _ => l.length - (intOf j).toNat)
              case atStart => exact ⟨0, Nat.zero_le _, rfl, hb, by simpa using hall.out⟩
              case round =>
                clear hb
                obtain ⟨q, hq, rfl, hb, HQ⟩ := hrel
                by_cases hlq : q < l.length
                · obtain ⟨b2, o2, p, rfl, hy, hcy⟩ := hs0.at_ hb hlq
                  have hps := HSZ.out p (List.mem_of_getElem? hy)
                  rw [drop_get hy, allC] at HQ
                  by_cases hp : isTxt 32 30 p = true
                  · rw [if_pos hp] at HQ
                    have HQ2 := hide HQ
                    clear HQ hy
                    go_wp2_with (go_at_call 63; refine (isText_any _ _ _ _ (by omega)).mono ?_; rintro e w1 ⟨rfl, rfl⟩)
                    go_roundw
                    case rel => exact ⟨q + 1, by omega, by go_num, hb, HQ2.out⟩
                    case measure => simp [intOf]; omega
                  · replace hp : isTxt 32 30 p = false := by simpa using hp
                    clear HQ hy
                    go_wp2_with (go_at_call 63; refine (isText_any _ _ _ _ (by omega)).mono ?_; rintro e w1 ⟨rfl, rfl⟩)
                    go_ret
                    exact ⟨ret_bool HF.out.symm, hb⟩
                · rw [List.drop_eq_nil_of_le (by omega), allC] at HQ
                  cases HQ
          · rw [if_neg (by unfold okRow; simp [hin])] at HR
            have HF : Hid (okTable rows = false) := by unfold Hid; rw [HT.out, hw0, ← HR]
            replace hin : inB (l.length : Int) 1 12 = false := by simpa using hin
            clear HR hx hx0 hw0 hlen
            go_wp2_with (go_at_call 77; refine (between_any _ _ _ _).mono ?_; rintro e w1 ⟨rfl, rfl⟩)
            go_ret
            exact ⟨ret_bool HF.out.symm, hb⟩
        · have hnd : ((l.length : Int) != (l0.length : Int)) = true := by rw [bne_iff_ne]; omega
          rw [if_neg (by unfold okRow; rw [decide_eq_false hlen]; simp)] at HR
          have HF : Hid (okTable rows = false) := by unfold Hid; rw [HT.out, hw0, ← HR]
          clear HR hx hx0 hw0
          go_wp2_with (go_at_call 77; refine (between_any _ _ _ _).mono ?_; rintro e w1 ⟨rfl, rfl⟩)
          go_ret
          exact ⟨ret_bool HF.out.symm, hb⟩
      · rw [h.end_ hlt, okRowsGo] at HR
        have HF : Hid (okTable rows = true) := by unfold Hid; rw [HT.out, ← HR]
        clear HR
        go_wp2
        go_ret
        exact ⟨ret_bool HF.out.symm, hb⟩
  · replace hin0 : inB (n : Int) 1 40 = false := by simpa using hin0
    have HF : Hid (okTable rows = false) := by unfold Hid okTable; rw [h.len, hin0, Bool.false_and]
    go_enter Try.func87, Try.ntmps87
    go_wp2_with (go_at_call 77; refine (between_any _ _ _ _).mono ?_; rintro e w1 ⟨rfl, rfl⟩)
    go_ret
    exact ⟨ret_bool HF.out.symm, Below.refl _ _⟩
end Go.Proofs.Ytanpmjbephelaaa
