/-
  Tables of cells: are rows a table, and the widths of its columns; ColumnWidths.
-/
import Derived.Test.YtanpmjbephelaaaTab
import Derived.Test.YtanpmjbephelaaaIRow
import Derived.Test.YtanpmjbephelaaaTexts
import Derived.Test.YtanpmjbephelaaaRises
namespace Go.Proofs.Ytanpmjbephelaaa
set_option maxRecDepth 100000
open Go.RowKit

theorem between_any (n lo hi : Int) (w : World) :
    Calls Try.prog 77 #[.int .i64 n, .int .i64 lo, .int .i64 hi] w fun e w' => e = .returned (.bool (inB n lo hi)) ∧ w = w' := by
  go_enter Try.func77, Try.ntmps77
  go_wp2
  all_goals go_ret
  all_goals (refine ⟨?_, rfl⟩; simp [inB]; try omega)
theorem l00Max_any (a b : Int) (w : World) :
    Calls Try.prog 82 #[.int .i64 a, .int .i64 b] w fun e w' => e = .returned (.int .i64 (max a b)) ∧ w = w' := by
  go_enter Try.func82, Try.ntmps82
  go_wp2
  all_goals go_ret
  all_goals (refine ⟨?_, rfl⟩; simp; try omega)

def allC : List ByteArray → Bool
  | [] => true
  | s :: ss => if isTxt 32 30 s = true then allC ss else false
def okRow (m : Nat) (r : List ByteArray) : Bool := decide (r.length = m) && (inB (r.length : Int) 1 12 && allC r)
def okRowsGo (m : Nat) : List (List ByteArray) → Bool
  | [] => true
  | r :: rs => if okRow m r = true then okRowsGo m rs else false
def wid0 (rows : List (List ByteArray)) : Nat := (rows.headD []).length
def okTable (rows : List (List ByteArray)) : Bool := inB (rows.length : Int) 1 40 && okRowsGo (wid0 rows) rows
theorem wid0_get {rows : List (List ByteArray)} {l : List ByteArray} (h : rows[0]? = some l) : wid0 rows = l.length := by
  cases rows with
  | nil => cases h
  | cons a as' => simp at h; subst h; rfl
theorem allC_all {ss : List ByteArray} (h : allC ss = true) : ∀ s ∈ ss, s.size ≤ 30 := by
  induction ss with
  | nil => simp
  | cons y ys ih =>
    rw [allC] at h
    by_cases hy : isTxt 32 30 y = true
    · rw [if_pos hy] at h
      intro s hs
      rcases List.mem_cons.1 hs with rfl | hs
      · simp only [isTxt, Bool.and_eq_true, decide_eq_true_eq] at hy; omega
      · exact ih h s hs
    · rw [if_neg hy] at h; cases h
theorem okRows_all {m : Nat} {rs : List (List ByteArray)} (h : okRowsGo m rs = true) : ∀ r ∈ rs, r.length = m ∧ 1 ≤ m ∧ m ≤ 12 ∧ ∀ s ∈ r, s.size ≤ 30 := by
  induction rs with
  | nil => simp
  | cons r rs ih =>
    rw [okRowsGo] at h
    by_cases hr : okRow m r = true
    · rw [if_pos hr] at h
      intro r' hr'
      rcases List.mem_cons.1 hr' with rfl | hr'
      · simp only [okRow, Bool.and_eq_true, decide_eq_true_eq] at hr
        have := inB_iff.1 hr.2.1
        exact ⟨hr.1, by omega, by omega, allC_all hr.2.2⟩
      · exact ih h r' hr'
    · rw [if_neg hr] at h; cases h
theorem okTable_facts {rows : List (List ByteArray)} (h : okTable rows = true) : 1 ≤ rows.length ∧ rows.length ≤ 40 ∧ 1 ≤ wid0 rows ∧ wid0 rows ≤ 12 ∧ ∀ r ∈ rows, r.length = wid0 rows ∧ ∀ s ∈ r, s.size ≤ 30 := by
  simp only [okTable, Bool.and_eq_true] at h
  have h1 := inB_iff.1 h.1
  have h2 := okRows_all h.2
  have h0 : 0 < rows.length := by omega
  have h3 := h2 rows[0] (List.getElem_mem h0)
  exact ⟨by omega, by omega, h3.2.1, h3.2.2.1, fun r hr => ⟨(h2 r hr).1, (h2 r hr).2.2.2⟩⟩


set_option maxHeartbeats 1600000 in
theorem l08Rows_any (w : World) (A : Option Addr) (n c : Nat) (rows : List (List ByteArray)) (h : Tb w A n rows) (hu : ∀ r ∈ rows, ∀ s ∈ r, (s.size : Int) ≤ 1048576) :
    Calls Try.prog 85 #[.slice A n c] w fun e w' => e = .returned (.bool (okTable rows)) ∧ Below w.heap.size w w' := by
  have hn := h.max
  have HU := hide hu
  clear hu
  go_enter Try.func85, Try.ntmps85
  go_wp2
  go_loopw [3] (fun i wr => ∃ k : Nat, k ≤ n ∧ i = .int .i64 k ∧ Below w.heap.size w wr ∧ okRowsGo (wid0 rows) (rows.drop k) = okRowsGo (wid0 rows) rows) (fun i _ => n - (intOf i).toNat)
  case atStart => exact ⟨0, Nat.zero_le _, rfl, Below.refl _ _, by simp⟩
  case round =>
    obtain ⟨k, hk, rfl, hb, HR⟩ := hrel
    by_cases hlt : k < n
    · obtain ⟨b, o, l, Ak, ck, rfl, hbl, hx, hc0, hs0⟩ := h.at_ (Below.refl _ _) hlt
      obtain ⟨l0, hx0⟩ : ∃ l0, rows[0]? = some l0 := ⟨_, List.getElem?_eq_getElem (by rw [h.len]; omega)⟩
      obtain ⟨A0, c0, hcz, -⟩ := h.cell (Below.refl _ _) hx0
      rw [Nat.add_zero] at hcz
      have hw0 := wid0_get hx0
      have hl := hs0.max
      have hl0 : l0.length ≤ 9223372036854775807 := by
        obtain ⟨_, _, h9⟩ := h.cell (Below.refl _ _) hx0
        exact h9.2.max
      have hck := (hb.cell (p := ⟨b, o + k, none⟩) hbl).trans hc0
      have hcz2 := (hb.cell (p := ⟨b, o, none⟩) hbl).trans hcz
      have HSZ := hide (HU.out l (List.mem_of_getElem? hx))
      rw [hw0, drop_get hx, okRowsGo] at HR
      by_cases hlen : l.length = l0.length
      · have hnd : ((l.length : Int) != (l0.length : Int)) = false := by simp [hlen]
        by_cases hin : inB (l.length : Int) 1 12 = true
        · have hinb := inB_iff.1 hin
          by_cases hall : allC l = true
          · rw [if_pos (by unfold okRow; rw [hin, hall, decide_eq_true hlen]; rfl)] at HR
            have HR2 : Hid (okRowsGo (wid0 rows) (rows.drop (k + 1)) = okRowsGo (wid0 rows) rows) := by unfold Hid; rw [hw0]; exact HR
            have HX := hide hx
            replace hall := hide hall
            clear HR hx hx0 hw0 hlen
            go_wp2
            go_quiet ((go_at_call 70; exact Calls.quiet_of_same ((l00In_any _ _ _ _).mono fun _ _ ⟨he, hw⟩ => ⟨he, hw.symm⟩)))
            go_wp2
            clear hck hcz2 hcz hnd hin hinb
            go_loopw [4] (fun j w5 => ∃ q : Nat, q ≤ l.length ∧ j = .int .i64 q ∧ Below w.heap.size w w5 ∧ allC (l.drop q) = true) (fun j _ => l.length - (intOf j).toNat)
            case atStart => exact ⟨0, Nat.zero_le _, rfl, below_drewN hb _, by simpa using hall.out⟩
            case round =>
              clear hb
              obtain ⟨q, hq, rfl, hb, HQ⟩ := hrel
              have hck := (hb.cell (p := ⟨b, o + k, none⟩) hbl).trans hc0
              by_cases hlq : q < l.length
              · obtain ⟨b2, o2, p, rfl, hy, hcy⟩ := hs0.at_ hb hlq
                have hps := HSZ.out p (List.mem_of_getElem? hy)
                rw [drop_get hy, allC] at HQ
                have hp : isTxt 32 30 p = true := by
                  by_cases e : isTxt 32 30 p = true
                  · exact e
                  · rw [if_neg e] at HQ; cases HQ
                rw [if_pos hp] at HQ
                have HQ2 := hide HQ
                clear HQ hy
                go_wp2_with (go_at_call 61; refine (l00Text_any _ _ _ (by omega)).mono ?_; rintro e w1 ⟨rfl, rfl⟩)
                go_roundw
                case rel => exact ⟨q + 1, by omega, by go_num, hb, HQ2.out⟩
                case measure => simp [intOf]; omega
              · clear HQ
                go_wp2
                go_roundw
                case rel => exact ⟨k + 1, by omega, by go_num, hb, HR2.out⟩
                case measure => simp [intOf]; omega
          · rw [if_neg (by unfold okRow; simp [hall])] at HR
            have HF : Hid (okTable rows = false) := by unfold Hid okTable; rw [hw0, ← HR, Bool.and_false]
            replace hall : Hid (allC l = false) := by unfold Hid; simpa using hall
            clear HR hx hx0 hw0 hlen
            go_wp2
            go_quiet ((go_at_call 70; exact Calls.quiet_of_same ((l00In_any _ _ _ _).mono fun _ _ ⟨he, hw⟩ => ⟨he, hw.symm⟩)))
            go_wp2
            clear hck hcz2 hcz hnd hin hinb
            go_loopw [4] (fun j w5 => ∃ q : Nat, q ≤ l.length ∧ j = .int .i64 q ∧ Below w.heap.size w w5 ∧ allC (l.drop q) = false) (fun j _ => l.length - (intOf j).toNat)
            case atStart => exact ⟨0, Nat.zero_le _, rfl, below_drewN hb _, by simpa using hall.out⟩
            case round =>
              clear hb
              obtain ⟨q, hq, rfl, hb, HQ⟩ := hrel
              have hck := (hb.cell (p := ⟨b, o + k, none⟩) hbl).trans hc0
              by_cases hlq : q < l.length
              · obtain ⟨b2, o2, p, rfl, hy, hcy⟩ := hs0.at_ hb hlq
                have hps := HSZ.out p (List.mem_of_getElem? hy)
                rw [drop_get hy, allC] at HQ
                by_cases hp : isTxt 32 30 p = true
                · rw [if_pos hp] at HQ
                  have HQ2 := hide HQ
                  clear HQ hy
                  go_wp2_with (go_at_call 61; refine (l00Text_any _ _ _ (by omega)).mono ?_; rintro e w1 ⟨rfl, rfl⟩)
                  go_roundw
                  case rel => exact ⟨q + 1, by omega, by go_num, hb, HQ2.out⟩
                  case measure => simp [intOf]; omega
                · replace hp : isTxt 32 30 p = false := by simpa using hp
                  clear HQ hy
                  go_wp2_with (go_at_call 61; refine (l00Text_any _ _ _ (by omega)).mono ?_; rintro e w1 ⟨rfl, rfl⟩)
                  go_ret
                  exact ⟨ret_bool HF.out.symm, hb⟩
              · rw [List.drop_eq_nil_of_le (by omega), allC] at HQ
                cases HQ
        · rw [if_neg (by unfold okRow; simp [hin])] at HR
          have HF : Hid (okTable rows = false) := by unfold Hid okTable; rw [hw0, ← HR, Bool.and_false]
          replace hin : inB (l.length : Int) 1 12 = false := by simpa using hin
          clear HR hx hx0 hw0 hlen
          go_wp2
          go_quiet ((go_at_call 70; exact Calls.quiet_of_same ((l00In_any _ _ _ _).mono fun _ _ ⟨he, hw⟩ => ⟨he, hw.symm⟩)))
          go_wp2
          go_ret
          exact ⟨ret_bool HF.out.symm, below_drewN hb _⟩
      · have hnd : ((l.length : Int) != (l0.length : Int)) = true := by rw [bne_iff_ne]; omega
        rw [if_neg (by unfold okRow; rw [decide_eq_false hlen]; simp)] at HR
        have HF : Hid (okTable rows = false) := by unfold Hid okTable; rw [hw0, ← HR, Bool.and_false]
        clear HR hx hx0 hw0
        go_wp2
        go_quiet ((go_at_call 70; exact Calls.quiet_of_same ((l00In_any _ _ _ _).mono fun _ _ ⟨he, hw⟩ => ⟨he, hw.symm⟩)))
        go_wp2
        go_ret
        exact ⟨ret_bool HF.out.symm, below_drewN hb _⟩
    · rw [h.end_ hlt, okRowsGo] at HR
      have HF : Hid (okTable rows = inB (n : Int) 1 40) := by unfold Hid okTable; rw [← HR, h.len, Bool.and_true]
      clear HR
      go_wp2_with (go_at_call 70; refine (l00In_any _ _ _ _).mono ?_; rintro e w1 ⟨rfl, rfl⟩)
      go_ret
      exact ⟨ret_bool HF.out.symm, hb⟩
end Go.Proofs.Ytanpmjbephelaaa
