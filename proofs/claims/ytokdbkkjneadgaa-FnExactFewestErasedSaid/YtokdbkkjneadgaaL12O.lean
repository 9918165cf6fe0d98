/-
  The plan of a correction by the program.
-/
import Derived.Test.YtokdbkkjneadgaaL12N
import Derived.Deep.RegionLaw
namespace Go.Proofs.Ytokdbkkjneadgaa
set_option maxRecDepth 100000
open Go.RowKit

theorem cell_old (W : World) (u : Value) (e : TypeId) (o : Obj) : ((W.alloc (.cells #[u] e)).alloc o).cell? ⟨W.heap.size, 0, none⟩ = some u := by
  rw [World.cell?_alloc_past _ _ _ (by simp)]
  exact cell_new W u e
theorem cell_at (W : World) (u : Value) (e : TypeId) (g : Nat) (hg : W.heap.size = g) : (W.alloc (.cells #[u] e)).cell? ⟨g, 0, none⟩ = some u := by subst hg; exact cell_new W u e
theorem cell_old_at (W : World) (u : Value) (e : TypeId) (o : Obj) (g : Nat) (hg : W.heap.size = g) : ((W.alloc (.cells #[u] e)).alloc o).cell? ⟨g, 0, none⟩ = some u := by subst hg; exact cell_old W u e o
theorem drew_size (W : World) : W.drew.heap.size = W.heap.size := rfl

theorem topB_blank {xs : List Rule} {b : UInt8} : topB xs 32 b = b := by unfold topB; rw [if_pos rfl]
theorem topB_other {xs : List Rule} {a b : UInt8} (h : ¬ a = 32) : topB xs a b = topGo a b 0 xs := by unfold topB; rw [if_neg h]
theorem txt_pos {lo m : Int} {s : ByteArray} (hl : 1 ≤ lo) (h : isTxt lo m s = true) {k : Nat} {b : UInt8} (hb : (by_ s)[k]? = some b) : b ≠ 0 := by
  rw [isTxt, Bool.and_eq_true] at h
  have h2 := h.2
  generalize by_ s = l at h2 hb
  induction l generalizing k with
  | nil => simp at hb
  | cons c cs ih =>
    rw [textGo] at h2
    split at h2
    · cases h2
    · rename_i hc
      cases k with
      | zero =>
        simp at hb
        subst hb
        rintro rfl
        exact hc (Or.inl (by simp; omega))
      | succ k => exact ih h2 (by simpa using hb)


set_option maxHeartbeats 2000000 in
theorem CorrectionPlan_loop (w : World) (A : Option Addr) (n c : Nat) (xs : List Rule) (s t : ByteArray) (h : Sl3 Value.string w A n xs) (hcap : n ≤ c) (hu : OvB xs) (hs : s.size ≤ 1048576) (ht : t.size ≤ 1048576) (hcode : overCode xs s t = 0) :
    Calls Try.prog 45 #[.slice A n c, .string s, .string t] w fun e w' => e = .returned (.tuple #[.string (mkB ((planOf xs s t).map (·.1))), .string (mkB ((planOf xs s t).map (·.2))), .int .i64 0]) ∧ Below w.heap.size w w' := by
  obtain ⟨k1, k2, k3, k4⟩ := overCode_ok hcode
  have HL := hide (okOvers_lets k1).1
  have hs60 := isTxt_size k2
  have ht1 : t.size ≤ s.size := by omega
  have ht2 : s.size ≤ t.size := by omega
  have HT := hide k3
  replace hu := hide hu
  clear k1 k2 k3 k4
  go_enter Try.func45, Try.ntmps45
  go_wp2_with (go_at_call 76; refine (correctCode_any _ _ _ _ xs s t h hcap hu.out hs ht).mono ?_; rintro e w1 ⟨rfl, hb1⟩; rw [hcode])
  have h0 := Two.empty hb1
  clear hcode
  go_loopw [10, 11, 25] (fun vA vB i wr => PlanW xs s t w vA vB i wr) (fun _ _ i _ => s.size - (intOf i).toNat)
  case atStart => exact ⟨0, [], Nat.zero_le _, rfl, by simpa [fsts, snds] using h0, Nat.le_refl _, rfl⟩
  case round =>
    clear h0 hb1
    obtain ⟨k, l, hk, rfl, hT, hP⟩ := hrel
    have hlk := hP.1
    have hP' := hide hP
    have la1 := fsts_len l
    have lb1 := snds_len l
    by_cases hlt' : k < s.size
    · have hlt : k < t.size := by omega
      have hxa := by_get hlt'
      have hxb := by_get hlt
      obtain ⟨a, hea⟩ : ∃ b, s[k] = b := ⟨_, rfl⟩
      obtain ⟨b, heb⟩ : ∃ b, t[k] = b := ⟨_, rfl⟩
      rw [hea] at hxa
      rw [heb] at hxb
      have r1 := run_byte hxa
      have r2 := run_byte hxb
      have i1 : (0 : Int) ≤ (k : Int) := by omega
      have i2 : (k : Int) < (s.size : Int) := by omega
      have i3 : (k : Int) < (t.size : Int) := by omega
      have hb0 := txt_pos (by decide) HT.out hxb
      have HXA := hide hxa
      have HXB := hide hxb
      have nA : (fsts l).length ≤ 1099511627776 := by omega
      have nB : (snds l).length ≤ 1099511627776 := by omega
      clear hxa hxb hea heb la1 lb1 hP
      go_wp2
      go_region_with (go_at_call 77; refine (topFor_any _ _ _ _ xs a b ((h.on hT.a.below).draw1) HL.out).mono ?_; rintro e w3 ⟨rfl, hb3⟩)
      all_goals
        have hT3 := hT.drew.on hb3
        by_cases hab : a = b
        · have c1 : ((a.toNat : Int) == (b.toNat : Int)) = true := b_eq hab
          have HE : Hid (stepP xs a b = (46, 32)) := by unfold Hid stepP; rw [if_pos hab]
          clear hab hb0
          go_wp2
          go_quiet (fail)
          go_wp2_with (first
            | (at_builtin; refine Two.pushA ((hT3.draw _).lay _) (g := w3.heap.size) (k := 0) (u := .int .u8 46) (cell_new _ _ _) rfl nA rfl _ _ rfl rfl rfl ?_; intro v1 w1 hT1 hz1 hc1)
            | (at_builtin; refine Two.pushA (hT1.swap.lay _) (g := w1.heap.size) (k := 0) (u := .int .u8 32) (cell_new _ _ _) rfl nB rfl _ _ rfl rfl rfl ?_; intro v2 w2 hT2 hz2 hc2))
          go_roundw
          case rel => exact PlanW.mk hlt' hP'.out HXA.out HXB.out HE.out hT2.swap
          case measure => simp [intOf]; omega
        · have c1 : ((a.toNat : Int) == (b.toNat : Int)) = false := b_ne hab
          by_cases ha32 : a = 32
          · have c2 : ((a.toNat : Int) == 32) = true := b_eq (c := 32) ha32
            have HE : Hid (stepP xs a b = (43, b)) := by unfold Hid stepP; rw [if_neg hab, ha32, topB_blank, if_neg hb0]
            clear hab hb0 ha32
            go_wp2
            go_quiet (fail)
            go_wp2
            have hT0 := hT3.draw nq
            go_region_law (first
              | (refine Two.stepA (o := ⟨some 66, _, _, _, _, _⟩) hTB (u := .int .u8 43) rfl nA rfl _ _ rfl rfl rfl ((hcB _ _ (by simp <;> omega) (fun e => by have := hT0.lt.2 _ e; have hh : (w3.drewN nq).heap.size = w3.heap.size := rfl; omega)).trans (by first | exact cell_at _ _ _ _ (by simp) | exact cell_old_at _ _ _ _ _ (by simp))) ?_; intro v6 w6 hTT hz6 hc6)
              | (refine Two.stepA (o := ⟨some 66, _, _, _, _, _⟩) (hTB.lay _) (u := .int .u8 43) rfl nA rfl _ _ rfl rfl rfl (cell_at _ _ _ _ (by simp)) ?_; intro v6 w6 hTT hz6 hc6)
              | (refine Two.stepB (o := ⟨some 72, _, _, _, _, _⟩) hTA (u := .int .u8 b.toNat) rfl nB rfl _ _ rfl rfl rfl ((hcA _ _ (by simp <;> omega) (fun e => by have := hT0.lt.1 _ e; have hh : (w3.drewN nq).heap.size = w3.heap.size := rfl; omega)).trans (by first | exact cell_at _ _ _ _ (by simp) | exact cell_old_at _ _ _ _ _ (by simp))) ?_; intro v6 w6 hTT hz6 hc6)
              | (refine Two.stepB (o := ⟨some 72, _, _, _, _, _⟩) (hTA.lay _) (u := .int .u8 b.toNat) rfl nB rfl _ _ rfl rfl rfl (cell_at _ _ _ _ (by simp)) ?_; intro v6 w6 hTT hz6 hc6)
              | (refine Two.stepA (o := ⟨some 66, _, _, _, _, _⟩) (hT0.drew.lay _) (u := .int .u8 43) rfl nA rfl _ _ rfl rfl rfl (cell_at _ _ _ _ (by simp)) ?_; intro v5 w5 hTA hzA hcA)
              | (refine Two.stepB (o := ⟨some 72, _, _, _, _, _⟩) (hT0.drew.lay _) (u := .int .u8 b.toNat) rfl nB rfl _ _ rfl rfl rfl (cell_at _ _ _ _ (by simp)) ?_; intro v5 w5 hTB hzB hcB)
              | (refine Two.stepA (o := ⟨some 66, _, _, _, _, _⟩) ((hT0.drew.lay _).lay _) (u := .int .u8 43) rfl nA rfl _ _ rfl rfl rfl (by first | exact cell_at _ _ _ _ (by simp) | exact cell_old_at _ _ _ _ _ (by simp)) ?_; intro v5 w5 hTA hzA hcA)
              | (refine Two.stepB (o := ⟨some 72, _, _, _, _, _⟩) ((hT0.drew.lay _).lay _) (u := .int .u8 b.toNat) rfl nB rfl _ _ rfl rfl rfl (by first | exact cell_at _ _ _ _ (by simp) | exact cell_old_at _ _ _ _ _ (by simp)) ?_; intro v5 w5 hTB hzB hcB))
            all_goals
              go_wp2
              go_roundw
              case rel => exact PlanW.mk hlt' hP'.out HXA.out HXB.out HE.out hTT
              case measure => simp [intOf]; omega
          · have c2 : ((a.toNat : Int) == 32) = false := b_ne (c := 32) ha32
            have htp := topB_other (xs := xs) (b := b) ha32
            by_cases hz : topGo a b 0 xs = 0
            · have c3 : (((topGo a b 0 xs).toNat : Int) != 0) = false := bn_eq (c := 0) hz
              have HE : Hid (stepP xs a b = (35, b)) := by unfold Hid stepP; rw [if_neg hab, htp, if_pos hz]
              clear hab hb0 ha32 htp hz
              go_wp2
              go_quiet (fail)
              go_wp2
              have hT0 := hT3.draw nq
              go_region_law (first
                | (refine Two.stepA (o := ⟨some 38, _, _, _, _, _⟩) hTB (u := .int .u8 35) rfl nA rfl _ _ rfl rfl rfl ((hcB _ _ (by simp <;> omega) (fun e => by have := hT0.lt.2 _ e; have hh : (w3.drewN nq).heap.size = w3.heap.size := rfl; omega)).trans (by first | exact cell_at _ _ _ _ (by simp) | exact cell_old_at _ _ _ _ _ (by simp))) ?_; intro v6 w6 hTT hz6 hc6)
                | (refine Two.stepA (o := ⟨some 38, _, _, _, _, _⟩) (hTB.lay _) (u := .int .u8 35) rfl nA rfl _ _ rfl rfl rfl (cell_at _ _ _ _ (by simp)) ?_; intro v6 w6 hTT hz6 hc6)
                | (refine Two.stepB (o := ⟨some 44, _, _, _, _, _⟩) hTA (u := .int .u8 b.toNat) rfl nB rfl _ _ rfl rfl rfl ((hcA _ _ (by simp <;> omega) (fun e => by have := hT0.lt.1 _ e; have hh : (w3.drewN nq).heap.size = w3.heap.size := rfl; omega)).trans (by first | exact cell_at _ _ _ _ (by simp) | exact cell_old_at _ _ _ _ _ (by simp))) ?_; intro v6 w6 hTT hz6 hc6)
                | (refine Two.stepB (o := ⟨some 44, _, _, _, _, _⟩) (hTA.lay _) (u := .int .u8 b.toNat) rfl nB rfl _ _ rfl rfl rfl (cell_at _ _ _ _ (by simp)) ?_; intro v6 w6 hTT hz6 hc6)
                | (refine Two.stepA (o := ⟨some 38, _, _, _, _, _⟩) (hT0.drew.lay _) (u := .int .u8 35) rfl nA rfl _ _ rfl rfl rfl (cell_at _ _ _ _ (by simp)) ?_; intro v5 w5 hTA hzA hcA)
                | (refine Two.stepB (o := ⟨some 44, _, _, _, _, _⟩) (hT0.drew.lay _) (u := .int .u8 b.toNat) rfl nB rfl _ _ rfl rfl rfl (cell_at _ _ _ _ (by simp)) ?_; intro v5 w5 hTB hzB hcB)
                | (refine Two.stepA (o := ⟨some 38, _, _, _, _, _⟩) ((hT0.drew.lay _).lay _) (u := .int .u8 35) rfl nA rfl _ _ rfl rfl rfl (by first | exact cell_at _ _ _ _ (by simp) | exact cell_old_at _ _ _ _ _ (by simp)) ?_; intro v5 w5 hTA hzA hcA)
                | (refine Two.stepB (o := ⟨some 44, _, _, _, _, _⟩) ((hT0.drew.lay _).lay _) (u := .int .u8 b.toNat) rfl nB rfl _ _ rfl rfl rfl (by first | exact cell_at _ _ _ _ (by simp) | exact cell_old_at _ _ _ _ _ (by simp)) ?_; intro v5 w5 hTB hzB hcB))
              all_goals
                go_wp2
                go_roundw
                case rel => exact PlanW.mk hlt' hP'.out HXA.out HXB.out HE.out hTT
                case measure => simp [intOf]; omega
            · have c3 : (((topGo a b 0 xs).toNat : Int) != 0) = true := bn_ne (c := 0) hz
              have HE : Hid (stepP xs a b = (43, topGo a b 0 xs)) := by unfold Hid stepP; rw [if_neg hab, htp, if_neg hz]
              clear hab hb0 ha32 htp hz
              go_wp2
              go_quiet (fail)
              go_wp2_with (first
                | (at_builtin; refine Two.pushA ((hT3.draw _).lay _) (g := w3.heap.size) (k := 0) (u := .int .u8 43) (cell_new _ _ _) rfl nA rfl _ _ rfl rfl rfl ?_; intro v1 w1 hT1 hz1 hc1)
                | (at_builtin; refine Two.pushA (hT1.swap.lay _) (g := w1.heap.size) (k := 0) (u := .int .u8 (topGo a b 0 xs).toNat) (cell_new _ _ _) rfl nB rfl _ _ rfl rfl rfl ?_; intro v2 w2 hT2 hz2 hc2))
              go_roundw
              case rel => exact PlanW.mk hlt' hP'.out HXA.out HXB.out HE.out hT2.swap
              case measure => simp [intOf]; omega
    · have H2 : Hid (l = planOf xs s t) := hP.done hlt'
      have hsA := hT.strA
      have hsB := hT.strB
      have hbw := below_drewN hT.a.below
      clear hP la1 lb1 hlk
      go_wp2
      go_quiet (fail)
      go_wp2
      go_ret3
      exact ⟨by rw [← H2.out]; rfl, hbw _⟩

end Go.Proofs.Ytokdbkkjneadgaa
