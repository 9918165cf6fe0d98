/-
  BestBreaks of the reference: what it returns, for all arguments.
-/
import Derived.Test.YtanpmjbephelaaaL09M
import Derived.Test.YtanpmjbephelaaaIRow
namespace Go.Proofs.Ytanpmjbephelaaa
set_option maxRecDepth 100000
open Go.RowKit

structure DoneC (xs : List ByteArray) (m : Int) (i : Nat) (cl : List Int) : Prop where
  c : ∀ j, i ≤ j → j ≤ xs.length → cl[j]? = some (cst xs m j)
  len : cl.length = xs.length + 1
structure HalfC (xs : List ByteArray) (m : Int) (p : Nat) (b : Int) (cl : List Int) : Prop where
  c : ∀ j, p < j → j ≤ xs.length → cl[j]? = some (cst xs m j)
  bc : cl[p]? = some b
  len : cl.length = xs.length + 1
theorem DoneC.start (xs : List ByteArray) (m : Int) : DoneC xs m xs.length (List.replicate (xs.length + 1) 0) where
  c := fun j h1 h2 => by
    have : j = xs.length := by omega
    subst this
    rw [List.getElem?_replicate, if_pos (by omega)]
    unfold cst; rw [tab_end]
  len := by simp
theorem DoneC.half {xs : List ByteArray} {m : Int} {p : Nat} {cl : List Int} (h : DoneC xs m (p + 1) cl) (hp : p < xs.length) (b : Int) : HalfC xs m p b (cl.set p b) where
  c := fun j h1 h2 => by rw [List.getElem?_set_ne (by omega)]; exact h.c j (by omega) h2
  bc := List.getElem?_set_self (by rw [h.len]; omega)
  len := by rw [List.length_set]; exact h.len
theorem HalfC.put {xs : List ByteArray} {m : Int} {p : Nat} {b : Int} {cl : List Int} (h : HalfC xs m p b cl) (hp : p < xs.length) (x : Int) : HalfC xs m p x (cl.set p x) where
  c := fun j h1 h2 => by rw [List.getElem?_set_ne (by omega)]; exact h.c j h1 h2
  bc := List.getElem?_set_self (by rw [h.len]; omega)
  len := by rw [List.length_set]; exact h.len
theorem HalfC.done {xs : List ByteArray} {m : Int} {p : Nat} {b : Int} {cl : List Int} (h : HalfC xs m p b cl) (hb : b = cst xs m p) : DoneC xs m p cl where
  c := fun j h1 h2 => by
    by_cases e : j = p
    · subst e; rw [h.bc, hb]
    · exact h.c j (by omega) h2
  len := h.len

set_option maxHeartbeats 8000000 in
theorem l09Bad_any (w : World) (A : Option Addr) (n c : Nat) (xs : List ByteArray) (m : Int) (h : Sl Value.string w A n xs) (hcap : n ≤ c) (f2 : n ≤ 40) (f3 : 1 ≤ m) (f4 : m ≤ 80) (hm : ∀ s ∈ xs, (s.size : Int) ≤ m) :
    Calls Try.prog 68 #[.slice A n c, .int .i64 m] w fun e w' => ∃ v cl, e = .returned v ∧ Coll w w' 2 v (cl.map (Value.int .i64)) ∧ DoneC xs m 0 cl := by
  have hxl := hide h.len
  have HM := hide hm
  have HS := hide (fun s hs => by have := hm s hs; omega : ∀ s ∈ xs, s.size ≤ 80)
  obtain ⟨i1, hi1, hz01, hz11, hz21⟩ := info_parts int64_info
  clear hm
  go_enter Try.func68, Try.ntmps68
  go_wp2_with (at_make; refine wpList_make_full _ rfl _ _ 23 rfl w.heap.size 2 i1 (.int .i64 0) 1 Try.underlying23 hi1 hz01 hz11 .i64 .i64 _ _ (n + 1) rfl rfl rfl rfl (by rw [hz21]; omega) (by simp only [maxLen]; omega) (Nat.le_refl _) ?_; intro w2 hown2 hg2)
  have hb2 : Below w.heap.size w w2 := (Below.refl _ _).grown hg2 (Nat.le_refl _) (by simp)
  simp only [Value.cells, Nat.mul_one, toList_madeCells_one] at hown2
  have r1 := IRow.made hown2 hb2
  clear hown2 hg2 hb2
  go_loopw [7] (fun iv wr => ∃ (z : Int) (i : Nat) (cl : List Int), i ≤ n ∧ z = (i : Int) - 1 ∧ iv = .int .i64 z ∧ IRow w wr 2 w.heap.size (n + 1) cl ∧ DoneC xs m i cl) (fun iv _ => (intOf iv + 1).toNat)
  case atStart => exact ⟨_, n, _, Nat.le_refl _, rfl, rfl, r1, by have := DoneC.start xs m; rw [hxl.out] at this; exact this⟩
  case round =>
    clear r1
    obtain ⟨z, i, cl, hi, hz, rfl, r1, hD⟩ := hrel
    by_cases hp : 0 < i
    · obtain ⟨p, rfl⟩ : ∃ p, i = p + 1 := ⟨i - 1, by omega⟩
      obtain rfl : z = (p : Int) := by omega
      have hpn : p < n := by omega
      obtain ⟨b, o, x, rfl, hx, hc⟩ := h.at_ r1.below hpn
      clear hx hc
      obtain ⟨y2, hy2⟩ : ∃ y, cl[p]? = some y := ⟨_, List.getElem?_eq_getElem (by rw [hD.len, hxl.out]; omega)⟩
      have hcA := r1.cell hy2
      have hfA := r1.open_ p
      have r1a := r1.set p (-1)
      have hsub := (h.on r1a.below).from_some p
      have hpl := hide (fun s hs => HS.out s (List.mem_of_mem_drop hs) : ∀ s ∈ xs.drop p, s.size ≤ 80)
      have hcp : ¬ c = p := by omega
      obtain ⟨Lr, hLr⟩ : ∃ L, lineL (xs.drop p) = L := ⟨_, rfl⟩
      have HLr := hide hLr
      by_cases hfit : Lr ≤ m
      · have HH0 := hD.half (by rw [hxl.out]; exact hpn) (-1)
        have hcB := r1a.cell HH0.bc
        have hfB := r1a.open_ p
        have r1b := hide (r1a.set p 0)
        have HH := hide (HH0.put (by rw [hxl.out]; exact hpn) 0)
        have HT : Hid (cst xs m p = (scanF xs m (cst xs m) p (n - (p + 1)) (p + 1) (0, n)).1) := by
          unfold Hid
          rw [scan_zero (fun j hj => (cst_all HM.out f4 (xs.length - j) j (by omega)).1) _ _ _ (by rw [hxl.out]; omega)]
          unfold cst
          rw [tab_eq (by rw [hxl.out]; exact hpn), entry, if_pos (by rw [hLr]; exact hfit)]
        replace r1a := hide r1a
        clear hy2 hLr hD r1 hz HH0
        go_wp2_with (go_at_call 55; refine (l09Long_any _ _ _ _ _ hsub (by omega) hpl.out).mono ?_; rintro e w4 ⟨rfl, rfl⟩; rw [HLr.out])
        clear hcB hfB
        clear hcA hfA hsub
        go_loopw [8] (fun kv w5 => ∃ (k : Nat) (b1 : Int) (b2 : Nat) (cl : List Int), p + 1 ≤ k ∧ k ≤ n ∧ kv = .int .i64 k ∧ IRow w w5 2 w.heap.size (n + 1) cl ∧ HalfC xs m p b1 cl ∧ cst xs m p = (scanF xs m (cst xs m) p (n - k) k (b1, b2)).1) (fun kv _ => n - (intOf kv).toNat)
        case atStart => exact ⟨p + 1, 0, n, _, Nat.le_refl _, by omega, by go_num, r1b.out, HH.out, HT.out⟩
        case round =>
          clear r1a HH HT
          obtain ⟨k, b1, b2, cl2, hk1, hk2, rfl, r1, hH, hSC⟩ := hrel
          by_cases hlt : k < n
          · have hltd : decide ((k : Int) < (n : Int)) = true := by rw [decide_eq_true_eq]; omega
            obtain ⟨q, hq⟩ : ∃ q, seg xs p k = q := ⟨_, rfl⟩
            have hq0 : 0 ≤ q := by rw [← hq]; exact seg_nonneg _ _ _
            have HQ : Hid (lineL ((xs.take k).drop p) = q) := hq
            have hsubk := ((h.on r1.below).take (k := k) hk2).from_some p
            have hplk := hide (fun s hs => HS.out s (List.mem_of_mem_take (List.mem_of_mem_drop hs)) : ∀ s ∈ (xs.take k).drop p, s.size ≤ 80)
            rw [show n - k = (n - (k + 1)) + 1 from by omega, scanF, hq] at hSC
            by_cases hqm : q ≤ m
            · rw [if_pos hqm] at hSC
              have hckb := cst_all HM.out f4 (n - k) k (by rw [hxl.out]; omega)
              obtain ⟨hck0, hck1, -⟩ := hckb
              have hck2 := r1.cell (hH.c k (by omega) (by rw [hxl.out]; omega))
              obtain ⟨ck, hck⟩ : ∃ x, cst xs m k = x := ⟨_, rfl⟩
              have hvv : vv xs m (cst xs m) p k = (m - q) * (m - q) + ck := by unfold vv; rw [hq, hck]
              rw [hck] at hck0 hck1 hck2
              obtain ⟨y, hy⟩ : ∃ y, (m - q) * (m - q) = y := ⟨_, rfl⟩
              have hyb : 0 ≤ y ∧ y ≤ 6400 := by
                rw [← hy]
                refine ⟨sq_nonneg' _, ?_⟩
                have := Int.mul_le_mul (show m - q ≤ 80 by omega) (show m - q ≤ 80 by omega) (show 0 ≤ m - q by omega) (by decide : (0 : Int) ≤ 80)
                omega
              rw [hy] at hvv
              rw [hvv, Int.add_comm y ck] at hSC
              have hwy : IntKind.i64.wrap y = y := IntWalk.i64_in _ (by omega)
              have hws : IntKind.i64.wrap (ck + y) = ck + y := IntWalk.i64_in _ (by omega)
              have hcP := r1.cell hH.bc
              have hfP := r1.open_ p
              by_cases hup : b1 < 0 ∨ ck + y < b1
              · rw [if_pos hup] at hSC
                have HSC := hide hSC
                have HH2 := hide (hH.put (by rw [hxl.out]; exact hpn) (ck + y))
                have R1 := hide (r1.set p (ck + y))
                clear hq hck hvv hSC hH r1
                rcases hup with hup | hup
                · go_wp2_with (go_at_call 55; refine (l09Long_any _ _ _ _ _ hsubk (by omega) hplk.out).mono ?_; rintro e w4 ⟨rfl, rfl⟩; rw [HQ.out])
                  go_quiet (fail)
                  go_wp2
                  go_roundw
                  case rel => exact ⟨k + 1, _, _, _, by omega, by omega, by go_num, R1.out.draw _, HH2.out, HSC.out⟩
                  case measure => simp [intOf]; omega
                · have hneg : ¬ b1 < 0 := by omega
                  have hnegd : decide (b1 < 0) = false := decide_eq_false hneg
                  go_wp2_with (go_at_call 55; refine (l09Long_any _ _ _ _ _ hsubk (by omega) hplk.out).mono ?_; rintro e w4 ⟨rfl, rfl⟩; rw [HQ.out])
                  go_quiet (fail)
                  go_wp2
                  go_roundw
                  case rel => exact ⟨k + 1, _, _, _, by omega, by omega, by go_num, R1.out.draw _, HH2.out, HSC.out⟩
                  case measure => simp [intOf]; omega
              · rw [if_neg hup] at hSC
                have HSC := hide hSC
                have HH2 := hide hH
                have R1 := hide r1
                have hn1 : ¬ b1 < 0 := fun e => hup (.inl e)
                have hn1d : decide (b1 < 0) = false := decide_eq_false hn1
                have hn2 : ¬ ck + y < b1 := fun e => hup (.inr e)
                clear hq hck hvv hSC hH r1 hup
                go_wp2_with (go_at_call 55; refine (l09Long_any _ _ _ _ _ hsubk (by omega) hplk.out).mono ?_; rintro e w4 ⟨rfl, rfl⟩; rw [HQ.out])
                go_quiet (fail)
                go_wp2
                go_roundw
                case rel => exact ⟨k + 1, _, _, _, by omega, by omega, by go_num, R1.out.draw _, HH2.out, HSC.out⟩
                case measure => simp [intOf]; omega
            · rw [if_neg hqm] at hSC
              have HD := hide (hH.done hSC.symm)
              have R1 := hide r1
              clear hq hSC hH r1
              go_wp2_with (go_at_call 55; refine (l09Long_any _ _ _ _ _ hsubk (by omega) hplk.out).mono ?_; rintro e w4 ⟨rfl, rfl⟩; rw [HQ.out])
              go_roundw
              case rel => exact ⟨_, p, cl2, by omega, rfl, rfl, R1.out, HD.out⟩
              case measure => simp [intOf]
          · have hltd : decide ((k : Int) < (n : Int)) = false := by rw [decide_eq_false_iff_not]; omega
            rw [show n - k = 0 from by omega, scanF] at hSC
            have HD := hide (hH.done hSC.symm)
            have R1 := hide r1
            clear hSC hH r1
            go_wp2
            go_roundw
            case rel => exact ⟨_, p, cl2, by omega, rfl, rfl, R1.out, HD.out⟩
            case measure => simp [intOf]
      · have HH := hide (hD.half (by rw [hxl.out]; exact hpn) (-1))
        have HT : Hid (cst xs m p = (scanF xs m (cst xs m) p (n - (p + 1)) (p + 1) (-1, n)).1) := by
          unfold Hid
          conv => lhs; unfold cst
          rw [tab_eq (by rw [hxl.out]; exact hpn), entry, if_neg (by rw [hLr]; exact hfit), hxl.out]
        replace r1a := hide r1a
        clear hy2 hLr hD r1 hz
        go_wp2_with (go_at_call 55; refine (l09Long_any _ _ _ _ _ hsub (by omega) hpl.out).mono ?_; rintro e w4 ⟨rfl, rfl⟩; rw [HLr.out])
        clear hcA hfA hsub
        go_loopw [8] (fun kv w5 => ∃ (k : Nat) (b1 : Int) (b2 : Nat) (cl : List Int), p + 1 ≤ k ∧ k ≤ n ∧ kv = .int .i64 k ∧ IRow w w5 2 w.heap.size (n + 1) cl ∧ HalfC xs m p b1 cl ∧ cst xs m p = (scanF xs m (cst xs m) p (n - k) k (b1, b2)).1) (fun kv _ => n - (intOf kv).toNat)
        case atStart => exact ⟨p + 1, -1, n, _, Nat.le_refl _, by omega, by go_num, r1a.out, HH.out, HT.out⟩
        case round =>
          clear r1a HH HT
          obtain ⟨k, b1, b2, cl2, hk1, hk2, rfl, r1, hH, hSC⟩ := hrel
          by_cases hlt : k < n
          · have hltd : decide ((k : Int) < (n : Int)) = true := by rw [decide_eq_true_eq]; omega
            obtain ⟨q, hq⟩ : ∃ q, seg xs p k = q := ⟨_, rfl⟩
            have hq0 : 0 ≤ q := by rw [← hq]; exact seg_nonneg _ _ _
            have HQ : Hid (lineL ((xs.take k).drop p) = q) := hq
            have hsubk := ((h.on r1.below).take (k := k) hk2).from_some p
            have hplk := hide (fun s hs => HS.out s (List.mem_of_mem_take (List.mem_of_mem_drop hs)) : ∀ s ∈ (xs.take k).drop p, s.size ≤ 80)
            rw [show n - k = (n - (k + 1)) + 1 from by omega, scanF, hq] at hSC
            by_cases hqm : q ≤ m
            · rw [if_pos hqm] at hSC
              have hckb := cst_all HM.out f4 (n - k) k (by rw [hxl.out]; omega)
              obtain ⟨hck0, hck1, -⟩ := hckb
              have hck2 := r1.cell (hH.c k (by omega) (by rw [hxl.out]; omega))
              obtain ⟨ck, hck⟩ : ∃ x, cst xs m k = x := ⟨_, rfl⟩
              have hvv : vv xs m (cst xs m) p k = (m - q) * (m - q) + ck := by unfold vv; rw [hq, hck]
              rw [hck] at hck0 hck1 hck2
              obtain ⟨y, hy⟩ : ∃ y, (m - q) * (m - q) = y := ⟨_, rfl⟩
              have hyb : 0 ≤ y ∧ y ≤ 6400 := by
                rw [← hy]
                refine ⟨sq_nonneg' _, ?_⟩
                have := Int.mul_le_mul (show m - q ≤ 80 by omega) (show m - q ≤ 80 by omega) (show 0 ≤ m - q by omega) (by decide : (0 : Int) ≤ 80)
                omega
              rw [hy] at hvv
              rw [hvv, Int.add_comm y ck] at hSC
              have hwy : IntKind.i64.wrap y = y := IntWalk.i64_in _ (by omega)
              have hws : IntKind.i64.wrap (ck + y) = ck + y := IntWalk.i64_in _ (by omega)
              have hcP := r1.cell hH.bc
              have hfP := r1.open_ p
              by_cases hup : b1 < 0 ∨ ck + y < b1
              · rw [if_pos hup] at hSC
                have HSC := hide hSC
                have HH2 := hide (hH.put (by rw [hxl.out]; exact hpn) (ck + y))
                have R1 := hide (r1.set p (ck + y))
                clear hq hck hvv hSC hH r1
                rcases hup with hup | hup
                · go_wp2_with (go_at_call 55; refine (l09Long_any _ _ _ _ _ hsubk (by omega) hplk.out).mono ?_; rintro e w4 ⟨rfl, rfl⟩; rw [HQ.out])
                  go_quiet (fail)
                  go_wp2
                  go_roundw
                  case rel => exact ⟨k + 1, _, _, _, by omega, by omega, by go_num, R1.out.draw _, HH2.out, HSC.out⟩
                  case measure => simp [intOf]; omega
                · have hneg : ¬ b1 < 0 := by omega
                  have hnegd : decide (b1 < 0) = false := decide_eq_false hneg
                  go_wp2_with (go_at_call 55; refine (l09Long_any _ _ _ _ _ hsubk (by omega) hplk.out).mono ?_; rintro e w4 ⟨rfl, rfl⟩; rw [HQ.out])
                  go_quiet (fail)
                  go_wp2
                  go_roundw
                  case rel => exact ⟨k + 1, _, _, _, by omega, by omega, by go_num, R1.out.draw _, HH2.out, HSC.out⟩
                  case measure => simp [intOf]; omega
              · rw [if_neg hup] at hSC
                have HSC := hide hSC
                have HH2 := hide hH
                have R1 := hide r1
                have hn1 : ¬ b1 < 0 := fun e => hup (.inl e)
                have hn1d : decide (b1 < 0) = false := decide_eq_false hn1
                have hn2 : ¬ ck + y < b1 := fun e => hup (.inr e)
                clear hq hck hvv hSC hH r1 hup
                go_wp2_with (go_at_call 55; refine (l09Long_any _ _ _ _ _ hsubk (by omega) hplk.out).mono ?_; rintro e w4 ⟨rfl, rfl⟩; rw [HQ.out])
                go_quiet (fail)
                go_wp2
                go_roundw
                case rel => exact ⟨k + 1, _, _, _, by omega, by omega, by go_num, R1.out.draw _, HH2.out, HSC.out⟩
                case measure => simp [intOf]; omega
            · rw [if_neg hqm] at hSC
              have HD := hide (hH.done hSC.symm)
              have R1 := hide r1
              clear hq hSC hH r1
              go_wp2_with (go_at_call 55; refine (l09Long_any _ _ _ _ _ hsubk (by omega) hplk.out).mono ?_; rintro e w4 ⟨rfl, rfl⟩; rw [HQ.out])
              go_roundw
              case rel => exact ⟨_, p, cl2, by omega, rfl, rfl, R1.out, HD.out⟩
              case measure => simp [intOf]
          · have hltd : decide ((k : Int) < (n : Int)) = false := by rw [decide_eq_false_iff_not]; omega
            rw [show n - k = 0 from by omega, scanF] at hSC
            have HD := hide (hH.done hSC.symm)
            have R1 := hide r1
            clear hSC hH r1
            go_wp2
            go_roundw
            case rel => exact ⟨_, p, cl2, by omega, rfl, rfl, R1.out, HD.out⟩
            case measure => simp [intOf]
    · obtain rfl : i = 0 := by omega
      obtain rfl : z = -1 := by omega
      have HD := hide hD
      have HC := hide r1.coll
      clear hD r1 hz
      go_wp2
      go_ret
      exact ⟨_, cl, rfl, HC.out, HD.out⟩

set_option maxHeartbeats 8000000 in
theorem BestBreaks_S (w : World) (A : Option Addr) (n c : Nat) (xs : List ByteArray) (m : Int) (h : Sl Value.string w A n xs) (hcap : n ≤ c) (hu : ∀ s ∈ xs, (s.size : Int) ≤ 1048576) :
    Calls Try.prog 28 #[.slice A n c, .int .i64 m] w fun e w' => ∃ v, e = .returned (.tuple #[v, .int .i64 (bestR xs m).2.1, .int .i64 (bestR xs m).2.2]) ∧ Coll w w' 2 v ((bestR xs m).1.map (Value.int .i64)) := by
  replace hu := hide hu
  by_cases hv : validT xs m = true
  · have HR : Hid (bestR xs m = (brk xs m xs.length 0, cst xs m 0, 0)) := by unfold Hid bestR; rw [if_pos hv]
    obtain ⟨f1, f2, f3, f4⟩ := validT_facts hv
    rw [h.len] at f2
    have hxl := hide h.len
    have HM := hide (fun s hs => (f1 s hs).2 : ∀ s ∈ xs, (s.size : Int) ≤ m)
    have HS := hide (fun s hs => by have := f1 s hs; omega : ∀ s ∈ xs, s.size ≤ 80)
    replace hv := hide hv
    clear f1
    go_enter Try.func28, Try.ntmps28
    go_wp2_with (go_at_call 65; refine (l09Ok_any _ _ _ _ xs _ h hu.out).mono ?_; rintro e w1 ⟨rfl, hb1⟩; rw [hv.out])
    refine (l09Bad_any _ _ _ _ xs m (h.on hb1) hcap f2 f3 f4 HM.out).mono ?_
    rintro e w2 ⟨v2, cl, rfl, hc2, hD⟩
    obtain ⟨A2, c2, rfl, -, -, hs2⟩ := Sl.of_coll hc2
    have hb2 := hc2.below
    have hcl : cl.length = n + 1 := by rw [hD.len, hxl.out]
    rw [hcl] at hs2 ⊢
    have HD := hide hD
    have h0 := Coll.empty (e := 2) (Below.refl w2.heap.size w2)
    clear hc2 hD hcl
    go_wp2
    go_loopw [8, 10] (fun v iv wr => ∃ (i f : Nat) (acc : List Int), i ≤ n ∧ iv = .int .i64 i ∧ acc.length ≤ i ∧ n ≤ i + f ∧ Coll w2 wr 2 v (acc.map (Value.int .i64)) ∧ acc ++ brk xs m f i = brk xs m n 0) (fun _ iv _ => n - (intOf iv).toNat)
    case atStart => exact ⟨0, n, [], Nat.zero_le _, rfl, Nat.le_refl _, by omega, h0, rfl⟩
    case round =>
      clear h0
      obtain ⟨i, f, acc, hin, rfl, hal, hnf, hco, HG⟩ := hrel
      by_cases hlt : i < n
      · have hltd : decide ((i : Int) < (n : Int)) = true := by rw [decide_eq_true_eq]; omega
        obtain ⟨f', rfl⟩ : ∃ f', f = f' + 1 := ⟨f - 1, by omega⟩
        rw [brk, hxl.out] at HG
        have hca := (cst_all HM.out f4 (n - i) i (by rw [hxl.out]; omega)).2.2 (by rw [hxl.out]; exact hlt)
        have hcb := (cst_all HM.out f4 (n - i) i (by rw [hxl.out]; omega)).1
        obtain ⟨b9, o9, x9, rfl, hx9, hc9⟩ := h.at_ (Below.step (Below.step hb1 hb2) hco.below) hlt
        clear hx9 hc9
        obtain ⟨b2, o2, ci, rfl, hx2, hc2⟩ := hs2.at_ hco.below (show i < n + 1 by omega)
        have hci : cst xs m i = ci := by
          have := HD.out.c i (Nat.zero_le _) (by rw [hxl.out]; omega)
          rw [hx2] at this
          exact (Option.some.inj this).symm
        have hsub := ((h.on (Below.step (Below.step hb1 hb2) hco.below))).from_some i
        have hpl := hide (fun s hs => HS.out s (List.mem_of_mem_drop hs) : ∀ s ∈ xs.drop i, s.size ≤ 80)
        have hcp : ¬ c = i := by omega
        obtain ⟨Lr, hLr⟩ : ∃ L, lineL (xs.drop i) = L := ⟨_, rfl⟩
        have HLr := hide hLr
        rw [hxl.out, hLr] at hca
        rcases hca with ⟨hfit, ht⟩ | ⟨hfit, hix, hxn, hxm, hxv, hxf⟩
        · have hnx : nxt xs m i = n := by unfold nxt; rw [ht]
          have hc0 : ci = 0 := by rw [← hci]; unfold cst; rw [ht]
          rw [if_neg (by rw [hnx]; omega), List.append_nil] at HG
          have hz : (ci == 0) = true := by simp [hc0]
          have HE : Hid (bestR xs m = (acc, cst xs m 0, 0)) := by unfold Hid; rw [HR.out, HG, hxl.out]
          obtain ⟨b3, o3, d0, hA3, hx3, hc3⟩ := hs2.at_ hco.below (show 0 < n + 1 by omega)
          obtain ⟨rfl, rfl⟩ : b2 = b3 ∧ o2 = o3 := by simpa using hA3
          rw [Nat.add_zero] at hc3
          have hd0 : Hid (d0 = cst xs m 0) := by
            have := HD.out.c 0 (Nat.le_refl _) (Nat.zero_le _)
            rw [hx3] at this
            exact Option.some.inj this
          have HC := hide ((hco.since hb2).since hb1)
          clear ht hnx hci hx2 hLr HG hc0 hx3 hco hA3
          go_wp2_with (go_at_call 55; refine (l09Long_any _ _ _ _ _ hsub (by omega) hpl.out).mono ?_; rintro e w4 ⟨rfl, rfl⟩; rw [HLr.out])
          go_quiet (fail)
          go_wp2
          go_ret3
          exact ⟨_, by rw [HE.out, hd0.out]; rfl, by rw [HE.out]; exact HC.out.draw _⟩
        · obtain ⟨x, hx⟩ : ∃ x, nxt xs m i = x := ⟨_, rfl⟩
          rw [hx] at hix hxn hxm hxv hxf HG
          rw [if_pos ⟨hlt, hxn⟩] at HG
          rw [hci] at hxv hxf
          have HXV := hide hxv
          have HXF := hide hxf
          have HXM := hide hxm
          have HN : Hid ((acc ++ [(x : Int)]) ++ brk xs m f' x = brk xs m n 0) := by unfold Hid; rw [← HG]; simp
          have HCI := hide hci
          clear hx HG hxv hxf hxm hLr hci hx2
          by_cases hz0 : ci = 0
          all_goals
            first
              | (have hz : (ci == 0) = true := by simpa using hz0)
              | (have hz : (ci == 0) = false := beq_eq_false_iff_ne.2 hz0)
            clear hz0
            go_wp2_with (go_at_call 55; refine (l09Long_any _ _ _ _ _ hsub (by omega) hpl.out).mono ?_; rintro e w4 ⟨rfl, rfl⟩; rw [HLr.out])
            go_loopw [8, 10, 11] (fun v iv kv w5 => ∃ (k : Nat), i + 1 ≤ k ∧ k ≤ x ∧ kv = .int .i64 k ∧ iv = .int .i64 i ∧ Coll w2 w5 2 v (acc.map (Value.int .i64))) (fun _ _ kv _ => n - (intOf kv).toNat)
            case atStart => exact ⟨i + 1, Nat.le_refl _, by omega, by go_num, rfl, hco⟩
            case round =>
              clear hco hc2 hsub
              obtain ⟨k, hk1, hk2, rfl, rfl, hco⟩ := hrel
              have hkn : k < n := by omega
              have hknd : decide ((k : Int) < (n : Int)) = true := by rw [decide_eq_true_eq]; omega
              obtain ⟨q, hq⟩ : ∃ q, seg xs i k = q := ⟨_, rfl⟩
              have hq0 : 0 ≤ q := by rw [← hq]; exact seg_nonneg _ _ _
              have hqm : q ≤ m := by
                have := seg_le (xs := xs) (i := i) (x - k) k (by omega) (by rw [hxl.out]; omega)
                rw [show k + (x - k) = x from by omega, hq] at this
                have h2 := HXM.out
                omega
              have HQ : Hid (lineL ((xs.take k).drop i) = q) := hq
              have hsubk := ((h.on (Below.step (Below.step hb1 hb2) hco.below)).take (k := k) (by omega)).from_some i
              have hplk := hide (fun s hs => HS.out s (List.mem_of_mem_take (List.mem_of_mem_drop hs)) : ∀ s ∈ (xs.take k).drop i, s.size ≤ 80)
              obtain ⟨hck0, hck1, -⟩ := cst_all HM.out f4 (n - k) k (by rw [hxl.out]; omega)
              obtain ⟨ck, hck⟩ : ∃ y, cst xs m k = y := ⟨_, rfl⟩
              have hck2 := hs2.cell hco.below (k := k) (x := ck) (by rw [← hck]; exact HD.out.c k (Nat.zero_le _) (by rw [hxl.out]; omega))
              have hci2 := hs2.cell hco.below (k := i) (x := ci) (by rw [← HCI.out]; exact HD.out.c i (Nat.zero_le _) (by rw [hxl.out]; omega))
              have hvv : vv xs m (cst xs m) i k = (m - q) * (m - q) + ck := by unfold vv; rw [hq, hck]
              rw [hck] at hck0 hck1
              obtain ⟨y, hy⟩ : ∃ y, (m - q) * (m - q) = y := ⟨_, rfl⟩
              have hyb : 0 ≤ y ∧ y ≤ 6400 := by
                rw [← hy]
                refine ⟨sq_nonneg' _, ?_⟩
                have := Int.mul_le_mul (show m - q ≤ 80 by omega) (show m - q ≤ 80 by omega) (show 0 ≤ m - q by omega) (by decide : (0 : Int) ≤ 80)
                omega
              rw [hy] at hvv
              have hwy : IntKind.i64.wrap y = y := IntWalk.i64_in _ (by omega)
              have hws : IntKind.i64.wrap (ck + y) = ck + y := IntWalk.i64_in _ (by omega)
              have hxd : decide (0 ≤ m - q) = true := by rw [decide_eq_true_eq]; omega
              have hacl : acc.length ≤ n := by omega
              by_cases hkx : k = x
              · have heq : (ck + y == ci) = true := by
                  have e := HXV.out
                  rw [← hkx, hvv] at e
                  rw [beq_iff_eq]; omega
                have HKX := hide hkx
                clear hq hck hvv hkx
                go_wp2_with (go_at_call 55; refine (l09Long_any _ _ _ _ _ hsubk (by omega) hplk.out).mono ?_; rintro e w4 ⟨rfl, rfl⟩; rw [HQ.out])
                go_quiet (fail)
                have hcD := hco.draw nq
                go_wp2_with (at_builtin; refine Coll.push Try.underlying23 int64_info rfl (by decide) hcD rfl (by rw [List.length_map]; omega) rfl _ _ rfl rfl rfl ?_; intro v1 w7 hc7 hg7)
                go_roundw
                case rel => exact ⟨k, f', acc ++ [(k : Int)], by omega, rfl, by simp; omega, by omega, by simpa using hc7, by have := HN.out; rw [← HKX.out] at this; exact this⟩
                case measure => simp [intOf]; omega
              · have hne2 : (ck + y == ci) = false := by
                  have e := HXF.out k (by omega) (by omega)
                  rw [hvv] at e
                  exact beq_eq_false_iff_ne.2 (by omega)
                clear hq hck hvv
                go_wp2_with (go_at_call 55; refine (l09Long_any _ _ _ _ _ hsubk (by omega) hplk.out).mono ?_; rintro e w4 ⟨rfl, rfl⟩; rw [HQ.out])
                go_quiet (fail)
                go_wp2
                go_roundw
                case rel => exact ⟨k + 1, by omega, by omega, by go_num, rfl, hco.draw _⟩
                case measure => simp [intOf]; omega
      · have hltd : decide ((i : Int) < (n : Int)) = false := by rw [decide_eq_false_iff_not]; omega
        have HE : Hid (bestR xs m = (acc, cst xs m 0, 0)) := by
          have e : brk xs m f i = [] := by
            cases f with
            | zero => rfl
            | succ f => rw [brk, if_neg (by rw [hxl.out]; omega)]
          rw [e, List.append_nil] at HG
          unfold Hid; rw [HR.out, HG, hxl.out]
        obtain ⟨b3, o3, d0, rfl, hx3, hc3⟩ := hs2.at_ hco.below (show 0 < n + 1 by omega)
        rw [Nat.add_zero] at hc3
        have hd0 : Hid (d0 = cst xs m 0) := by
          have := HD.out.c 0 (Nat.le_refl _) (Nat.zero_le _)
          rw [hx3] at this
          exact Option.some.inj this
        have HC := hide ((hco.since hb2).since hb1)
        clear HG hco hx3
        go_wp2
        go_quiet (fail)
        go_wp2
        go_ret3
        exact ⟨_, by rw [HE.out, hd0.out]; rfl, by rw [HE.out]; exact HC.out.draw _⟩
  · have HR : Hid (bestR xs m = ([], 0, 1)) := by unfold Hid bestR; rw [if_neg hv]
    replace hv : Hid (validT xs m = false) := by unfold Hid; simpa using hv
    go_enter Try.func28, Try.ntmps28
    go_wp2_with (go_at_call 65; refine (l09Ok_any _ _ _ _ xs _ h hu.out).mono ?_; rintro e w1 ⟨rfl, hb1⟩; rw [hv.out])
    go_ret3
    exact ⟨_, by rw [HR.out]; rfl, by rw [HR.out]; exact Coll.nil_ hb1⟩
end Go.Proofs.Ytanpmjbephelaaa
