/-
  TableLines of the reference: what it returns, for all arguments.
-/
import Derived.Test.YtanpmjbephelaaaL08KP
namespace Go.Proofs.Ytanpmjbephelaaa
set_option maxRecDepth 100000
open Go.RowKit


set_option maxHeartbeats 8000000 in
theorem TableLines_S (w : World) (A : Option Addr) (n c : Nat) (rows : List (List ByteArray)) (sd : ByteArray) (gap : Int) (h : Tb w A n rows) (hu : ∀ r ∈ rows, ∀ s ∈ r, (s.size : Int) ≤ 1048576) (hsd : sd.size ≤ 1048576) :
    Calls Try.prog 45 #[.slice A n c, .string sd, .int .i64 gap] w fun e w' => ∃ v, e = .returned (.tuple #[v, .int .i64 (tableR rows sd gap).2]) ∧ Coll w w' 9 v ((tableR rows sd gap).1.map Value.string) := by
  replace hu := hide hu
  by_cases hok : okTable rows = true
  · replace hok := hide hok
    obtain ⟨k1, k2, k3, k4, k5⟩ := okTable_facts hok.out
    obtain ⟨g1, g2, g3⟩ := widths_facts hok.out
    have hw30 := hide k5
    have HG2 := hide g2
    have HG3 := hide g3
    have HG1 := hide g1
    rw [h.len] at k1 k2
    clear k5 g1 g2 g3
    go_enter Try.func45, Try.ntmps45
    go_wp2_with (go_at_call 85; refine (l08Rows_any _ _ _ _ rows h hu.out).mono ?_; rintro e w1 ⟨rfl, hb1⟩; rw [hok.out])
    go_loopw [8] (fun i wr => ∃ q : Nat, q ≤ sd.size ∧ i = .int .i64 q ∧ Below w.heap.size w wr ∧ okSides ((by_ sd).drop q) = okSides (by_ sd)) (fun i _ => sd.size - (intOf i).toNat)
    case atStart => exact ⟨0, Nat.zero_le _, rfl, hb1, by simp⟩
    case round =>
      clear hb1
      obtain ⟨q, hq, rfl, hb1, HS⟩ := hrel
      by_cases hlq : q < sd.size
      · have hx := by_get hlq
        obtain ⟨d, hd⟩ : ∃ d, sd[q] = d := ⟨_, rfl⟩
        rw [hd] at hx
        have hrun := run_byte hx
        rw [drop_get hx, okSides] at HS
        by_cases hd1 : d = 108
        · rw [if_pos (.inl hd1)] at HS
          have hc1 : ((d.toNat : Int) != 108) = false := by simp [hd1]
          have H2 := hide HS
          clear HS hx hd hd1
          go_wp2
          go_roundw
          case rel => exact ⟨q + 1, by omega, by go_num, hb1, H2.out⟩
          case measure => simp [intOf]; omega
        · have hc1 : ((d.toNat : Int) != 108) = true := by rw [bne_iff_ne]; intro e; exact hd1 (UInt8.toNat_inj.1 (by simp; omega))
          by_cases hd2 : d = 114
          · rw [if_pos (.inr hd2)] at HS
            have hc2 : ((d.toNat : Int) != 114) = false := by simp [hd2]
            have H2 := hide HS
            clear HS hx hd hd2 hd1
            go_wp2
            go_roundw
            case rel => exact ⟨q + 1, by omega, by go_num, hb1, H2.out⟩
            case measure => simp [intOf]; omega
          · have hc2 : ((d.toNat : Int) != 114) = true := by rw [bne_iff_ne]; intro e; exact hd2 (UInt8.toNat_inj.1 (by simp; omega))
            rw [if_neg (fun e => e.elim hd1 hd2)] at HS
            have HR : Hid (tableR rows sd gap = ([], 2)) := by unfold Hid tableR okAsk; rw [if_pos hok.out, ← HS, Bool.and_false, Bool.and_false]; rfl
            clear HS hx hd hd1 hd2
            go_wp2
            go_ret2
            exact ⟨_, by rw [HR.out]; rfl, by rw [HR.out]; exact Coll.nil_ hb1⟩
      · rw [List.drop_eq_nil_of_le (by rw [by_len]; omega), okSides] at HS
        have HSD := hide HS.symm
        clear HS
        obtain ⟨b, o, l0, A0, c0, rfl, hbl, hx0, hc00, -⟩ := h.at_ (Below.refl _ _) (show 0 < n by omega)
        rw [Nat.add_zero] at hc00
        have hw0 := wid0_get hx0
        obtain ⟨m, hm⟩ : ∃ m, l0.length = m := ⟨_, rfl⟩
        have HW0 : Hid (wid0 rows = m) := by unfold Hid; rw [hw0, hm]
        rw [hw0, hm] at k3 k4
        rw [hm] at hc00
        have hcz := (hb1.cell (p := ⟨b, o, none⟩) hbl).trans hc00
        clear hx0 hw0 hm hc00
        by_cases hsz : sd.size = m
        · have hnd : ((sd.size : Int) != (m : Int)) = false := by simp [hsz]
          by_cases hg : inB gap 0 20 = true
          · have hgb := inB_iff.1 hg
            have HR : Hid (tableR rows sd gap = (rows.map (lineR gap (widthsOf rows) (by_ sd)), 0)) := by unfold Hid tableR okAsk; rw [if_pos hok.out, HW0.out, decide_eq_true hsz, hg, HSD.out]; rfl
            have HSZ := hide hsz
            clear hsz
            go_wp2_with (first
              | (go_at_call 70; refine (l00In_any _ _ _ _).mono ?_; rintro e w1 ⟨rfl, rfl⟩)
              | (go_at_call 86; refine (l08Widths_any _ _ _ _ rows (h.on hb1) hok.out).mono ?_; rintro e w2 ⟨v2, rfl, hc2⟩; obtain ⟨A2, c2, rfl, -, -, hs2⟩ := Sl.of_coll hc2; have hb2 := Below.step hb1 hc2.below; have hwl := HG1.out; rw [HW0.out] at hwl; rw [hwl] at hs2; clear hc2))
            have h0 := Coll.empty (e := 9) (Below.refl w2.heap.size w2)
            go_loopw [10, 11] (fun v i wr => ∃ (k : Nat) (acc : List ByteArray), k ≤ n ∧ i = .int .i64 k ∧ acc.length ≤ k ∧ Coll w2 wr 9 v (acc.map Value.string) ∧ acc ++ (rows.drop k).map (lineR gap (widthsOf rows) (by_ sd)) = rows.map (lineR gap (widthsOf rows) (by_ sd))) (fun _ i _ => n - (intOf i).toNat)
            case atStart => exact ⟨0, [], Nat.zero_le _, rfl, Nat.le_refl _, h0, by simp⟩
            case round =>
              clear h0
              obtain ⟨k, acc, hk, rfl, hal, hco, HG⟩ := hrel
              by_cases hlk : k < n
              · obtain ⟨b', o', l, Ak, ck, hA, hbl', hx, hc0, hs0⟩ := h.at_ (Below.refl _ _) hlk
                obtain ⟨rfl, rfl⟩ : b = b' ∧ o = o' := by simpa using hA
                have hmem := List.mem_of_getElem? hx
                have hl : l.length = m := by rw [(hw30.out l hmem).1, HW0.out]
                have HCZ := hide (HG3.out l hmem)
                rw [drop_get hx, List.map_cons] at HG
                have HLR : lineR gap (widthsOf rows) (by_ sd) l = mkS (lineTo gap (widthsOf rows) (by_ sd) l m) := by unfold lineR; rw [hl]
                rw [HLR] at HG
                have HN : Hid ((acc ++ [mkS (lineTo gap (widthsOf rows) (by_ sd) l m)]) ++ (rows.drop (k + 1)).map (lineR gap (widthsOf rows) (by_ sd)) = rows.map (lineR gap (widthsOf rows) (by_ sd))) := by unfold Hid; rw [← HG]; simp
                rw [hl] at hc0 hs0
                have hco0 := hide hco
                have hB3 := Below.step hb2 hco.below
                have hck := (hB3.cell (p := ⟨b, o + k, none⟩) hbl).trans hc0
                clear hA hx HG hl hbl' hmem HLR hco
                go_wp2
                clear hck
                obtain ⟨wo, rfl⟩ : ∃ wo : World, wo = wr := ⟨_, rfl⟩
                go_loopw [12, 13] (fun lv j w5 => ∃ (q : Nat) (tx : List UInt8), q ≤ m ∧ j = .int .i64 q ∧ lv = .string (mkS tx) ∧ tx.length ≤ 50 * q ∧ Below wo.heap.size wo w5 ∧ tx = lineTo gap (widthsOf rows) (by_ sd) l q) (fun _ j _ => m - (intOf j).toNat)
                case atStart => exact ⟨0, [], Nat.zero_le _, rfl, rfl, Nat.zero_le _, Below.refl _ _, rfl⟩
                case round =>
                  obtain ⟨q, tx, hq, rfl, rfl, htl, hb5, HT⟩ := hrel
                  have hB5 := Below.step hB3 hb5
                  have hck := (hB5.cell (p := ⟨b, o + k, none⟩) hbl).trans hc0
                  replace HT := hide HT
                  by_cases hlq : q < m
                  · by_cases hq0 : q = 0
                    · have hqd : decide ((0 : Int) < (q : Int)) = false := by rw [decide_eq_false_iff_not]; omega
                      have hqd2 : decide (0 < q) = false := by rw [decide_eq_false_iff_not]; omega
                      have hqd3 : ¬ 0 < q := by omega
                      obtain ⟨b3, o3, p, rfl, hy, hcy⟩ := hs0.at_ hB5 hlq
                      obtain ⟨z, hz, hpz⟩ := HCZ.out q p hy
                      have hz30 := HG2.out z (List.mem_of_getElem? hz)
                      obtain ⟨b4, o4, z', rfl, hz', hcw⟩ := hs2.at_ (Below.step hco0.out.below hb5) hlq
                      obtain rfl : z = z' := by rw [hz] at hz'; exact Option.some.inj hz'
                      have hqs : q < sd.size := by rw [HSZ.out]; exact hlq
                      have hdd := by_get hqs
                      obtain ⟨d, hde⟩ : ∃ d, sd[q] = d := ⟨_, rfl⟩
                      rw [hde] at hdd
                      have hrun := run_byte hdd
                      have HPL := hide (piece_len (q := q) (d := d) hgb.2 hz30 hpz)
                      have HSU := hide (lineTo_succ (gap := gap) hz hdd hy)
                      obtain ⟨F, hF⟩ : ∃ F, runs 32 (z - (p.size : Int)) = F := ⟨_, rfl⟩
                      obtain ⟨G, hG⟩ : ∃ G, runs 32 gap = G := ⟨_, rfl⟩
                      have hFz : F.size ≤ 30 := by rw [← hF, runs_size]; omega
                      have hGz : G.size ≤ 20 := by rw [← hG, runs_size]; omega
                      have HF := hide hF
                      have HGP := hide hG
                      have HY := hide hy
                      have HZ := hide hz
                      have hmz : (mkS tx).size = tx.length := rfl
                      have hpz30 : p.size ≤ 30 := by omega
                      have hs1 : z - (p.size : Int) ≤ 1048576 := by omega
                      have hs2w : IntKind.i64.wrap (z - (p.size : Int)) = z - (p.size : Int) := IntWalk.i64_in _ (by omega)
                      clear hz hz' hy hF hG hde hdd hqs
                      have HQ0 := hide hq0
                      clear hq0
                      by_cases hd1 : d = 108
                      · have hd8 : ((d.toNat : Int) == 108) = true := by simp [hd1]
                        have HD1 := hide hd1
                        clear hd1
                        go_wp2
                        go_region_law (first | (go_simp; go_at_call 71; refine (l08Blanks_any _ _ hs1).mono ?_; rintro e w7 ⟨rfl, hb7⟩; rw [HF.out]; have hB7 := Below.step hB5.drew hb7; have hck7 := (hB7.cell (p := ⟨b, o + k, none⟩) hbl).trans hc0; have hcy7 := hs0.cell hB7 HY.out))
                        all_goals
                          go_wp2
                          go_roundw
                          case rel => exact ⟨q + 1, tx ++ piece gap q z d p, by omega, by go_num, by rw [← HF.out]; rw [set_left0 HD1.out HQ0.out], by have := HPL.out; rw [List.length_append]; omega, Below.step hb5.drew hb7, by rw [HSU.out, ← HT.out]⟩
                          case measure => simp [intOf]; omega
                      · have hd8 : ((d.toNat : Int) == 108) = false := by simp; intro e; exact hd1 (UInt8.toNat_inj.1 (by simp; omega))
                        have HD1 := hide hd1
                        clear hd1
                        go_wp2
                        go_region_law (first | (go_simp; go_at_call 71; refine (l08Blanks_any _ _ hs1).mono ?_; rintro e w7 ⟨rfl, hb7⟩; rw [HF.out]; have hB7 := Below.step hB5.drew hb7; have hck7 := (hB7.cell (p := ⟨b, o + k, none⟩) hbl).trans hc0; have hcy7 := hs0.cell hB7 HY.out))
                        all_goals
                          go_wp2
                          go_roundw
                          case rel => exact ⟨q + 1, tx ++ piece gap q z d p, by omega, by go_num, by rw [← HF.out]; rw [set_right0 HD1.out HQ0.out], by have := HPL.out; rw [List.length_append]; omega, Below.step hb5.drew hb7, by rw [HSU.out, ← HT.out]⟩
                          case measure => simp [intOf]; omega
                    · have hqd : decide ((0 : Int) < (q : Int)) = true := by rw [decide_eq_true_eq]; omega
                      obtain ⟨b3, o3, p, rfl, hy, hcy⟩ := hs0.at_ hB5 hlq
                      obtain ⟨z, hz, hpz⟩ := HCZ.out q p hy
                      have hz30 := HG2.out z (List.mem_of_getElem? hz)
                      obtain ⟨b4, o4, z', rfl, hz', hcw⟩ := hs2.at_ (Below.step hco0.out.below hb5) hlq
                      obtain rfl : z = z' := by rw [hz] at hz'; exact Option.some.inj hz'
                      have hqs : q < sd.size := by rw [HSZ.out]; exact hlq
                      have hdd := by_get hqs
                      obtain ⟨d, hde⟩ : ∃ d, sd[q] = d := ⟨_, rfl⟩
                      rw [hde] at hdd
                      have hrun := run_byte hdd
                      have HPL := hide (piece_len (q := q) (d := d) hgb.2 hz30 hpz)
                      have HSU := hide (lineTo_succ (gap := gap) hz hdd hy)
                      obtain ⟨F, hF⟩ : ∃ F, runs 32 (z - (p.size : Int)) = F := ⟨_, rfl⟩
                      obtain ⟨G, hG⟩ : ∃ G, runs 32 gap = G := ⟨_, rfl⟩
                      have hFz : F.size ≤ 30 := by rw [← hF, runs_size]; omega
                      have hGz : G.size ≤ 20 := by rw [← hG, runs_size]; omega
                      have HF := hide hF
                      have HGP := hide hG
                      have HY := hide hy
                      have HZ := hide hz
                      have hmz : (mkS tx).size = tx.length := rfl
                      have hpz30 : p.size ≤ 30 := by omega
                      have hs1 : z - (p.size : Int) ≤ 1048576 := by omega
                      have hs2w : IntKind.i64.wrap (z - (p.size : Int)) = z - (p.size : Int) := IntWalk.i64_in _ (by omega)
                      clear hz hz' hy hF hG hde hdd hqs
                      have HQ0 := hide (by omega : 0 < q)
                      clear hq0
                      by_cases hd1 : d = 108
                      · have hd8 : ((d.toNat : Int) == 108) = true := by simp [hd1]
                        have HD1 := hide hd1
                        clear hd1
                        go_wp2_with (go_at_call 71; refine (l08Blanks_any _ _ (by omega)).mono ?_; rintro e w6 ⟨rfl, hb6⟩; rw [HGP.out]; have hB6 := Below.step hB5 hb6; have hck6 := (hB6.cell (p := ⟨b, o + k, none⟩) hbl).trans hc0; have hcy6 := hs0.cell hB6 HY.out; have hcw6 := hs2.cell (Below.step (Below.step hco0.out.below hb5) hb6) HZ.out)
                        go_region_law (first | (go_simp; go_at_call 71; refine (l08Blanks_any _ _ hs1).mono ?_; rintro e w7 ⟨rfl, hb7⟩; rw [HF.out]; have hB7 := Below.step hB6.drew hb7; have hck7 := (hB7.cell (p := ⟨b, o + k, none⟩) hbl).trans hc0; have hcy7 := hs0.cell hB7 HY.out))
                        all_goals
                          go_wp2
                          go_roundw
                          case rel => exact ⟨q + 1, tx ++ piece gap q z d p, by omega, by go_num, by rw [← HF.out]; rw [← HGP.out, set_left HD1.out HQ0.out], by have := HPL.out; rw [List.length_append]; omega, Below.step (Below.step hb5 hb6).drew hb7, by rw [HSU.out, ← HT.out]⟩
                          case measure => simp [intOf]; omega
                      · have hd8 : ((d.toNat : Int) == 108) = false := by simp; intro e; exact hd1 (UInt8.toNat_inj.1 (by simp; omega))
                        have HD1 := hide hd1
                        clear hd1
                        go_wp2_with (go_at_call 71; refine (l08Blanks_any _ _ (by omega)).mono ?_; rintro e w6 ⟨rfl, hb6⟩; rw [HGP.out]; have hB6 := Below.step hB5 hb6; have hck6 := (hB6.cell (p := ⟨b, o + k, none⟩) hbl).trans hc0; have hcy6 := hs0.cell hB6 HY.out; have hcw6 := hs2.cell (Below.step (Below.step hco0.out.below hb5) hb6) HZ.out)
                        go_region_law (first | (go_simp; go_at_call 71; refine (l08Blanks_any _ _ hs1).mono ?_; rintro e w7 ⟨rfl, hb7⟩; rw [HF.out]; have hB7 := Below.step hB6.drew hb7; have hck7 := (hB7.cell (p := ⟨b, o + k, none⟩) hbl).trans hc0; have hcy7 := hs0.cell hB7 HY.out))
                        all_goals
                          go_wp2
                          go_roundw
                          case rel => exact ⟨q + 1, tx ++ piece gap q z d p, by omega, by go_num, by rw [← HF.out]; rw [← HGP.out, set_right HD1.out HQ0.out], by have := HPL.out; rw [List.length_append]; omega, Below.step (Below.step hb5 hb6).drew hb7, by rw [HSU.out, ← HT.out]⟩
                          case measure => simp [intOf]; omega
                  · have HQM : Hid (q = m) := by unfold Hid; omega
                    have hcD := hco0.out.on hb5
                    go_wp2_with (at_builtin; refine Coll.push Try.underlying22 string_info rfl (by decide) hcD rfl (by rw [List.length_map]; omega) rfl _ _ rfl rfl rfl ?_; intro v1 w8 hc8 hg8)
                    go_roundw
                    case rel => exact ⟨k + 1, acc ++ [mkS tx], by omega, by go_num, by simp; omega, by simpa using hc8, by have e := HN.out; rw [← HQM.out, ← HT.out] at e; exact e⟩
                    case measure => simp [intOf]; omega
              · rw [h.end_ hlk, List.map_nil, List.append_nil] at HG
                have HE : Hid (tableR rows sd gap = (acc, 0)) := by unfold Hid; rw [HR.out, ← HG]
                have HC := hide (hco.since hb2)
                clear HG hco
                go_wp2
                go_ret2
                exact ⟨_, by rw [HE.out]; rfl, by rw [HE.out]; exact HC.out⟩
          · have HR : Hid (tableR rows sd gap = ([], 2)) := by unfold Hid tableR okAsk; rw [if_pos hok.out, if_neg (by simp [hg])]
            replace hg : inB gap 0 20 = false := by simpa using hg
            clear hsz
            go_wp2_with (go_at_call 70; refine (l00In_any _ _ _ _).mono ?_; rintro e w1 ⟨rfl, rfl⟩)
            go_ret2
            exact ⟨_, by rw [HR.out]; rfl, by rw [HR.out]; exact Coll.nil_ hb1⟩
        · have hnd : ((sd.size : Int) != (m : Int)) = true := by rw [bne_iff_ne]; omega
          have HR : Hid (tableR rows sd gap = ([], 2)) := by unfold Hid tableR okAsk; rw [if_pos hok.out, HW0.out, if_neg (by simp [hsz])]
          clear hsz
          go_wp2_with (go_at_call 70; refine (l00In_any _ _ _ _).mono ?_; rintro e w1 ⟨rfl, rfl⟩)
          go_ret2
          exact ⟨_, by rw [HR.out]; rfl, by rw [HR.out]; exact Coll.nil_ hb1⟩
  · have HR : Hid (tableR rows sd gap = ([], 1)) := by unfold Hid tableR; rw [if_neg hok]
    replace hok : Hid (okTable rows = false) := by unfold Hid; simpa using hok
    go_enter Try.func45, Try.ntmps45
    go_wp2_with (go_at_call 85; refine (l08Rows_any _ _ _ _ rows h hu.out).mono ?_; rintro e w1 ⟨rfl, hb1⟩; rw [hok.out])
    go_ret2
    exact ⟨_, by rw [HR.out]; rfl, by rw [HR.out]; exact Coll.nil_ hb1⟩
end Go.Proofs.Ytanpmjbephelaaa
