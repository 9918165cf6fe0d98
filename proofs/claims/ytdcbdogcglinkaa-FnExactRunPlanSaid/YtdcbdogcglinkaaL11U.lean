/-
  RunPlan: plain law, and what it returns by the reference.
-/
import Derived.Test.YtdcbdogcglinkaaL11C
import Derived.Test.YtdcbdogcglinkaaL11B
namespace Go.Proofs.Ytdcbdogcglinkaa
set_option maxRecDepth 100000
open Go.RowKit

/-- A row that reaches as far as a column. -/
def padR (row : List UInt8) (col : Nat) : List UInt8 := row ++ List.replicate (col + 1 - row.length) 32
theorem padR_len (row : List UInt8) (col : Nat) : (padR row col).length = max row.length (col + 1) := by simp [padR]; omega
/-- A letter written at a column, if nothing stands there. -/
def putC (row : List UInt8) (col : Nat) (b : UInt8) : Option (List UInt8) := if (padR row col)[col]? = some 32 then some ((padR row col).set col b) else none
def runGo (xs : List Int) : List UInt8 → Nat → List UInt8 → Option (List UInt8)
  | row, _, [] => some row
  | row, col, b :: bs => if b = 39 then (match bs with
      | [] => none
      | c :: cs => if ltr c = true ∧ col < 30 then (match putC row col c with
        | some r => runGo xs r (col + 1) cs
        | none => none) else none)
    else match mvTo xs col b with
      | some t => runGo xs row t.toNat bs
      | none => none
theorem run_quote_end {xs : List Int} {row : List UInt8} {col : Nat} {b : UInt8} (hb : b = 39) : runGo xs row col [b] = none := by rw [runGo, if_pos hb]
theorem run_quote {xs : List Int} {row : List UInt8} {col : Nat} {b c : UInt8} {cs : List UInt8} (hb : b = 39) : runGo xs row col (b :: c :: cs) = if ltr c = true ∧ col < 30 then (match putC row col c with
        | some r => runGo xs r (col + 1) cs
        | none => none) else none := by rw [runGo, if_pos hb]
theorem run_move {xs : List Int} {row : List UInt8} {col : Nat} {b : UInt8} {bs : List UInt8} (hb : ¬ b = 39) : runGo xs row col (b :: bs) = match mvTo xs col b with
      | some t => runGo xs row t.toNat bs
      | none => none := by cases bs <;> simp [runGo, hb]
def runPlan (xs : List Int) (s : ByteArray) : ByteArray × Int := if okStops xs = true then (if s.size ≤ 200 then (match runGo xs [] 0 (by_ s) with
  | some r => (mkB r, 0)
  | none => (⟨#[]⟩, 7)) else (⟨#[]⟩, 7)) else (⟨#[]⟩, 1)
theorem run_bad {xs : List Int} {s : ByteArray} (h0 : okStops xs = true) (hn : runGo xs [] 0 (by_ s) = none) : runPlan xs s = (⟨#[]⟩, 7) := by
  unfold runPlan; rw [if_pos h0, hn]; split <;> rfl
theorem run_good {xs : List Int} {s : ByteArray} {r : List UInt8} (h0 : okStops xs = true) (h : s.size ≤ 200) (hn : runGo xs [] 0 (by_ s) = some r) : runPlan xs s = (mkB r, 0) := by
  unfold runPlan; rw [if_pos h0, if_pos h, hn]

set_option maxHeartbeats 1000000 in
theorem RunPlan_S (w : World) (A : Option Addr) (n c : Nat) (xs : List Int) (s : ByteArray) (h : Sl (Value.int .i64) w A n xs) (hs : s.size ≤ 1048576) :
    Calls Try.prog 28 #[.slice A n c, .string s] w fun e w' => e = .returned (.tuple #[.string (runPlan xs s).1, .int .i64 (runPlan xs s).2]) ∧ Below w.heap.size w w' := by
  by_cases hok : okStops xs = true
  · have HX := hide (okStops_all hok)
    by_cases hs2 : s.size ≤ 200
    · have HBAD := fun hn => hide (run_bad (s := s) hok hn)
      have HGOOD := fun r hn => hide (run_good (r := r) hok hs2 hn)
      go_enter Try.func28, Try.ntmps28
      go_wp2_with (go_at_call 45; refine (l11Ok_any _ _ _ _ xs h).mono ?_; rintro e w1 ⟨rfl, hb⟩; have hsz := hb.size; obtain ⟨hcw, hfw⟩ := bcell hb)
      have h0 := Coll.empty (e := 5) hb
      go_loopw [6, 7, 8] (fun v a i wr => ∃ (k cn : Nat) (row : List UInt8), k ≤ s.size ∧ cn ≤ 30 ∧ row.length ≤ 30 ∧ i = .int .i64 k ∧ a = .int .i64 cn ∧ Coll w wr 5 v (row.map ub) ∧ runGo xs row cn ((by_ s).drop k) = runGo xs [] 0 (by_ s)) (fun _ _ i _ => s.size - (intOf i).toNat)
      case atStart => exact ⟨0, 0, [], Nat.zero_le _, Nat.zero_le _, Nat.zero_le _, rfl, rfl, h0, by simp⟩
      case round =>
        clear h0 hb hcw hfw hsz
        obtain ⟨k, cn, row, hk, hcn, hrl, rfl, rfl, hco, HR⟩ := hrel
        have hb := hco.below
        by_cases hlt : k < s.size
        · have hx := by_get hlt
          obtain ⟨b, hbk⟩ : ∃ b, s[k] = b := ⟨_, rfl⟩
          rw [hbk] at hx
          have hrun := run_byte hx
          have hltd : decide ((k : Int) < (s.size : Int)) = true := by rw [decide_eq_true_eq]; omega
          rw [drop_get hx] at HR
          clear hx hbk
          by_cases h39 : b = 39
          · have c1 : ((b.toNat : Int) == 39) = true := b_eq (c := 39) h39
            by_cases hlt2 : k + 1 < s.size
            · have hy := by_get hlt2
              obtain ⟨c2, hc⟩ : ∃ c, s[k + 1] = c := ⟨_, rfl⟩
              rw [hc] at hy
              have hrun2 := run_byte hy
              rw [show ((k + 1 : Nat) : Int) = (k : Int) + 1 from by omega] at hrun2
              have hex := hide (ext_one hy)
              rw [drop_get hy, run_quote h39] at HR
              clear hy hc h39
              by_cases hl : ltr c2 = true
              · have hl2 : 33 ≤ (c2.toNat : Int) ∧ (c2.toNat : Int) ≤ 126 := by simpa [ltr] using hl
                obtain ⟨hl3, hl4⟩ := hl2
                by_cases hc30 : cn < 30
                · rw [if_pos ⟨hl, hc30⟩] at HR
                  have HR2 := hide HR
                  clear HR
                  have c3 : ((k : Int) + 1 == (s.size : Int)) = false := beq_eq_false_iff_ne.2 (by omega)
                  clear hl hok
                  go_wp2
                  go_loopw [6] (fun v wr => ∃ j : Nat, row.length + j ≤ max row.length (cn + 1) ∧ Coll w wr 5 v ((row ++ List.replicate j 32).map ub)) (fun v _ => cn + 1 - lenV v)
                  case atStart => exact ⟨0, by omega, by simpa using hco⟩
                  case round =>
                    clear hco hb
                    obtain ⟨j, hj, hco⟩ := hrel
                    have hb := hco.below
                    obtain ⟨A2, cp, rfl, hcap, hmax, hsl2⟩ := Sl.of_coll hco
                    have hln : (row ++ List.replicate j (32 : UInt8)).length = row.length + j := by simp
                    rw [hln] at hco hcap hsl2 ⊢
                    by_cases hgo : row.length + j ≤ cn
                    · have hgo2 : ((row.length + j : Nat) : Int) ≤ (cn : Int) := by omega
                      have HRL := hide (show (row ++ List.replicate j (32 : UInt8)) ++ [32] = row ++ List.replicate (j + 1) 32 by rw [List.replicate_succ', List.append_assoc])
                      go_wp2_with (at_builtin; refine Coll.push Try.underlying62 byte_info rfl (by decide) hco rfl (by rw [List.length_map]; omega) rfl _ _ rfl rfl rfl ?_; intro v1 w1 hc1 hg1)
                      go_roundw
                      case rel => exact ⟨j + 1, by omega, by rw [← HRL.out]; simpa [ub] using hc1⟩
                      case measure =>
                        obtain ⟨A3, cp3, rfl, _⟩ := hc1.form
                        simp [lenV]; omega
                    · have hgo2 : ¬ ((row.length + j : Nat) : Int) ≤ (cn : Int) := by omega
                      have hPAD : row ++ List.replicate j (32 : UInt8) = padR row cn := by unfold padR; congr 2; omega
                      have hpl := padR_len row cn
                      rw [hPAD] at hco hln hsl2
                      have hown := hco.own
                      rw [List.length_map, hln] at hown
                      obtain ⟨g, rfl, hgb⟩ := own_form hown (by omega)
                      obtain ⟨d, hd⟩ : ∃ d, (padR row cn)[cn]? = some d := ⟨_, List.getElem?_eq_getElem (by omega)⟩
                      have hcell := hown.cellAt cn (by omega)
                      rw [List.getElem?_map, hd] at hcell
                      have hfr := hown.frozenAt cn
                      have hcell2 : wr.cell? ⟨g, cn, none⟩ = some (.int .u8 (d.toNat : Int)) := hcell
                      have i1 : (cn : Int) < ((row.length + j : Nat) : Int) := by omega
                      clear hcell
                      by_cases hd32 : d = 32
                      · have hdb : ((d.toNat : Int) != 32) = false := bn_eq (c := 32) hd32
                        have HR3 := HR2.out
                        rw [putC, if_pos (hd32 ▸ hd)] at HR3
                        have hst := hown.stored cn (.int .u8 (c2.toNat : Int))
                        have HC : Hid (Coll w (wr.setCell ⟨g, cn, none⟩ (.int .u8 (c2.toNat : Int))) 5 (.slice (some ⟨g, 0, none⟩) (row.length + j) cp) (((padR row cn).set cn c2).map ub)) := by
                          refine ⟨?_, hb.grown hst.2 hb.size (fun q hq => by cases hq; exact hgb)⟩
                          rw [List.length_map, List.length_set, hln, List.map_set]
                          exact hst.1
                        have HLN : Hid (((padR row cn).set cn c2).length ≤ 30) := by unfold Hid; rw [List.length_set]; omega
                        replace HR3 := hide HR3
                        clear hst hown hco hsl2 hd hd32 hPAD hln hpl HR2
                        go_wp2
                        go_roundw
                        case rel => exact ⟨k + 2, cn + 1, _, by omega, by omega, HLN.out, by go_num, by go_num, HC.out, HR3.out⟩
                        case measure => simp [intOf]; omega
                      · have hdb : ((d.toNat : Int) != 32) = true := bn_ne (c := 32) hd32
                        have H2 := HBAD (by rw [← HR2.out, putC, if_neg (by rw [hd]; simpa using hd32)])
                        clear hown hco hsl2 hd hd32 hPAD hln hpl HR2
                        go_wp2
                        go_ret2
                        exact ⟨by rw [H2.out]; rfl, hb⟩
                · rw [if_neg (fun e => hc30 e.2)] at HR
                  have H2 := HBAD HR.symm
                  clear HR
                  have c3 : ((k : Int) + 1 == (s.size : Int)) = false := beq_eq_false_iff_ne.2 (by omega)
                  go_wp2
                  go_ret2
                  exact ⟨by rw [H2.out]; rfl, hb⟩
              · rw [if_neg (fun e => hl e.1)] at HR
                have H2 := HBAD HR.symm
                have hl2 : (c2.toNat : Int) < 33 ∨ 126 < (c2.toNat : Int) := by simp [ltr] at hl; omega
                clear HR
                have c3 : ((k : Int) + 1 == (s.size : Int)) = false := beq_eq_false_iff_ne.2 (by omega)
                rcases hl2 with hl2 | hl2
                all_goals
                  go_wp2
                  all_goals go_ret2
                  all_goals exact ⟨by rw [H2.out]; rfl, hb⟩
            · have e : (by_ s).drop (k + 1) = [] := List.drop_eq_nil_of_le (by rw [by_len]; omega)
              rw [e, run_quote_end h39] at HR
              have H2 := HBAD HR.symm
              have hke : (s.size : Int) = (k : Int) + 1 := by omega
              clear HR h39 e
              have c3 : ((k : Int) + 1 == (s.size : Int)) = true := by rw [hke]; simp
              go_wp2
              go_ret2
              exact ⟨by rw [H2.out]; rfl, hb⟩
          · have c1 : ((b.toNat : Int) == 39) = false := b_ne (c := 39) h39
            have c1' : ((b.toNat : Int) != 39) = true := bn_ne (c := 39) h39
            rw [run_move h39] at HR
            obtain ⟨mv, hm⟩ : ∃ mv, mvTo xs cn b = mv := ⟨_, rfl⟩
            rw [hm] at HR
            clear h39
            cases mv with
            | none =>
              have H2 := HBAD HR.symm
              clear HR
              replace hm := hide hm
              go_wp2_with (go_at_call 52; refine (l11Next_any _ _ _ _ xs cn b (h.on hb) HX.out (by omega)).mono ?_; rintro e w2 ⟨rfl, rfl⟩; rw [hm.out])
              go_ret2
              exact ⟨by rw [H2.out]; rfl, hb⟩
            | some t =>
              have htb := mvTo_bd HX.out (c := (cn : Int)) (by omega) hm
              obtain ⟨tn, rfl⟩ : ∃ tn : Nat, t = tn := ⟨t.toNat, by omega⟩
              have H2 := hide HR
              have i1 : (0 : Int) ≤ (tn : Int) := by omega
              clear HR
              replace hm := hide hm
              go_wp2_with (go_at_call 52; refine (l11Next_any _ _ _ _ xs cn b (h.on hb) HX.out (by omega)).mono ?_; rintro e w2 ⟨rfl, rfl⟩; rw [hm.out])
              go_roundw
              case rel => exact ⟨k + 1, tn, row, by omega, by omega, hrl, by go_num, by rfl, hco, H2.out⟩
              case measure => simp [intOf]; omega
        · have e : (by_ s).drop k = [] := List.drop_eq_nil_of_le (by rw [by_len]; omega)
          rw [e, runGo] at HR
          have H2 := HGOOD _ HR.symm
          have hst := hco.str
          clear HR e
          go_wp2
          go_ret2
          exact ⟨by rw [H2.out]; rfl, hb⟩
    · have H2 : Hid (runPlan xs s = (⟨#[]⟩, 7)) := by unfold Hid runPlan; rw [if_pos hok, if_neg hs2]
      go_enter Try.func28, Try.ntmps28
      go_wp2_with (go_at_call 45; refine (l11Ok_any _ _ _ _ xs h).mono ?_; rintro e w1 ⟨rfl, hb⟩; have hsz := hb.size; obtain ⟨hcw, hfw⟩ := bcell hb)
      go_ret2
      exact ⟨by rw [H2.out]; rfl, hb⟩
  · have H2 : Hid (runPlan xs s = (⟨#[]⟩, 1)) := by unfold Hid runPlan; rw [if_neg hok]
    replace hok : okStops xs = false := by simpa using hok
    go_enter Try.func28, Try.ntmps28
    go_wp2_with (go_at_call 45; refine (l11Ok_any _ _ _ _ xs h).mono ?_; rintro e w1 ⟨rfl, hb⟩; have hsz := hb.size; obtain ⟨hcw, hfw⟩ := bcell hb)
    go_ret2
    exact ⟨by rw [H2.out]; rfl, hb⟩

theorem mvTo_mv {xs : List Int} {c t : Int} {b : UInt8} (h : mvTo xs c b = some t) : isMv b = true := by
  unfold mvTo at h
  unfold isMv
  by_cases h1 : b = 62
  · simp [h1]
  · rw [if_neg h1] at h
    by_cases h2 : b = 60
    · simp [h2]
    · rw [if_neg h2] at h
      by_cases h3 : b = 35
      · simp [h3]
      · rw [if_neg h3] at h; cases h
theorem mv_three {b : UInt8} (h : isMv b = true) : b = 62 ∨ b = 60 ∨ b = 35 := by
  rcases mv_cases h with e | ⟨_, e⟩ | ⟨_, _, e⟩
  · exact .inl e
  · exact .inr (.inl e)
  · exact .inr (.inr e)
theorem q39 {b : UInt8} (h : ((b.toNat : Int) == 39) = true) : ((b.toNat : Int) == 62) = false ∧ ((b.toNat : Int) == 60) = false ∧ ((b.toNat : Int) == 35) = false := by
  rw [beq_iff_eq] at h
  rw [h]
  exact ⟨rfl, rfl, rfl⟩
set_option maxHeartbeats 1000000 in
theorem RunPlan_I (w : World) (A : Option Addr) (n c : Nat) (xs : List Int) (s : ByteArray) (h : Sl (Value.int .i64) w A n xs) (hs : s.size ≤ 1048576) :
    Calls Try.prog 29 #[.slice A n c, .string s] w fun e w' => e = .returned (.tuple #[.string (runPlan xs s).1, .int .i64 (runPlan xs s).2]) ∧ Below w.heap.size w w' := by
  by_cases hok : okStops xs = true
  · have HX := hide (okStops_all hok)
    by_cases hs2 : s.size ≤ 200
    · have HBAD := fun hn => hide (run_bad (s := s) hok hn)
      have HGOOD := fun r hn => hide (run_good (r := r) hok hs2 hn)
      go_enter Try.func29, Try.ntmps29
      go_wp2_with (go_at_call 23; refine (ValidStops_i _ _ _ _ xs h).mono ?_; rintro e w1 ⟨rfl, hb⟩; have hsz := hb.size; obtain ⟨hcw, hfw⟩ := bcell hb)
      have h0 := Coll.empty (e := 5) hb
      go_loopw [6, 7, 8] (fun v a i wr => ∃ (k cn : Nat) (row : List UInt8), k ≤ s.size ∧ cn ≤ 30 ∧ row.length ≤ 30 ∧ i = .int .i64 k ∧ a = .int .i64 cn ∧ Coll w wr 5 v (row.map ub) ∧ runGo xs row cn ((by_ s).drop k) = runGo xs [] 0 (by_ s)) (fun _ _ i _ => s.size - (intOf i).toNat)
      case atStart => exact ⟨0, 0, [], Nat.zero_le _, Nat.zero_le _, Nat.zero_le _, rfl, rfl, h0, by simp⟩
      case round =>
        clear h0 hb hcw hfw hsz
        obtain ⟨k, cn, row, hk, hcn, hrl, rfl, rfl, hco, HR⟩ := hrel
        have hb := hco.below
        by_cases hlt : k < s.size
        · have hx := by_get hlt
          obtain ⟨b, hbk⟩ : ∃ b, s[k] = b := ⟨_, rfl⟩
          rw [hbk] at hx
          have hrun := run_byte hx
          have hltd : decide ((k : Int) < (s.size : Int)) = true := by rw [decide_eq_true_eq]; omega
          rw [drop_get hx] at HR
          clear hx hbk
          by_cases h39 : b = 39
          · have c1 : ((b.toNat : Int) == 39) = true := b_eq (c := 39) h39
            by_cases hlt2 : k + 1 < s.size
            · have hy := by_get hlt2
              obtain ⟨c2, hc⟩ : ∃ c, s[k + 1] = c := ⟨_, rfl⟩
              rw [hc] at hy
              have hrun2 := run_byte hy
              rw [show ((k + 1 : Nat) : Int) = (k : Int) + 1 from by omega] at hrun2
              have hex := hide (ext_one hy)
              rw [drop_get hy, run_quote h39] at HR
              clear hy hc h39
              by_cases hl : ltr c2 = true
              · have hl2 : 33 ≤ (c2.toNat : Int) ∧ (c2.toNat : Int) ≤ 126 := by simpa [ltr] using hl
                obtain ⟨hl3, hl4⟩ := hl2
                by_cases hc30 : cn < 30
                · rw [if_pos ⟨hl, hc30⟩] at HR
                  have HR2 := hide HR
                  clear HR
                  have hlt3 : (k : Int) + 1 + 1 ≤ (s.size : Int) := by omega
                  have c3 : decide ((s.size : Int) ≤ (k : Int) + 1) = false := by rw [decide_eq_false_iff_not]; omega
                  obtain ⟨d1, d2, d3⟩ := q39 c1
                  have hslc : ∀ W : World, (Instr.slice 9 (.string s) (some (.int .i64 ((k : Int) + 1))) (some (.int .i64 ((k : Int) + 1 + 1))) none).run Try.prog W = .ok (.string ⟨#[c2]⟩) W := by
                    intro W
                    rw [run_slice_string_if W 9 s .i64 .i64 _ _ Try.underlying9, if_pos ⟨by omega, by omega⟩, if_pos ⟨by omega, by omega⟩, show ((k : Int) + 1).toNat = k + 1 from by omega, show ((k : Int) + 1 + 1).toNat = k + 1 + 1 from by omega, hex.out]
                  have hone : (⟨#[c2]⟩ : ByteArray).size ≤ 9223372036854775807 := by show 1 ≤ 9223372036854775807; omega
                  have hil : Hid (isLet ⟨#[c2]⟩ = true) := by unfold Hid; rw [isLet_byte]; simpa using hl
                  clear hl hok hl3 hl4
                  go_wp2_with (go_at_call 47; refine (isLetter_any _ _ hone).mono ?_; rintro e w2 ⟨rfl, rfl⟩; rw [hil.out])
                  clear hslc
                  go_loopw [6] (fun v wr => ∃ j : Nat, row.length + j ≤ max row.length (cn + 1) ∧ Coll w wr 5 v ((row ++ List.replicate j 32).map ub)) (fun v _ => cn + 1 - lenV v)
                  case atStart => exact ⟨0, by omega, by simpa using hco⟩
                  case round =>
                    clear hco hb
                    obtain ⟨j, hj, hco⟩ := hrel
                    have hb := hco.below
                    obtain ⟨A2, cp, rfl, hcap, hmax, hsl2⟩ := Sl.of_coll hco
                    have hln : (row ++ List.replicate j (32 : UInt8)).length = row.length + j := by simp
                    rw [hln] at hco hcap hsl2 ⊢
                    by_cases hgo : row.length + j ≤ cn
                    · have hgo2 : ((row.length + j : Nat) : Int) ≤ (cn : Int) := by omega
                      have HRL := hide (show (row ++ List.replicate j (32 : UInt8)) ++ [32] = row ++ List.replicate (j + 1) 32 by rw [List.replicate_succ', List.append_assoc])
                      go_wp2_with (at_builtin; refine Coll.push Try.underlying62 byte_info rfl (by decide) hco rfl (by rw [List.length_map]; omega) rfl _ _ rfl rfl rfl ?_; intro v1 w1 hc1 hg1)
                      go_roundw
                      case rel => exact ⟨j + 1, by omega, by rw [← HRL.out]; simpa [ub] using hc1⟩
                      case measure =>
                        obtain ⟨A3, cp3, rfl, _⟩ := hc1.form
                        simp [lenV]; omega
                    · have hgo2 : ¬ ((row.length + j : Nat) : Int) ≤ (cn : Int) := by omega
                      have hPAD : row ++ List.replicate j (32 : UInt8) = padR row cn := by unfold padR; congr 2; omega
                      have hpl := padR_len row cn
                      rw [hPAD] at hco hln hsl2
                      have hown := hco.own
                      rw [List.length_map, hln] at hown
                      obtain ⟨g, rfl, hgb⟩ := own_form hown (by omega)
                      obtain ⟨d, hd⟩ : ∃ d, (padR row cn)[cn]? = some d := ⟨_, List.getElem?_eq_getElem (by omega)⟩
                      have hcell := hown.cellAt cn (by omega)
                      rw [List.getElem?_map, hd] at hcell
                      have hfr := hown.frozenAt cn
                      have hcell2 : wr.cell? ⟨g, cn, none⟩ = some (.int .u8 (d.toNat : Int)) := hcell
                      have i1 : (cn : Int) < ((row.length + j : Nat) : Int) := by omega
                      clear hcell
                      by_cases hd32 : d = 32
                      · have hdb : ((d.toNat : Int) != 32) = false := bn_eq (c := 32) hd32
                        have HR3 := HR2.out
                        rw [putC, if_pos (hd32 ▸ hd)] at HR3
                        have hst := hown.stored cn (.int .u8 (c2.toNat : Int))
                        have HC : Hid (Coll w (wr.setCell ⟨g, cn, none⟩ (.int .u8 (c2.toNat : Int))) 5 (.slice (some ⟨g, 0, none⟩) (row.length + j) cp) (((padR row cn).set cn c2).map ub)) := by
                          refine ⟨?_, hb.grown hst.2 hb.size (fun q hq => by cases hq; exact hgb)⟩
                          rw [List.length_map, List.length_set, hln, List.map_set]
                          exact hst.1
                        have HLN : Hid (((padR row cn).set cn c2).length ≤ 30) := by unfold Hid; rw [List.length_set]; omega
                        replace HR3 := hide HR3
                        clear hst hown hco hsl2 hd hd32 hPAD hln hpl HR2
                        go_wp2
                        go_roundw
                        case rel => exact ⟨k + 2, cn + 1, _, by omega, by omega, HLN.out, by go_num, by go_num, HC.out, HR3.out⟩
                        case measure => simp [intOf]; omega
                      · have hdb : ((d.toNat : Int) != 32) = true := bn_ne (c := 32) hd32
                        have H2 := HBAD (by rw [← HR2.out, putC, if_neg (by rw [hd]; simpa using hd32)])
                        clear hown hco hsl2 hd hd32 hPAD hln hpl HR2
                        go_wp2
                        go_ret2
                        exact ⟨by rw [H2.out]; rfl, hb⟩
                · rw [if_neg (fun e => hc30 e.2)] at HR
                  have H2 := HBAD HR.symm
                  clear HR
                  have hlt3 : (k : Int) + 1 + 1 ≤ (s.size : Int) := by omega
                  have c3 : decide ((s.size : Int) ≤ (k : Int) + 1) = false := by rw [decide_eq_false_iff_not]; omega
                  obtain ⟨d1, d2, d3⟩ := q39 c1
                  have hslc : ∀ W : World, (Instr.slice 9 (.string s) (some (.int .i64 ((k : Int) + 1))) (some (.int .i64 ((k : Int) + 1 + 1))) none).run Try.prog W = .ok (.string ⟨#[c2]⟩) W := by
                    intro W
                    rw [run_slice_string_if W 9 s .i64 .i64 _ _ Try.underlying9, if_pos ⟨by omega, by omega⟩, if_pos ⟨by omega, by omega⟩, show ((k : Int) + 1).toNat = k + 1 from by omega, show ((k : Int) + 1 + 1).toNat = k + 1 + 1 from by omega, hex.out]
                  have hone : (⟨#[c2]⟩ : ByteArray).size ≤ 9223372036854775807 := by show 1 ≤ 9223372036854775807; omega
                  have hil : Hid (isLet ⟨#[c2]⟩ = true) := by unfold Hid; rw [isLet_byte]; simpa using hl
                  clear hl hok hl3 hl4
                  go_wp2_with (go_at_call 47; refine (isLetter_any _ _ hone).mono ?_; rintro e w2 ⟨rfl, rfl⟩; rw [hil.out])
                  go_ret2
                  exact ⟨by rw [H2.out]; rfl, hb⟩
              · rw [if_neg (fun e => hl e.1)] at HR
                have H2 := HBAD HR.symm
                have hl2 : (c2.toNat : Int) < 33 ∨ 126 < (c2.toNat : Int) := by simp [ltr] at hl; omega
                clear HR
                have hlt3 : (k : Int) + 1 + 1 ≤ (s.size : Int) := by omega
                have c3 : decide ((s.size : Int) ≤ (k : Int) + 1) = false := by rw [decide_eq_false_iff_not]; omega
                obtain ⟨d1, d2, d3⟩ := q39 c1
                have hslc : ∀ W : World, (Instr.slice 9 (.string s) (some (.int .i64 ((k : Int) + 1))) (some (.int .i64 ((k : Int) + 1 + 1))) none).run Try.prog W = .ok (.string ⟨#[c2]⟩) W := by
                  intro W
                  rw [run_slice_string_if W 9 s .i64 .i64 _ _ Try.underlying9, if_pos ⟨by omega, by omega⟩, if_pos ⟨by omega, by omega⟩, show ((k : Int) + 1).toNat = k + 1 from by omega, show ((k : Int) + 1 + 1).toNat = k + 1 + 1 from by omega, hex.out]
                have hone : (⟨#[c2]⟩ : ByteArray).size ≤ 9223372036854775807 := by show 1 ≤ 9223372036854775807; omega
                have hil : Hid (isLet ⟨#[c2]⟩ = false) := by unfold Hid; rw [isLet_byte]; simpa using hl
                clear hl hok hl2
                go_wp2_with (go_at_call 47; refine (isLetter_any _ _ hone).mono ?_; rintro e w2 ⟨rfl, rfl⟩; rw [hil.out])
                go_ret2
                exact ⟨by rw [H2.out]; rfl, hb⟩
            · have e : (by_ s).drop (k + 1) = [] := List.drop_eq_nil_of_le (by rw [by_len]; omega)
              rw [e, run_quote_end h39] at HR
              have H2 := HBAD HR.symm
              have hke : (s.size : Int) = (k : Int) + 1 := by omega
              clear HR h39 e
              obtain ⟨d1, d2, d3⟩ := q39 c1
              have c3 : decide ((s.size : Int) ≤ (k : Int) + 1) = true := by rw [decide_eq_true_eq]; omega
              go_wp2
              go_ret2
              exact ⟨by rw [H2.out]; rfl, hb⟩
          · have c1 : ((b.toNat : Int) == 39) = false := b_ne (c := 39) h39
            have c1' : ((b.toNat : Int) != 39) = true := bn_ne (c := 39) h39
            rw [run_move h39] at HR
            obtain ⟨mv, hm⟩ : ∃ mv, mvTo xs cn b = mv := ⟨_, rfl⟩
            rw [hm] at HR
            clear h39
            cases mv with
            | none =>
              have H2 := HBAD HR.symm
              clear HR
              by_cases hmv : isMv b = true
              · have h3 := mv_three hmv
                have HM := hide hm
                clear hm
                rcases mv_cases hmv with m1 | ⟨m1, m2⟩ | ⟨m1, m2, m3⟩
                · have d1 : ((b.toNat : Int) == 62) = true := b_eq (c := 62) m1
                  clear m1 hmv
                  go_wp2_with (go_at_call 53; refine (moved_any _ _ _ _ xs cn b (h.on hb) (by omega) h3).mono ?_; rintro e w3 ⟨tv, rfl, htv, rfl⟩; rw [HM.out, Option.isSome_none]; clear htv)
                  go_ret2
                  exact ⟨by rw [H2.out]; rfl, hb⟩
                · have d1 : ((b.toNat : Int) == 62) = false := b_ne (c := 62) m1
                  have d2 : ((b.toNat : Int) == 60) = true := b_eq (c := 60) m2
                  clear m1 m2 hmv
                  go_wp2_with (go_at_call 53; refine (moved_any _ _ _ _ xs cn b (h.on hb) (by omega) h3).mono ?_; rintro e w3 ⟨tv, rfl, htv, rfl⟩; rw [HM.out, Option.isSome_none]; clear htv)
                  go_ret2
                  exact ⟨by rw [H2.out]; rfl, hb⟩
                · have d1 : ((b.toNat : Int) == 62) = false := b_ne (c := 62) m1
                  have d2 : ((b.toNat : Int) == 60) = false := b_ne (c := 60) m2
                  have d3 : ((b.toNat : Int) == 35) = true := b_eq (c := 35) m3
                  clear m1 m2 m3 hmv
                  go_wp2_with (go_at_call 53; refine (moved_any _ _ _ _ xs cn b (h.on hb) (by omega) h3).mono ?_; rintro e w3 ⟨tv, rfl, htv, rfl⟩; rw [HM.out, Option.isSome_none]; clear htv)
                  go_ret2
                  exact ⟨by rw [H2.out]; rfl, hb⟩
              · obtain ⟨m1, m2, m3⟩ := mv_not hmv
                have d1 : ((b.toNat : Int) == 62) = false := b_ne (c := 62) m1
                have d2 : ((b.toNat : Int) == 60) = false := b_ne (c := 60) m2
                have d3 : ((b.toNat : Int) == 35) = false := b_ne (c := 35) m3
                clear m1 m2 m3 hmv hm
                go_wp2
                go_ret2
                exact ⟨by rw [H2.out]; rfl, hb⟩
            | some t =>
              have htb := mvTo_bd HX.out (c := (cn : Int)) (by omega) hm
              obtain ⟨tn, rfl⟩ : ∃ tn : Nat, t = tn := ⟨t.toNat, by omega⟩
              have H2 := hide HR
              have i1 : (0 : Int) ≤ (tn : Int) := by omega
              clear HR
              have hmv := mvTo_mv hm
              have h3 := mv_three hmv
              have HM := hide hm
              clear hm
              rcases mv_cases hmv with m1 | ⟨m1, m2⟩ | ⟨m1, m2, m3⟩
              · have d1 : ((b.toNat : Int) == 62) = true := b_eq (c := 62) m1
                clear m1 hmv
                go_wp2_with (go_at_call 53; refine (moved_any _ _ _ _ xs cn b (h.on hb) (by omega) h3).mono ?_; rintro e w3 ⟨tv, rfl, htv, rfl⟩; obtain rfl := htv _ HM.out; rw [HM.out, Option.isSome_some]; clear htv)
                go_roundw
                case rel => exact ⟨k + 1, tn, row, by omega, by omega, hrl, by go_num, by rfl, hco, H2.out⟩
                case measure => simp [intOf]; omega
              · have d1 : ((b.toNat : Int) == 62) = false := b_ne (c := 62) m1
                have d2 : ((b.toNat : Int) == 60) = true := b_eq (c := 60) m2
                clear m1 m2 hmv
                go_wp2_with (go_at_call 53; refine (moved_any _ _ _ _ xs cn b (h.on hb) (by omega) h3).mono ?_; rintro e w3 ⟨tv, rfl, htv, rfl⟩; obtain rfl := htv _ HM.out; rw [HM.out, Option.isSome_some]; clear htv)
                go_roundw
                case rel => exact ⟨k + 1, tn, row, by omega, by omega, hrl, by go_num, by rfl, hco, H2.out⟩
                case measure => simp [intOf]; omega
              · have d1 : ((b.toNat : Int) == 62) = false := b_ne (c := 62) m1
                have d2 : ((b.toNat : Int) == 60) = false := b_ne (c := 60) m2
                have d3 : ((b.toNat : Int) == 35) = true := b_eq (c := 35) m3
                clear m1 m2 m3 hmv
                go_wp2_with (go_at_call 53; refine (moved_any _ _ _ _ xs cn b (h.on hb) (by omega) h3).mono ?_; rintro e w3 ⟨tv, rfl, htv, rfl⟩; obtain rfl := htv _ HM.out; rw [HM.out, Option.isSome_some]; clear htv)
                go_roundw
                case rel => exact ⟨k + 1, tn, row, by omega, by omega, hrl, by go_num, by rfl, hco, H2.out⟩
                case measure => simp [intOf]; omega
        · have e : (by_ s).drop k = [] := List.drop_eq_nil_of_le (by rw [by_len]; omega)
          rw [e, runGo] at HR
          have H2 := HGOOD _ HR.symm
          have hst := hco.str
          clear HR e
          go_wp2
          go_ret2
          exact ⟨by rw [H2.out]; rfl, hb⟩
    · have H2 : Hid (runPlan xs s = (⟨#[]⟩, 7)) := by unfold Hid runPlan; rw [if_pos hok, if_neg hs2]
      go_enter Try.func29, Try.ntmps29
      go_wp2_with (go_at_call 23; refine (ValidStops_i _ _ _ _ xs h).mono ?_; rintro e w1 ⟨rfl, hb⟩; have hsz := hb.size; obtain ⟨hcw, hfw⟩ := bcell hb)
      go_ret2
      exact ⟨by rw [H2.out]; rfl, hb⟩
  · have H2 : Hid (runPlan xs s = (⟨#[]⟩, 1)) := by unfold Hid runPlan; rw [if_neg hok]
    replace hok : okStops xs = false := by simpa using hok
    go_enter Try.func29, Try.ntmps29
    go_wp2_with (go_at_call 23; refine (ValidStops_i _ _ _ _ xs h).mono ?_; rintro e w1 ⟨rfl, hb⟩; have hsz := hb.size; obtain ⟨hcw, hfw⟩ := bcell hb)
    go_ret2
    exact ⟨by rw [H2.out]; rfl, hb⟩
end Go.Proofs.Ytdcbdogcglinkaa
