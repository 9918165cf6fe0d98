/-
  The program's least numbers of moves: the walk of distances.
-/
import Derived.Test.YtdcbdogcglinkaaL11G
import Derived.Lib.SlBytesConst
namespace Go.Proofs.Ytdcbdogcglinkaa
set_option maxRecDepth 100000
open Go.RowKit

def moves3 : List Value := [.int .u8 35, .int .u8 60, .int .u8 62]
theorem moves3_get {j : Nat} (h : j < 3) : moves3[j]? = some (.int .u8 ((mvB j).toNat : Int)) := by
  rcases (by omega : j = 0 ∨ j = 1 ∨ j = 2) with rfl | rfl | rfl <;> rfl
theorem mvB_one (j : Nat) : mvB j = 62 ∨ mvB j = 60 ∨ mvB j = 35 := by
  unfold mvB
  by_cases h0 : j = 0
  · simp [h0]
  · by_cases h1 : j = 1
    · simp [h1]
    · simp [h0, h1]

/-- Block g holds the three moves' bytes. -/
def Mv3 (w : World) (g : Nat) : Prop := w.heap[g]? = some (.cells #[.int .u8 35, .int .u8 60, .int .u8 62] 5 (3, 4))
theorem Mv3.new_ (w : World) : Mv3 (w.alloc (.cells #[.int .u8 35, .int .u8 60, .int .u8 62] 5 (3, 4))) w.heap.size := heap_alloc_new w _
theorem Mv3.lt {w : World} {g : Nat} (h : Mv3 w g) : g < w.heap.size := (Array.getElem?_eq_some_iff.1 h).1
theorem Mv3.on {w w1 : World} {g : Nat} (h : Mv3 w g) (hb : Below w.heap.size w w1) : Mv3 w1 g := (hb.block g h.lt).trans h
theorem Mv3.get {w : World} {g j : Nat} (h : Mv3 w g) (hj : j < 3) : w.cell? ⟨g, j, none⟩ = some (.int .u8 ((mvB j).toNat : Int)) := by
  rw [cell_of_row w g j _ 5 _ h, ← Array.getElem?_toList]
  exact moves3_get hj
theorem Mv3.other {w : World} {g b o : Nat} (h : Mv3 w g) (hne : b ≠ g) (v : Value) : Mv3 (w.setCell ⟨b, o, none⟩ v) g := by
  unfold Mv3 at h ⊢
  simp [World.setCell, Array.getElem?_modify, hne, h]
theorem conv_moves (W : World) : (convert 62 62 (.slice (some ⟨W.heap.size, 0, none⟩) 3 3)).run Try.prog (W.alloc (.cells #[.int .u8 35, .int .u8 60, .int .u8 62] 5)) = .ok (.slice (some ⟨W.heap.size, 0, none⟩) 3 3) (W.alloc (.cells #[.int .u8 35, .int .u8 60, .int .u8 62] 5 (3, 4))) :=
  Lib.run_convert_bytes_const W 62 5 #[.int .u8 35, .int .u8 60, .int .u8 62] 3 3 Try.underlying62 Try.underlying5

set_option maxHeartbeats 1000000 in
theorem distances_any (w : World) (A : Option Addr) (n c : Nat) (xs : List Int) (to : Nat) (h : Sl (Value.int .i64) w A n xs) (hx : ∀ x ∈ xs, 1 ≤ x ∧ x ≤ 30) (hto : to ≤ 30) :
    Calls Try.prog 51 #[.slice A n c, .int .i64 to] w fun e w' => e = .returned (.agg (numI fun q => (dist xs to q : Int)).toArray) ∧ Below w.heap.size w w' := by
  have HX := hide hx
  clear hx
  obtain ⟨zs, hzs⟩ : ∃ zs : List Value, zs = List.replicate 31 (.int .i64 0) := ⟨_, rfl⟩
  have hzb : Hid (Try.prog.built 60 [] = some zs.toArray) := by unfold Hid; rw [hzs]; exact a31_built
  have hzi : Hid ((Try.prog.info? 60).map (·.zero) = some (some (.agg zs.toArray))) := by unfold Hid; rw [hzs]; exact a31_zero
  have hzl : Hid (zs.length = 31) := by unfold Hid; rw [hzs]; rfl
  have hz1 : Hid (∀ v ∈ zs, v.oneCell' = true) := by unfold Hid; rw [hzs]; intro v hv; rw [List.eq_of_mem_replicate hv]; rfl
  have hzn : Hid (zs = numI (fun _ => 0)) := by unfold Hid; rw [hzs, numI_zero]
  clear hzs
  go_enter Try.func51, Try.ntmps51
  go_wp2_with (first
    | (refine Arr.lit hzb.out rfl rfl ?_)
    | (refine Arr.made hzi.out rfl rfl ?_; first | (have hX := hA; intro hA5; clear hX) | intro hA)
    | (refine Arr.put_ hA5 (by rw [hzl.out]; exact a31_size) rfl hz1.out rfl _ _ rfl rfl rfl ?_; intro w2 hA2 hg2))
  have HD : Hid (DW w zs w2 (fun _ => 0)) := by
    have e5 : (w.alloc (Obj.cells zs.toArray 60)).heap.size = w.heap.size + 1 := by simp
    rw [e5] at hA2 hg2
    refine ⟨(hA.lay _).grown hg2 (by simp), by rw [← hzn.out]; exact hA2, ?_⟩
    exact (((Below.refl _ _).alloc (Nat.le_refl _) _).alloc (by go_size) _).grown hg2 (by go_size) (fun q hq => by cases hq; omega)
  clear hA hA5 hA2 hg2 hzb hzi hzn
  go_loopw [15] (fun i wr => ∃ (k : Nat) (z : Nat → Int), k ≤ 31 ∧ i = .int .i64 k ∧ DW w zs wr z ∧ z = fun q => if q < k then -1 else 0) (fun i _ => 31 - (intOf i).toNat)
  case atStart => exact ⟨0, _, Nat.zero_le _, rfl, HD.out, by funext q; simp⟩
  case round =>
    clear HD
    obtain ⟨k, z, hk, rfl, hD, hz⟩ := hrel
    replace hz := hide hz
    by_cases hlt : k < 31
    · have hcell := hD.get hlt
      have hfr := hD.a5.open_ k
      have HP := hide (hD.put hlt (-1))
      have HF : Hid ((fun r => if r = k then -1 else z r) = fun q => if q < k + 1 then -1 else 0) := by
        unfold Hid
        funext r
        rw [hz.out]
        by_cases h1 : r = k
        · rw [if_pos h1, if_pos (by omega)]
        · rw [if_neg h1]
          by_cases h2 : r < k
          · simp only; rw [if_pos h2, if_pos (by omega)]
          · simp only; rw [if_neg h2, if_neg (by omega)]
      replace hD := hide hD
      go_wp2
      go_roundw
      case rel => exact ⟨k + 1, _, by omega, by go_num, HP.out, HF.out⟩
      case measure => simp [intOf]; omega
    · have hcell := hD.get (show to < 31 by omega)
      have hfr := hD.a5.open_ to
      have HP : Hid (DO w zs (wr.setCell ⟨w.heap.size + 1, to, none⟩ (.int .i64 0)) (fun q => if q = to then some 0 else none)) := by
        refine (hD.put (show to < 31 by omega) 0).congr fun q hq => ?_
        rw [hz.out]
        by_cases e : q = to
        · simp [e, oV]
        · simp only; rw [if_neg e, if_pos (by omega), if_neg e]; rfl
      replace hD := hide hD
      go_wp2
      go_loopg [7, 8] 32 (fun gn b r wr => ∃ (f : Nat → Option Nat) (bb : Bool) (rn : Nat), b = .bool bb ∧ r = .int .i64 rn ∧ DO w zs wr f ∧ (bb = true → Known xs to rn f) ∧ (bb = false → (∀ c, c ≤ 30 → ∃ d, f c = some d) ∧ Far xs to (fun c => (f c).getD 0)) ∧ cntN f 31 + (if bb = true then 1 else 0) ≤ gn ∧ rn + cntN f 31 + (if bb = true then 1 else 0) ≤ 32)
      case atStart => exact ⟨_, true, 0, rfl, rfl, HP.out, fun _ => Known.start, (fun e => by cases e), by have := cntN_le (fun q => if q = to then some 0 else none) 31; rw [if_pos rfl]; omega, by have := cntN_le (fun q => if q = to then some 0 else none) 31; rw [if_pos rfl]; omega⟩
      case round =>
        clear HP hcell hfr hD hz
        obtain ⟨f, bb, rn, rfl, rfl, hD, hK, hF, hg1, hg2⟩ := hrel
        cases bb with
        | false =>
          have HF := hide (hF rfl)
          have hZ : Hid (numI (fun q => oV (f q)) = numI fun q => (dist xs to q : Int)) := by
            refine numI_congr fun q hq => ?_
            obtain ⟨d, hd⟩ := HF.out.1 q (by omega)
            have := HF.out.2.unique HX.out (dist_far HX.out hto) (c := q) (by omega)
            simp only [hd, Option.getD_some] at this
            rw [hd, ← this]; rfl
          have HB := hide hD.below
          have HA := hide hD.a4
          have HA5 := hide hD.a5
          clear hK hF hg1 hg2 hD
          go_wp2_with (first
            | (refine Arr.get_ HA5.out Try.underlying60 (by rw [numI_len]; exact a31_size) rfl _ rfl rfl ?_)
            | (refine Arr.put_ HA.out (zs := numI (fun q => oV (f q))) (by rw [numI_len]; exact a31_size) (by rw [numI_len]; exact hzl.out) (fun v hv => by simp [numI] at hv; obtain ⟨_, _, rfl⟩ := hv; rfl) rfl _ _ rfl rfl rfl ?_; intro w3 hA3 hg3))
          refine bodyPost_ret (results_arr rfl hA3 Try.underlying60 (by rw [numI_len]; exact a31_size) rfl) rfl ?_
          exact ⟨by rw [hZ.out], HB.out.grown hg3 HB.out.size (fun q hq => by cases hq; exact Nat.le_refl _)⟩
        | true =>
          rw [if_pos rfl] at hg1 hg2
          obtain ⟨S, hS⟩ : ∃ S, cntN f 31 = S := ⟨_, rfl⟩
          have hSg : S < gk := by omega
          have hr31 : rn + S ≤ 31 := by omega
          have HK := hide (hK rfl)
          have H0 : Hid (Mid xs to rn f f 0 false ∧ cntN f 31 + (if false = true then 1 else 0) ≤ S) := ⟨Mid.start, by rw [hS]; simp⟩
          have HD := hide hD
          clear hK hF hg1 hg2 hS hD
          go_wp2
          go_loopw [7, 26] (fun b i wr => ∃ (q : Nat) (g : Nat → Option Nat) (bb : Bool), q ≤ 31 ∧ i = .int .i64 q ∧ b = .bool bb ∧ DO w zs wr g ∧ Mid xs to rn f g q bb ∧ cntN g 31 + (if bb = true then 1 else 0) ≤ S) (fun _ i _ => 31 - (intOf i).toNat)
          case atStart => exact ⟨0, f, false, Nat.zero_le _, rfl, rfl, HD.out, H0.out.1, H0.out.2⟩
          case round =>
            clear HD H0
            obtain ⟨q, g, bb, hq, rfl, rfl, hD, hM, hC⟩ := hrel
            have HC := hide hC
            clear hC
            by_cases hlt2 : q < 31
            · have hdq : decide ((q : Int) < 31) = true := by rw [decide_eq_true_eq]; omega
              have hcell := DW.get hD hlt2
              have hfr := hD.a5.open_ q
              have hgf := hM.rest q (Nat.le_refl _)
              rw [hgf] at hcell
              clear hgf
              obtain ⟨fq, hfq⟩ : ∃ o, f q = o := ⟨_, rfl⟩
              rw [hfq] at hcell
              cases fq with
              | some d =>
                have HM := hide (hM.known hfq)
                replace hD := hide hD
                simp only [oV] at hcell
                have i1 : (0 : Int) ≤ (d : Int) := by omega
                clear hM hfq
                go_wp2
                go_roundw
                case rel => exact ⟨q + 1, g, bb, by omega, by go_num, rfl, hD.out, HM.out, HC.out⟩
                case measure => simp [intOf]; omega
              | none =>
                simp only [oV] at hcell
                have HL : Hid (Col xs to rn f g q 0 bb false) := ⟨hM, hfq, fun _ i t hi => absurd hi (Nat.not_lt_zero _), fun e => by cases e⟩
                have HV := Mv3.new_ wr
                have HD := hide (DW.lay hD (.cells #[.int .u8 35, .int .u8 60, .int .u8 62] 5 (3, 4)))
                have hcv := conv_moves wr
                have hbl := hD.below.size
                have h4 := hD.a5.lt
                obtain ⟨mg, hmg⟩ : ∃ mg, wr.heap.size = mg := ⟨_, rfl⟩
                rw [hmg] at hcv HV
                replace HV := hide HV
                replace hfq := hide hfq
                clear hM hD
                go_wp2
                clear hcv
                go_loopw [36] (fun i wr => ∃ (j : Nat) (hh : Bool), j ≤ 3 ∧ i = .int .i64 j ∧ DO w zs wr (colF g q rn hh) ∧ Mv3 wr mg ∧ Col xs to rn f g q j bb hh) (fun i _ => 3 - (intOf i).toNat)
                case atStart =>
                  have e : colF g q rn false = g := by funext r; unfold colF; simp
                  exact ⟨0, false, Nat.zero_le _, rfl, by rw [e]; exact HD.out, HV.out, HL.out⟩
                case round =>
                  clear HL HD HV
                  obtain ⟨j, hh, hj, rfl, hD, hV, hC2⟩ := hrel
                  by_cases hlt3 : j < 3
                  · have hmv := hV.get hlt3
                    have hcq := DW.get hD hlt2
                    have hfr := hD.a5.open_ q
                    obtain ⟨mt, hm⟩ : ∃ m, mvTo xs q (mvB j) = m := ⟨_, rfl⟩
                    cases mt with
                    | none =>
                      have HN := hide (hC2.next fun t ht => by rw [hm] at ht; cases ht)
                      have hb := hD.below
                      replace hm := hide hm
                      replace hD := hide hD
                      replace hV := hide hV
                      clear hC2
                      go_wp2_with fail
                      refine (moved_any _ _ _ _ xs q (mvB j) (h.on hb) (by omega) (mvB_one j)).mono ?_
                      rintro e w3 ⟨tv, rfl, htv, rfl⟩
                      rw [hm.out, Option.isSome_none]
                      clear htv
                      go_wp2
                      go_roundw
                      case rel => exact ⟨j + 1, hh, by omega, by go_num, hD.out, hV.out, HN.out⟩
                      case measure => simp [intOf]; omega
                    | some t =>
                      have htb := mvTo_bd HX.out (c := (q : Int)) (by omega) hm
                      obtain ⟨tn, rfl⟩ : ∃ tn : Nat, t = tn := ⟨t.toNat, by omega⟩
                      have ht31 : tn < 31 := by omega
                      have ct := DW.get hD ht31
                      have hrd := hC2.read (t := tn)
                      have i1 : (0 : Int) ≤ (tn : Int) := by omega
                      have i2 : (tn : Int) < 31 := by omega
                      have hb := hD.below
                      by_cases hit : f tn = some rn
                      · rw [hrd.2 hit] at ct
                        simp only [oV] at ct
                        have HN := hide (hC2.hit hm hit (j + 1))
                        have HP := hide (DO.put hD hlt2)
                        have HV2 := hide (hV.other (b := w.heap.size + 1) (o := q) (by omega) (.int .i64 ((rn : Int) + 1)))
                        replace hm := hide hm
                        replace hD := hide hD
                        replace hV := hide hV
                        clear hC2 hrd hit htb
                        go_wp2_with fail
                        refine (moved_any _ _ _ _ xs q (mvB j) (h.on hb) (by omega) (mvB_one j)).mono ?_
                        rintro e w3 ⟨tv, rfl, htv, rfl⟩
                        obtain rfl := htv _ hm.out
                        rw [hm.out, Option.isSome_some]
                        clear htv
                        go_wp2
                        go_roundw
                        case rel => exact ⟨j + 1, true, by omega, by go_num, HP.out, HV2.out, HN.out⟩
                        case measure => simp [intOf]; omega
                      · have hne : (oV (colF g q rn hh tn) == (rn : Int)) = false := by
                          rw [beq_eq_false_iff_ne]
                          intro e
                          exact hit (hrd.1 (oV_eq.1 e))
                        have HN := hide (hC2.next fun t ht => by rw [hm] at ht; cases ht; exact hit)
                        replace hm := hide hm
                        replace hD := hide hD
                        replace hV := hide hV
                        clear hC2 hrd hit htb
                        go_wp2_with fail
                        refine (moved_any _ _ _ _ xs q (mvB j) (h.on hb) (by omega) (mvB_one j)).mono ?_
                        rintro e w3 ⟨tv, rfl, htv, rfl⟩
                        obtain rfl := htv _ hm.out
                        rw [hm.out, Option.isSome_some]
                        clear htv
                        go_wp2
                        go_roundw
                        case rel => exact ⟨j + 1, hh, by omega, by go_num, hD.out, hV.out, HN.out⟩
                        case measure => simp [intOf]; omega
                  · have hj3 : j = 3 := by omega
                    subst hj3
                    have hcq := DW.get hD hlt2
                    have HM := hide hC2.done
                    have HC2 := hide (hC2.count hlt2 HC.out)
                    have hgq : g q = none := by rw [hC2.mid.rest q (Nat.le_refl _)]; exact hC2.fk
                    replace hD := hide hD
                    cases bb with
                    | true =>
                      clear hC2 hgq hcq
                      go_wp2
                      go_roundw
                      case rel => exact ⟨q + 1, _, true, by omega, by go_num, rfl, hD.out, by simpa using HM.out, by simpa using HC2.out⟩
                      case measure => simp [intOf]; omega
                    | false =>
                      cases hh with
                      | true =>
                        have e : colF g q rn true q = some (rn + 1) := by unfold colF; simp
                        rw [e] at hcq
                        simp only [oV] at hcq
                        have i1 : (0 : Int) ≤ ((rn + 1 : Nat) : Int) := by omega
                        clear hC2 hgq e
                        go_wp2
                        go_roundw
                        case rel => exact ⟨q + 1, _, true, by omega, by go_num, rfl, hD.out, by simpa using HM.out, by simpa using HC2.out⟩
                        case measure => simp [intOf]; omega
                      | false =>
                        have e : colF g q rn false q = none := by unfold colF; simp [hgq]
                        rw [e] at hcq
                        simp only [oV] at hcq
                        clear hC2 hgq e
                        go_wp2
                        go_roundw
                        case rel => exact ⟨q + 1, _, false, by omega, by go_num, rfl, hD.out, by simpa using HM.out, by simpa using HC2.out⟩
                        case measure => simp [intOf]; omega
            · have hq31 : q = 31 := by omega
              subst hq31
              have HD := hide hD
              cases bb with
              | true =>
                have HF := hide (hM.finish HK.out)
                have hc2 := HC.out
                rw [if_pos rfl] at hc2
                clear hD hM
                go_wp2
                go_roundg S
                case rel => exact ⟨g, true, rn + 1, rfl, by go_num, HD.out, fun _ => HF.out, (fun e => by cases e), by rw [if_pos rfl]; exact hc2, by rw [if_pos rfl]; omega⟩
                case measure => exact hSg
              | false =>
                have HF := hide (hM.stop hto HX.out HK.out)
                have hc2 := HC.out
                rw [if_neg (by simp)] at hc2
                clear hD hM
                go_wp2
                go_roundg S
                case rel => exact ⟨g, false, rn + 1, rfl, by go_num, HD.out, (fun e => by cases e), fun _ => HF.out, by rw [if_neg (by simp)]; exact hc2, by rw [if_neg (by simp)]; omega⟩
                case measure => exact hSg
end Go.Proofs.Ytdcbdogcglinkaa
