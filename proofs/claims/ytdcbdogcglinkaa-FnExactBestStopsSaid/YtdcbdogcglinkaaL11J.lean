/-
  The least moves, by the reference and by the program.
-/
import Derived.Test.YtdcbdogcglinkaaL11I
import Derived.Test.YtdcbdogcglinkaaBytes
namespace Go.Proofs.Ytdcbdogcglinkaa
set_option maxRecDepth 100000
open Go.RowKit

def ms3 : List UInt8 := [35, 60, 62]
theorem ms3_drop {j : Nat} (h : j < 3) : ms3.drop j = mvB j :: ms3.drop (j + 1) := by
  rcases (by omega : j = 0 ∨ j = 1 ∨ j = 2) with rfl | rfl | rfl <;> rfl
theorem nextMv_hit {xs : List Int} {F : Nat → Nat} {c t j : Nat} (hj : j < 3) (h : tryMv xs F c (mvB j) = some t) : nextMv xs F c (ms3.drop j) = some (mvB j, t) := by
  rw [ms3_drop hj, nextMv, h]
theorem nextMv_miss {xs : List Int} {F : Nat → Nat} {c j : Nat} (hj : j < 3) (h : tryMv xs F c (mvB j) = none) : nextMv xs F c (ms3.drop j) = nextMv xs F c (ms3.drop (j + 1)) := by
  rw [ms3_drop hj, nextMv, h]
/-- What has been written, and what is still to be. -/
def PlanAt11 (xs : List Int) (F : Nat → Nat) (fr c : Nat) (acc : List UInt8) : Prop := acc ++ planN xs F (F c) c = planN xs F (F fr) fr
theorem PlanAt11.next {xs : List Int} (hx : ∀ x ∈ xs, 1 ≤ x ∧ x ≤ 30) {F : Nat → Nat} {fr c t : Nat} {m : UInt8} {acc : List UInt8} (h : PlanAt11 xs F fr c acc) (hc : c ≤ 30) (hn : nextMv xs F c ms3 = some (m, t)) : PlanAt11 xs F fr t (acc ++ [m]) := by
  unfold PlanAt11 at h ⊢
  rw [← h, planN_step hx hc hn]; simp

/-- The distances can be read at block g. -/
def FarAt (w : World) (g : Nat) (F : Nat → Nat) : Prop := g < w.heap.size ∧ ∀ q, q < 31 → w.cell? ⟨g, q, none⟩ = some (.int .i64 (F q : Int))
theorem FarAt.on {w w1 : World} {g : Nat} {F : Nat → Nat} (h : FarAt w g F) (hb : Below w.heap.size w w1) : FarAt w1 g F :=
  ⟨Nat.lt_of_lt_of_le h.1 hb.size, fun q hq => (hb.cell (p := ⟨g, q, none⟩) h.1).trans (h.2 q hq)⟩
theorem Own31.far {base : Nat} {w : World} {g : Nat} {f : Nat → Nat} (h : Own31 base w g f) : FarAt w g f := ⟨(h.lt g rfl).2, fun _ hq => h.get hq⟩

set_option maxHeartbeats 1000000 in
theorem l11Moves_any (w : World) (A : Option Addr) (n c : Nat) (xs : List Int) (g : Nat) (to fr : Nat) (F : Nat → Nat) (h : Sl (Value.int .i64) w A n xs) (hx : ∀ x ∈ xs, 1 ≤ x ∧ x ≤ 30) (hto : to ≤ 30) (hF : Far xs to F) (hA : FarAt w g F) (hfr : fr ≤ 30) :
    Calls Try.prog 55 #[.slice A n c, .slice (some ⟨g, 0, none⟩) 31 31, .int .i64 fr] w fun e w' => e = .returned (.string (mkB (planN xs F (F fr) fr))) ∧ Below w.heap.size w w' := by
  have HX := hide hx
  have HF := hide hF
  have h0 := Coll.empty (e := 5) (Below.refl w.heap.size w)
  clear hx hF
  go_enter Try.func55, Try.ntmps55
  go_wp2
  go_loopw [7, 8] (fun v i wr => ∃ (q : Nat) (acc : List UInt8), q ≤ 30 ∧ i = .int .i64 q ∧ Coll w wr 5 v (acc.map ub) ∧ acc.length ≤ 30 ∧ PlanAt11 xs F fr q acc) (fun _ i _ => F (intOf i).toNat)
  case atStart => exact ⟨fr, [], hfr, rfl, h0, Nat.zero_le _, by simp [PlanAt11]⟩
  case round =>
    clear h0
    obtain ⟨q, acc, hq, rfl, hco, hal, hP⟩ := hrel
    have hcq := (hA.on hco.below).2 q (by omega)
    replace hP := hide hP
    by_cases h0 : F q = 0
    · have HP : Hid (acc = planN xs F (F fr) fr) := by
        have := hP.out
        unfold PlanAt11 at this
        rw [h0, planN, List.append_nil] at this
        exact this
      rw [h0] at hcq
      have hst := hco.str
      clear h0
      go_wp2
      go_ret
      exact ⟨by rw [← HP.out]; rfl, hco.below⟩
    · have hpos : (0 : Int) < (F q : Int) := by omega
      have hposn : decide (0 < F q) = true := by rw [decide_eq_true_eq]; omega
      obtain ⟨m, t, hn⟩ := nextMv_some HF.out hq (by omega)
      obtain ⟨_, _, hft, ht30⟩ := nextMv_form HX.out hq _ hn
      have HN := hide hn
      have HNN := HN
      have HL : Hid (acc.length + 1 ≤ 30) := by
        have h1 := congrArg List.length hP.out
        rw [List.length_append, planN_len HX.out HF.out _ q hq rfl, planN_len HX.out HF.out _ fr hfr rfl] at h1
        have := HF.out.le30 hto hfr
        unfold Hid; omega
      clear hn h0
      go_wp2
      go_loopw [7, 8, 9] (fun v ci i wr => ∃ j : Nat, j ≤ 3 ∧ i = .int .i64 j ∧ ci = .int .i64 q ∧ Coll w wr 5 v (acc.map ub) ∧ nextMv xs F q (ms3.drop j) = some (m, t)) (fun _ _ i _ => 3 - (intOf i).toNat)
      case atStart => exact ⟨0, Nat.zero_le _, rfl, rfl, hco, HN.out⟩
      case round =>
        clear hco hcq HN
        obtain ⟨j, hj, rfl, rfl, hco, hn⟩ := hrel
        have hb := hco.below
        have hj3 : j < 3 := by
          rcases Nat.lt_or_ge j 3 with e | e
          · exact e
          · have : j = 3 := by omega
            subst this
            cases hn
        have hmb := moves_byte j hj3
        have hcq := (hA.on hb).2 q (by omega)
        obtain ⟨mv, hm⟩ : ∃ mv, mvTo xs q (mvB j) = mv := ⟨_, rfl⟩
        cases mv with
        | none =>
          rw [nextMv_miss hj3 (tryMv_none hm)] at hn
          have HN := hide hn
          replace hm := hide hm
          clear hn hcq
          go_wp2_with fail
          refine (l11Next_any _ _ _ _ xs q (mvB j) (h.on hb) HX.out (by omega)).mono ?_
          rintro e w2 ⟨rfl, rfl⟩
          rw [hm.out]
          go_wp2
          go_quiet (fail)
          go_wp2
          go_roundw
          case rel => exact ⟨j + 1, by omega, by go_num, rfl, hco.draw _, HN.out⟩
          case measure => simp [intOf]; omega
        | some tz =>
          have htb := mvTo_bd HX.out (c := (q : Int)) (by omega) hm
          obtain ⟨tn, rfl⟩ : ∃ tn : Nat, tz = tn := ⟨tz.toNat, by omega⟩
          have ct := (hA.on hb).2 tn (by omega)
          have i1 : (0 : Int) ≤ (tn : Int) := by omega
          have i2 : (tn : Int) < 31 := by omega
          have i3 : (0 : Int) ≤ (q : Int) := by omega
          have i4 : (q : Int) < 31 := by omega
          have l1 := HF.out.le30 hto hq
          have l2 := HF.out.le30 hto (c := tn) (by omega)
          by_cases hit : F tn + 1 = F q
          · have e := tryMv_yes hm hit
            rw [nextMv_hit hj3 e] at hn
            obtain ⟨rfl, rfl⟩ : mvB j = m ∧ tn = t := by simpa using hn
            have hv1 : ((F tn : Int) + 1 == (F q : Int)) = true := by rw [beq_iff_eq]; omega
            have HM : Hid (F tn < F q) := by unfold Hid; omega
            have HP := fun (hn2 : nextMv xs F q ms3 = some (mvB j, tn)) => hide (hP.out.next HX.out hq hn2)
            replace hm := hide hm
            clear hn e hit hft
            go_wp2_with fail
            refine (l11Next_any _ _ _ _ xs q (mvB j) (h.on hb) HX.out (by omega)).mono ?_
            rintro e w2 ⟨rfl, rfl⟩
            rw [hm.out]
            go_wp2
            go_quiet (fail)
            go_wp2_with (at_builtin; refine Coll.push Try.underlying62 byte_info rfl (by decide) (hco.draw nq) rfl (by rw [List.length_map]; omega) rfl _ _ rfl rfl rfl ?_; intro v1 w1 hc1 hg1)
            go_roundw
            case rel => exact ⟨tn, acc ++ [mvB j], by omega, rfl, by simpa [ub] using hc1, by simp; have := HL.out; omega, (HP HNN.out).out⟩
            case measure => simp [intOf]; exact HM.out
          · have hv1 : ((F tn : Int) + 1 == (F q : Int)) = false := by rw [beq_eq_false_iff_ne]; omega
            rw [nextMv_miss hj3 (tryMv_no hm hit)] at hn
            have HN := hide hn
            replace hm := hide hm
            clear hn hit
            go_wp2_with fail
            refine (l11Next_any _ _ _ _ xs q (mvB j) (h.on hb) HX.out (by omega)).mono ?_
            rintro e w2 ⟨rfl, rfl⟩
            rw [hm.out]
            go_wp2
            go_quiet (fail)
            go_wp2
            go_roundw
            case rel => exact ⟨j + 1, by omega, by go_num, rfl, hco.draw _, HN.out⟩
            case measure => simp [intOf]; omega

set_option maxHeartbeats 1000000 in
theorem planBetween_any (w : World) (A : Option Addr) (n c : Nat) (xs : List Int) (to fr : Nat) (h : Sl (Value.int .i64) w A n xs) (hx : ∀ x ∈ xs, 1 ≤ x ∧ x ≤ 30) (hto : to ≤ 30) (hfr : fr ≤ 30) :
    Calls Try.prog 56 #[.slice A n c, .int .i64 fr, .int .i64 to] w fun e w' => e = .returned (.string (mkB (planOf xs to fr))) ∧ Below w.heap.size w w' := by
  have HX := hide hx
  have HF := hide (dist_far hx hto)
  clear hx
  obtain ⟨F, hFd⟩ : ∃ F, dist xs to = F := ⟨_, rfl⟩
  have HFD := hide hFd
  rw [hFd] at HF
  clear hFd
  obtain ⟨zs, hzs⟩ : ∃ zs : List Value, zs = List.replicate 31 (.int .i64 0) := ⟨_, rfl⟩
  have hzi : Hid ((Try.prog.info? 60).map (·.zero) = some (some (.agg zs.toArray))) := by unfold Hid; rw [hzs]; exact a31_zero
  have hzl : Hid (zs.length = 31) := by unfold Hid; rw [hzs]; rfl
  clear hzs
  go_enter Try.func56, Try.ntmps56
  go_wp2_with fail
  refine (distances_any _ _ _ _ xs to h HX.out hto).mono ?_
  rintro e w1 ⟨rfl, hb1⟩
  rw [HFD.out]
  obtain ⟨ys, hys⟩ : ∃ ys, ys = numI (fun q => (F q : Int)) := ⟨_, rfl⟩
  have hyl : Hid (ys.length = 31) := by unfold Hid; rw [hys, numI_len]
  have hy1 : Hid (∀ v ∈ ys, v.oneCell' = true) := by unfold Hid; rw [hys]; intro v hv; simp [numI] at hv; obtain ⟨_, _, rfl⟩ := hv; rfl
  have hyn := hide hys
  rw [← hys]
  clear hys
  go_wp2_with (first
    | (refine Arr.made hzi.out rfl rfl ?_; intro hA)
    | (refine Arr.put_ hA (by rw [hyl.out]; exact a31_size) (by rw [hyl.out]; exact hzl.out) hy1.out rfl _ _ rfl rfl rfl ?_; intro w2 hA2 hg2))
  have hB2 : Below w.heap.size w w2 := Below.step hb1 (((Below.refl _ _).alloc (Nat.le_refl _) _).grown hg2 (by go_size) (fun q hq => by cases hq; exact Nat.le_refl _))
  have hFA : FarAt w2 w1.heap.size F := ⟨hA2.lt, fun q hq => by rw [hA2.cell q, hyn.out, numI_get _ hq]⟩
  have hSl := h.on hB2
  have h0 := Coll.empty (e := 5) (Below.refl w2.heap.size w2)
  have hgl := hA2.lt
  obtain ⟨g, hg⟩ : ∃ g, w1.heap.size = g := ⟨_, rfl⟩
  rw [hg] at hFA hgl ⊢
  have HE := hide (HFD.out ▸ rfl : planOf xs to fr = planN xs F (F fr) fr)
  clear hA hA2 hg2 hyl hy1 hyn hzi hzl hg
  go_loopw [1, 8] (fun i v wr => ∃ (q : Nat) (acc : List UInt8), q ≤ 30 ∧ i = .int .i64 q ∧ Coll w2 wr 5 v (acc.map ub) ∧ acc.length ≤ 30 ∧ PlanAt11 xs F fr q acc) (fun i _ _ => F (intOf i).toNat)
  case atStart => exact ⟨fr, [], hfr, rfl, h0, Nat.zero_le _, by simp [PlanAt11]⟩
  case round =>
    clear h0
    obtain ⟨q, acc, hq, rfl, hco, hal, hP⟩ := hrel
    replace hP := hide hP
    by_cases hqt : q = to
    · have h0 : F q = 0 := by rw [hqt]; exact HF.out.zero
      have HP : Hid (acc = planN xs F (F fr) fr) := by
        have := hP.out
        unfold PlanAt11 at this
        rw [h0, planN, List.append_nil] at this
        exact this
      have hne : ((q : Int) != (to : Int)) = false := by simp [hqt]
      have hst := hco.str
      clear h0 hqt
      go_wp2
      go_ret
      exact ⟨by rw [HE.out, ← HP.out]; rfl, Below.step hB2 hco.below⟩
    · have hpos : 0 < F q := by
        obtain ⟨_, _, e⟩ := HF.out.has q hq hqt
        omega
      have hne : ((q : Int) != (to : Int)) = true := by simp; omega
      obtain ⟨m, t, hn⟩ := nextMv_some HF.out hq hpos
      obtain ⟨_, _, hft, ht30⟩ := nextMv_form HX.out hq _ hn
      have HN := hide hn
      have HNN := HN
      have HL : Hid (acc.length + 1 ≤ 30) := by
        have h1 := congrArg List.length hP.out
        rw [List.length_append, planN_len HX.out HF.out _ q hq rfl, planN_len HX.out HF.out _ fr hfr rfl] at h1
        have := HF.out.le30 hto hfr
        unfold Hid; omega
      have HV := Mv3.new_ wr
      have HD := hide (hco.lay (.cells #[.int .u8 35, .int .u8 60, .int .u8 62] 5 (3, 4)))
      have hcv := conv_moves wr
      have hbl := hco.below.size
      obtain ⟨mg, hmg⟩ : ∃ mg, wr.heap.size = mg := ⟨_, rfl⟩
      rw [hmg] at hcv HV hbl
      replace HV := hide HV
      clear hn hqt
      go_wp2
      clear hcv
      go_loopw [1, 8, 23] (fun ci v i wr => ∃ j : Nat, j ≤ 3 ∧ i = .int .i64 j ∧ ci = .int .i64 q ∧ Coll w2 wr 5 v (acc.map ub) ∧ Mv3 wr mg ∧ nextMv xs F q (ms3.drop j) = some (m, t)) (fun _ _ i _ => 3 - (intOf i).toNat)
      case atStart => exact ⟨0, Nat.zero_le _, rfl, rfl, HD.out, HV.out, HN.out⟩
      case round =>
        clear HD HV HN hco hmg hbl
        obtain ⟨j, hj, rfl, rfl, hco, hV, hn⟩ := hrel
        have hb := hco.below
        have hj3 : j < 3 := by
          rcases Nat.lt_or_ge j 3 with e | e
          · exact e
          · have : j = 3 := by omega
            subst this
            cases hn
        have hmb := hV.get hj3
        have hcq := (hFA.on hb).2 q (by omega)
        obtain ⟨mv, hm⟩ : ∃ mv, mvTo xs q (mvB j) = mv := ⟨_, rfl⟩
        replace hV := hide hV
        cases mv with
        | none =>
          rw [nextMv_miss hj3 (tryMv_none hm)] at hn
          have HN := hide hn
          replace hm := hide hm
          clear hn hcq
          go_wp2_with fail
          refine (moved_any _ _ _ _ xs q (mvB j) (hSl.on hb) (by omega) (mvB_one j)).mono ?_
          rintro e w3 ⟨tv, rfl, htv, rfl⟩
          rw [hm.out, Option.isSome_none]
          clear htv
          go_wp2
          go_quiet (fail)
          go_wp2
          go_roundw
          case rel => exact ⟨j + 1, by omega, by go_num, rfl, hco.draw _, hV.out, HN.out⟩
          case measure => simp [intOf]; omega
        | some tz =>
          have htb := mvTo_bd HX.out (c := (q : Int)) (by omega) hm
          obtain ⟨tn, rfl⟩ : ∃ tn : Nat, tz = tn := ⟨tz.toNat, by omega⟩
          have ct := (hFA.on hb).2 tn (by omega)
          have i1 : (0 : Int) ≤ (tn : Int) := by omega
          have i2 : (tn : Int) < 31 := by omega
          have i3 : (0 : Int) ≤ (q : Int) := by omega
          have i4 : (q : Int) < 31 := by omega
          have l1 := HF.out.le30 hto hq
          have l2 := HF.out.le30 hto (c := tn) (by omega)
          by_cases hit : F tn + 1 = F q
          · have e := tryMv_yes hm hit
            rw [nextMv_hit hj3 e] at hn
            obtain ⟨rfl, rfl⟩ : mvB j = m ∧ tn = t := by simpa using hn
            have hv1 : ((F tn : Int) == (F q : Int) - 1) = true := by rw [beq_iff_eq]; omega
            have HM : Hid (F tn < F q) := by unfold Hid; omega
            have HP := fun (hn2 : nextMv xs F q ms3 = some (mvB j, tn)) => hide (hP.out.next HX.out hq hn2)
            replace hm := hide hm
            clear hn e hit hft
            go_wp2_with fail
            refine (moved_any _ _ _ _ xs q (mvB j) (hSl.on hb) (by omega) (mvB_one j)).mono ?_
            rintro e w3 ⟨tv, rfl, htv, rfl⟩
            obtain rfl := htv _ hm.out
            rw [hm.out, Option.isSome_some]
            clear htv
            go_wp2
            go_quiet (fail)
            go_wp2_with (at_builtin; refine Coll.push Try.underlying62 byte_info rfl (by decide) (hco.draw nq) rfl (by rw [List.length_map]; omega) rfl _ _ rfl rfl rfl ?_; intro v1 w1 hc1 hg1)
            go_roundw
            case rel => exact ⟨tn, acc ++ [mvB j], by omega, rfl, by simpa [ub] using hc1, by simp; have := HL.out; omega, (HP HNN.out).out⟩
            case measure => simp [intOf]; exact HM.out
          · have hv1 : ((F tn : Int) == (F q : Int) - 1) = false := by rw [beq_eq_false_iff_ne]; omega
            rw [nextMv_miss hj3 (tryMv_no hm hit)] at hn
            have HN := hide hn
            replace hm := hide hm
            clear hn hit
            go_wp2_with fail
            refine (moved_any _ _ _ _ xs q (mvB j) (hSl.on hb) (by omega) (mvB_one j)).mono ?_
            rintro e w3 ⟨tv, rfl, htv, rfl⟩
            obtain rfl := htv _ hm.out
            rw [hm.out, Option.isSome_some]
            clear htv
            go_wp2
            go_quiet (fail)
            go_wp2
            go_roundw
            case rel => exact ⟨j + 1, by omega, by go_num, rfl, hco.draw _, hV.out, HN.out⟩
            case measure => simp [intOf]; omega
end Go.Proofs.Ytdcbdogcglinkaa
