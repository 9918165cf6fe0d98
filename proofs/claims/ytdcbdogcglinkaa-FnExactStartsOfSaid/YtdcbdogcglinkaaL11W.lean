/-
  StartsOf: what it returns by the program.
-/
import Derived.Test.YtdcbdogcglinkaaL11V
import Derived.Test.YtdcbdogcglinkaaArrs
namespace Go.Proofs.Ytdcbdogcglinkaa
set_option maxRecDepth 100000
open Go.RowKit

def bools (f : Nat → Bool) : List Value := (List.range 30).map fun q => .bool (f q)
theorem bools_len (f : Nat → Bool) : (bools f).length = 30 := by simp [bools]
theorem bools_get (f : Nat → Bool) {q : Nat} (h : q < 30) : (bools f)[q]? = some (.bool (f q)) := by
  unfold bools; rw [List.getElem?_map, List.getElem?_range h]; rfl
theorem bools_set (f : Nat → Bool) {q : Nat} (hq : q < 30) : (bools f).set q (.bool true) = bools (fun r => f r || r == q) := by
  apply List.ext_getElem?
  intro r
  rw [List.getElem?_set]
  by_cases hr : q = r
  · subst hr
    rw [if_pos rfl, bools_len, if_pos hq, bools_get _ hq]; simp
  · rw [if_neg hr]
    by_cases hr2 : r < 30
    · rw [bools_get f hr2, bools_get _ hr2, show (r == q) = false from beq_eq_false_iff_ne.2 (fun e => hr e.symm), Bool.or_false]
    · rw [List.getElem?_eq_none (by rw [bools_len]; omega), List.getElem?_eq_none (by rw [bools_len]; omega)]
theorem bools_zero : List.replicate 30 (Value.bool false) = bools (anySt []) := by rfl
theorem b30_zero : (Try.prog.info? 66).map (·.zero) = some (some (.agg (List.replicate 30 (Value.bool false)).toArray)) := by kernel_rfl
theorem b30_built : Try.prog.built 66 [] = some (List.replicate 30 (Value.bool false)).toArray := by kernel_rfl
theorem b30_size : (Try.prog.info? 66).map (·.size) = some 30 := by kernel_rfl
theorem bool_size : (Try.prog.info? 4).map (·.size) = some 1 := by kernel_rfl
theorem run_index_arrB {T e : TypeId} {len : Nat} (hu : Try.prog.underlying T = some (.array len e)) (he : Try.prog.underlying e = some .bool) (hs : (Try.prog.info? e).map (·.size) = some 1)
    {cs : List Value} {i : Nat} {v : Value} (hv : cs[i]? = some v) (hi : i < len) (W : World) :
    (Instr.index T (.agg cs.toArray) (.int .i64 (i : Int))).run Try.prog W = .ok v W := by
  cases hie : Try.prog.info? e with
  | none => simp [hie] at hs
  | some ie =>
    simp [hie] at hs
    simp [Instr.index, asIntOf, run_underlying hu, run_underlying he, part, isAgg, sizeOf, typeInfo, hie, hs, hi, hv]
theorem fromL_step {f : Nat → Bool} {j : Nat} (h : j < 30) : fromL f j (30 - j) = if f j = true then (j : Int) :: fromL f (j + 1) (30 - (j + 1)) else fromL f (j + 1) (30 - (j + 1)) := by
  rw [show 30 - j = (30 - (j + 1)) + 1 from by omega, fromL]

set_option maxHeartbeats 1000000 in
theorem StartsOf_I (w : World) (A : Option Addr) (n c : Nat) (ss : List ByteArray) (h : Sl Value.string w A n ss) (hu : ∀ s ∈ ss, (s.size : Int) ≤ 1048576) :
    Calls Try.prog 31 #[.slice A n c] w fun e w' => ∃ v, e = .returned (.tuple #[v, .int .i64 (startsOf ss).2]) ∧ Coll w w' 2 v ((startsOf ss).1.map (Value.int .i64)) := by
  have hn := h.max
  replace hu := hide hu
  by_cases h0 : rowsC ss = 0
  · have HR : Hid (startsOf ss = (fromL (anySt ss) 0 30, 0)) := by unfold Hid startsOf; rw [if_pos h0]
    obtain ⟨q1, q2, q3⟩ := rowsC_ok h0
    rw [h.len] at q1
    have HS := hide q2
    replace h0 := hide h0
    clear q2 q3
    obtain ⟨zs, hzs⟩ : ∃ zs : List Value, zs = List.replicate 30 (.bool false) := ⟨_, rfl⟩
    have hzb : Hid (Try.prog.built 66 [] = some zs.toArray) := by unfold Hid; rw [hzs]; exact b30_built
    have hzi : Hid ((Try.prog.info? 66).map (·.zero) = some (some (.agg zs.toArray))) := by unfold Hid; rw [hzs]; exact b30_zero
    have hzl : Hid (zs.length = 30) := by unfold Hid; rw [hzs]; rfl
    have hz1 : Hid (∀ v ∈ zs, v.oneCell' = true) := by unfold Hid; rw [hzs]; intro v hv; rw [List.eq_of_mem_replicate hv]; rfl
    have hzn : Hid (zs = bools (anySt (ss.take 0))) := by unfold Hid; rw [hzs, bools_zero]; rfl
    clear hzs
    go_enter Try.func31, Try.ntmps31
    go_wp2_with (first
      | (go_at_call 41; refine (rowsCode_any _ _ _ _ ss h hu.out).mono ?_; rintro e w2 ⟨rfl, rfl⟩; rw [h0.out])
      | (refine Arr.lit hzb.out rfl rfl ?_)
      | (refine Arr.made hzi.out rfl rfl ?_; intro hA)
      | (refine Arr.put_ hA (by rw [hzl.out]; exact b30_size) rfl hz1.out rfl _ _ rfl rfl rfl ?_; intro w2 hA2 hg2))
    have hB2 : Hid (Below w.heap.size w w2) := ((Below.refl _ _).alloc (Nat.le_refl _) _).grown hg2 (by go_size) (fun q hq => by cases hq; exact Nat.le_refl _)
    have hA3 : Hid (Arr w2 w.heap.size 66 (bools (anySt (ss.take 0)))) := by unfold Hid; rw [← hzn.out]; exact hA2
    clear hA hA2 hg2 hzb hzi hzl hz1 hzn
    go_loopw [20] (fun i wr => ∃ k : Nat, k ≤ n ∧ i = .int .i64 k ∧ Below w.heap.size w wr ∧ Arr wr w.heap.size 66 (bools (anySt (ss.take k)))) (fun i _ => n - (intOf i).toNat)
    case atStart => exact ⟨0, Nat.zero_le _, rfl, hB2.out, hA3.out⟩
    case round =>
      clear hB2 hA3
      obtain ⟨k, hk, rfl, hb, hA⟩ := hrel
      by_cases hlt : k < n
      · obtain ⟨b, o, s, rfl, hxk, hc⟩ := h.at_ hb hlt
        have hltd : decide ((k : Int) < (n : Int)) = true := by rw [decide_eq_true_eq]; omega
        have hs30 := HS.out _ (List.mem_of_getElem? hxk)
        have HK := hide hxk
        clear hxk
        go_wp2
        go_loopw [26] (fun i wr => ∃ j : Nat, j ≤ s.size ∧ i = .int .i64 j ∧ Below w.heap.size w wr ∧ Arr wr w.heap.size 66 (bools (seenSt ss k s j))) (fun i _ => s.size - (intOf i).toNat)
        case atStart => exact ⟨0, Nat.zero_le _, rfl, hb, by rw [seenSt_zero]; exact hA⟩
        case round =>
          clear hA hc hb
          obtain ⟨j, hj, rfl, hb, hA⟩ := hrel
          by_cases hlt2 : j < s.size
          · have hxj := by_get hlt2
            obtain ⟨d, hd⟩ : ∃ d, s[j] = d := ⟨_, rfl⟩
            rw [hd] at hxj
            have hrun := run_byte hxj
            have hlt2d : decide ((j : Int) < (s.size : Int)) = true := by rw [decide_eq_true_eq]; omega
            have hcell := hA.cell j
            rw [bools_get _ (show j < 30 by omega)] at hcell
            have hfr := hA.open_ j
            clear hd
            by_cases h32 : d = 32
            · have HN : Hid (seenSt ss k s j = seenSt ss k s (j + 1)) := seenSt_no (isSt_blank (h32 ▸ hxj))
              have hcb : ((d.toNat : Int) != 32) = false := bn_eq (c := 32) h32
              replace hA := hide hA
              clear hxj h32 hcell hfr
              go_wp2
              go_roundw
              case rel => exact ⟨j + 1, by omega, by go_num, hb, by rw [← HN.out]; exact hA.out⟩
              case measure => simp [intOf]; omega
            · have hcb : ((d.toNat : Int) != 32) = true := bn_ne (c := 32) h32
              have HP := hA.set_ j (.bool true)
              rw [bools_set _ (show j < 30 by omega)] at HP
              replace hA := hide hA
              by_cases hj0 : j = 0
              · have hi : isSt s j = true := by subst hj0; exact isSt_first hxj h32
                have hjd : ((j : Int) == 0) = true := by simp [hj0]
                rw [seenSt_yes hi] at HP
                replace HP := hide HP
                clear hi hj0 h32 hxj
                go_wp2
                go_roundw
                case rel => exact ⟨j + 1, by omega, by go_num, hb.setCell (Nat.le_refl _) _, HP.out⟩
                case measure => simp [intOf]; omega
              · have hxp := by_get (show j - 1 < s.size by omega)
                obtain ⟨p, hp⟩ : ∃ p, s[j - 1] = p := ⟨_, rfl⟩
                rw [hp] at hxp
                have hrunp := run_byte hxp
                rw [show ((j - 1 : Nat) : Int) = (j : Int) - 1 from by omega] at hrunp
                have hjd : ((j : Int) == 0) = false := beq_eq_false_iff_ne.2 (by omega)
                have hi := isSt_in hxj h32 hj0 hxp
                by_cases hp32 : p = 32
                · rw [hp32] at hi
                  have hpb : ((p.toNat : Int) == 32) = true := b_eq (c := 32) hp32
                  rw [seenSt_yes (by rw [hi]; rfl)] at HP
                  replace HP := hide HP
                  clear hi hj0 h32 hxj hxp hp hp32
                  go_wp2
                  go_roundw
                  case rel => exact ⟨j + 1, by omega, by go_num, hb.setCell (Nat.le_refl _) _, HP.out⟩
                  case measure => simp [intOf]; omega
                · have hpb : ((p.toNat : Int) == 32) = false := b_ne (c := 32) hp32
                  have HN : Hid (seenSt ss k s j = seenSt ss k s (j + 1)) := seenSt_no (by rw [hi]; exact beq_eq_false_iff_ne.2 hp32)
                  clear hi hj0 h32 hxj hxp hp hp32 HP hcell hfr
                  go_wp2
                  go_roundw
                  case rel => exact ⟨j + 1, by omega, by go_num, hb, by rw [← HN.out]; exact hA.out⟩
                  case measure => simp [intOf]; omega
          · have HN := hide (seenSt_end HK.out hlt2)
            go_wp2
            go_roundw
            case rel => exact ⟨k + 1, by omega, by go_num, hb, by rw [← HN.out]; exact hA⟩
            case measure => simp [intOf]; omega
      · have HE : Hid (ss.take k = ss) := by unfold Hid; rw [List.take_of_length_le (by rw [h.len]; omega)]
        rw [HE.out] at hA
        have h0 := Coll.empty (e := 2) hb
        go_wp2_with (refine Arr.get_ (hA.lay _) Try.underlying66 (by rw [bools_len]; exact b30_size) rfl _ rfl rfl ?_)
        go_loopw [9, 50] (fun v i wr => ∃ (q : Nat) (acc : List Int), q ≤ 30 ∧ i = .int .i64 q ∧ acc.length ≤ q ∧ Coll w wr 2 v (acc.map (Value.int .i64)) ∧ acc ++ fromL (anySt ss) q (30 - q) = fromL (anySt ss) 0 30) (fun _ i _ => 30 - (intOf i).toNat)
        case atStart => exact ⟨0, [], Nat.zero_le _, rfl, Nat.zero_le _, h0, rfl⟩
        case round =>
          clear h0 hb hA
          obtain ⟨q, acc, hq, rfl, hal, hco, hF⟩ := hrel
          by_cases hlt2 : q < 30
          · have hix := run_index_arrB Try.underlying66 Try.underlying4 bool_size (bools_get (anySt ss) hlt2) hlt2
            rw [fromL_step hlt2] at hF
            obtain ⟨z, hz⟩ : ∃ z, anySt ss q = z := ⟨_, rfl⟩
            rw [hz] at hF hix
            cases z with
            | true =>
              rw [if_pos rfl] at hF
              have HF : Hid ((acc ++ [(q : Int)]) ++ fromL (anySt ss) (q + 1) (30 - (q + 1)) = fromL (anySt ss) 0 30) := by unfold Hid; rw [← hF]; simp
              clear hF hz
              go_wp2_with (at_builtin; refine Coll.push Try.underlying24 int64_info rfl (by decide) hco rfl (by rw [List.length_map]; omega) rfl _ _ rfl rfl rfl ?_; intro v1 w1 hc1 hg1)
              go_roundw
              case rel => exact ⟨q + 1, acc ++ [(q : Int)], by omega, by go_num, by simp; omega, by simpa using hc1, HF.out⟩
              case measure => simp [intOf]; omega
            | false =>
              rw [if_neg (by simp)] at hF
              have HF := hide hF
              clear hF hz
              go_wp2
              go_roundw
              case rel => exact ⟨q + 1, acc, by omega, by go_num, by omega, hco, HF.out⟩
              case measure => simp [intOf]; omega
          · have HF : Hid (acc = fromL (anySt ss) 0 30) := by
              have : 30 - q = 0 := by omega
              rw [this, fromL, List.append_nil] at hF
              exact hF
            clear hF
            go_wp2
            go_ret2
            exact ⟨_, by rw [HR.out]; rfl, by rw [HR.out, ← HF.out]; exact hco⟩
  · have HR : Hid (startsOf ss = ([], rowsC ss)) := by unfold Hid startsOf; rw [if_neg h0]
    have hnil : Coll w w 2 (.slice none 0 0) [] := Coll.nil_ (Below.refl _ _)
    rcases rowsC_bad h0 with ⟨k0, k1⟩ | ⟨k0, k1, k2⟩
    all_goals
      rw [k0] at HR
      replace k0 := hide k0
      clear h0 k1
      go_enter Try.func31, Try.ntmps31
      go_wp2_with (go_at_call 41; refine (rowsCode_any _ _ _ _ ss h hu.out).mono ?_; rintro e w2 ⟨rfl, rfl⟩; rw [k0.out])
      go_ret2
      exact ⟨_, by rw [HR.out]; rfl, by rw [HR.out]; exact hnil⟩
end Go.Proofs.Ytdcbdogcglinkaa
