/-
  WornPlaces of the program: what it returns, for all arguments.
-/
import Derived.Test.YtokdbkkjneadgaaL12T
import Derived.Test.YtokdbkkjneadgaaArrs
namespace Go.Proofs.Ytokdbkkjneadgaa
set_option maxRecDepth 100000
open Go.RowKit



theorem worn_zero : (Try.prog.info? 80).map (·.zero) = some (some (.agg (List.replicate 60 (Value.int .i64 0)).toArray)) := by kernel_rfl
theorem worn_built : Try.prog.built 80 [] = some (List.replicate 60 (Value.int .i64 0)).toArray := by kernel_rfl
theorem worn_size : (Try.prog.info? 80).map (·.size) = some 60 := by kernel_rfl
theorem int_size : (Try.prog.info? 3).map (·.size) = some 1 := by kernel_rfl

def nums (f : Nat → Nat) : List Value := (List.range 60).map fun q => .int .i64 (f q : Int)
theorem nums_len (f : Nat → Nat) : (nums f).length = 60 := by simp [nums]
theorem nums_get (f : Nat → Nat) {q : Nat} (h : q < 60) : (nums f)[q]? = some (.int .i64 (f q : Int)) := by
  unfold nums; rw [List.getElem?_map, List.getElem?_range h]; rfl
theorem nums_congr {f g : Nat → Nat} (h : ∀ q, q < 60 → f q = g q) : nums f = nums g := by
  unfold nums
  refine List.map_congr_left fun q hq => ?_
  rw [h q (List.mem_range.1 hq)]
theorem nums_set {f g : Nat → Nat} {q : Nat} (hq : q < 60) (h1 : g q = f q + 1) (h2 : ∀ r, r ≠ q → g r = f r) : (nums f).set q (.int .i64 ((f q : Int) + 1)) = nums g := by
  apply List.ext_getElem?
  intro r
  rw [List.getElem?_set]
  by_cases hr : q = r
  · subst hr
    rw [if_pos rfl, nums_len, if_pos hq, nums_get g hq, h1]; rfl
  · rw [if_neg hr]
    by_cases hr2 : r < 60
    · rw [nums_get f hr2, nums_get g hr2, h2 r (fun e => hr e.symm)]
    · rw [List.getElem?_eq_none (by rw [nums_len]; omega), List.getElem?_eq_none (by rw [nums_len]; omega)]
theorem nums_zero : List.replicate 60 (Value.int .i64 0) = nums (fun _ => 0) := by
  apply List.ext_getElem?
  intro r
  by_cases h : r < 60
  · rw [nums_get _ h, List.getElem?_replicate, if_pos h]; rfl
  · rw [List.getElem?_eq_none (by simp; omega), List.getElem?_eq_none (by rw [nums_len]; omega)]
/-- So many erasures at place q in the first k plans, and in the first j bytes of the next. -/
def cnt2 (ps : List ByteArray) (k : Nat) (p : ByteArray) (j q : Nat) : Nat := cntAt q (ps.take k) + (if q < j ∧ hit p q = true then 1 else 0)


set_option maxHeartbeats 400000 in
theorem WornPlaces_I (w : World) (A : Option Addr) (n c : Nat) (ps : List ByteArray) (h : Sl Value.string w A n ps) (hu : ∀ p ∈ ps, (p.size : Int) ≤ 1048576) :
    Calls Try.prog 39 #[.slice A n c] w fun e w' => ∃ v, e = .returned (.tuple #[v, .int .i64 (worn ps).2]) ∧ Coll w w' 2 v ((worn ps).1.map (Value.int .i64)) := by
  have hn := h.max
  have HU := hide hu
  clear hu
  go_enter Try.func39, Try.ntmps39
  go_wp2
  go_loopw [15] (fun i wr => ∃ k : Nat, k ≤ n ∧ i = .int .i64 k ∧ Below w.heap.size w wr ∧ allPln (ps.drop k) = allPln ps) (fun i _ => n - (intOf i).toNat)
  case atStart => exact ⟨0, Nat.zero_le _, rfl, Below.refl _ _, by simp⟩
  case round =>
    obtain ⟨k, hk, rfl, hb, HR⟩ := hrel
    by_cases hlt : k < n
    · obtain ⟨b, o, p, rfl, hx, hc⟩ := h.at_ hb hlt
      have hps := HU.out _ (List.mem_of_getElem? hx)
      rw [drop_get hx, allPln] at HR
      by_cases hp : isPln p = true
      · rw [if_pos hp] at HR
        have H2 := hide HR
        clear HR hx
        go_wp2_with (go_at_call 57; refine (isPlan_any _ _ (by omega)).mono ?_; rintro e w1 ⟨rfl, rfl⟩)
        go_roundw
        case rel => exact ⟨k + 1, by omega, by go_num, hb, H2.out⟩
        case measure => simp [intOf]; omega
      · rw [if_neg hp] at HR
        have H2 : Hid (worn ps = ([], 7)) := by unfold Hid worn; rw [← HR]; rfl
        replace hp : isPln p = false := by simpa using hp
        clear HR hx
        go_wp2_with (go_at_call 57; refine (isPlan_any _ _ (by omega)).mono ?_; rintro e w1 ⟨rfl, rfl⟩)
        go_ret2
        exact ⟨_, by rw [H2.out]; rfl, by rw [H2.out]; exact Coll.nil_ hb⟩
    · rw [h.end_ hlt, allPln] at HR
      have hall := HR.symm
      clear HR
      by_cases hl : n ≤ 20
      · have HW : Hid (worn ps = (wornUp ps 60, 0)) := by unfold Hid worn; rw [if_pos hall, if_pos (by rw [h.len]; exact hl)]
        have HP := hide (allPln_all hall)
        have h0 := Coll.empty (e := 2) hb
        clear hall
        obtain ⟨zs, hzs⟩ : ∃ zs : List Value, zs = List.replicate 60 (.int .i64 0) := ⟨_, rfl⟩
        have hzb : Hid (Try.prog.built 80 [] = some zs.toArray) := by unfold Hid; rw [hzs]; exact worn_built
        have hzi : Hid ((Try.prog.info? 80).map (·.zero) = some (some (.agg zs.toArray))) := by unfold Hid; rw [hzs]; exact worn_zero
        have hzl : Hid (zs.length = 60) := by unfold Hid; rw [hzs]; rfl
        have hz1 : Hid (∀ v ∈ zs, v.oneCell' = true) := by unfold Hid; rw [hzs]; intro v hv; rw [List.eq_of_mem_replicate hv]; rfl
        have hzn : Hid (zs = nums (fun q => cntAt q (ps.take 0))) := by unfold Hid; rw [hzs, nums_zero]; rfl
        clear hzs h0
        have hbs := hb.size
        obtain ⟨wo, rfl⟩ : ∃ wo : World, wo = wr := ⟨_, rfl⟩
        go_wp2_with (first
          | (refine Arr.lit hzb.out rfl rfl ?_)
          | (refine Arr.made hzi.out rfl rfl ?_; intro hA)
          | (refine Arr.put_ hA (by rw [hzl.out]; exact worn_size) rfl hz1.out rfl _ _ rfl rfl rfl ?_; intro w2 hA2 hg2))
        have hB2 : Hid (Below w.heap.size w w2) := (hb.alloc hbs _).grown hg2 (by simp; omega) (fun q hq => by cases hq; exact hbs)
        have hA3 : Hid (Arr w2 wo.heap.size 80 (nums (fun q => cntAt q (ps.take 0)))) := by unfold Hid; rw [← hzn.out]; exact hA2
        clear hA hA2 hg2 hzb hzi hzl hz1 hzn
        go_loopw [29] (fun i wr => ∃ (k : Nat) (f : Nat → Nat), k ≤ n ∧ i = .int .i64 k ∧ Below w.heap.size w wr ∧ Arr wr wo.heap.size 80 (nums f) ∧ f = fun q => cntAt q (ps.take k)) (fun i _ => n - (intOf i).toNat)
        case atStart => exact ⟨0, _, Nat.zero_le _, rfl, hB2.out, hA3.out, rfl⟩
        case round =>
          clear hB2 hA3
          obtain ⟨k, f, hk, rfl, hbr, hA, hf⟩ := hrel
          obtain ⟨wp_, rfl⟩ : ∃ w' : World, w' = wr := ⟨_, rfl⟩
          replace hf := hide hf
          by_cases hlt : k < n
          · obtain ⟨b, o, p, rfl, hx, hc⟩ := h.at_ hbr hlt
            have hps := isPln_size (HP.out _ (List.mem_of_getElem? hx))
            have hps2 : p.size ≤ 60 := by omega
            have HX := hide hx
            clear hx
            go_wp2
            go_loopw [35] (fun i wr => ∃ (j : Nat) (g : Nat → Nat), j ≤ p.size ∧ i = .int .i64 j ∧ Below w.heap.size w wr ∧ Arr wr wo.heap.size 80 (nums g) ∧ g = cnt2 ps k p j) (fun i _ => p.size - (intOf i).toNat)
            case atStart => exact ⟨0, _, Nat.zero_le _, rfl, hbr, hA, by rw [hf.out]; funext q; simp [cnt2]⟩
            case round =>
              clear hA hbr hc
              obtain ⟨j, g, hj, rfl, hbi, hA, hg⟩ := hrel
              have hgj : Hid (∀ q, g q = cnt2 ps k p j q) := fun q => by rw [hg]
              clear hg
              by_cases hjl : j < p.size
              · have hxb := by_get hjl
                obtain ⟨d, hd⟩ : ∃ d, p[j] = d := ⟨_, rfl⟩
                rw [hd] at hxb
                have hrun := run_byte hxb
                have hj60 : j < 60 := by omega
                have hcell := hA.cell j
                rw [nums_get g hj60] at hcell
                have hfr := hA.open_ j
                have hle : g j ≤ 30 := by
                  have h1 := cntAt_le j (ps.take k)
                  have h2 : (ps.take k).length ≤ k := List.length_take_le _ _
                  rw [hgj.out j, cnt2]
                  split <;> omega
                by_cases h35 : d = 35
                · have c1 : ((d.toNat : Int) == 35) = true := b_eq (c := 35) h35
                  have hit1 : hit p j = true := by unfold hit; rw [hxb, h35]; rfl
                  have hS := hA.set_ j (.int .i64 ((g j : Int) + 1))
                  rw [nums_set (g := cnt2 ps k p (j + 1)) hj60 (by rw [hgj.out j, cnt2, cnt2, if_pos ⟨by omega, hit1⟩, if_neg (by omega)]) (fun r hr => by
                    rw [hgj.out r, cnt2, cnt2]; congr 1
                    by_cases hr2 : r < j ∧ hit p r = true
                    · rw [if_pos hr2, if_pos ⟨by omega, hr2.2⟩]
                    · rw [if_neg hr2, if_neg (fun e => hr2 ⟨by omega, e.2⟩)])] at hS
                  replace hS := hide hS
                  clear hxb hd h35 hit1
                  go_wp2
                  go_roundw
                  case rel => exact ⟨j + 1, _, by omega, by go_num, hbi.setCell hbs _, hS.out, rfl⟩
                  case measure => simp [intOf]; omega
                · have c1 : ((d.toNat : Int) == 35) = false := b_ne (c := 35) h35
                  have hit0 : ¬ hit p j = true := by unfold hit; rw [hxb]; simp [h35]
                  have hE : Hid (g = cnt2 ps k p (j + 1)) := by
                    unfold Hid
                    funext r
                    rw [hgj.out r, cnt2, cnt2]; congr 1
                    by_cases hr2 : r < j ∧ hit p r = true
                    · rw [if_pos hr2, if_pos ⟨by omega, hr2.2⟩]
                    · rw [if_neg hr2, if_neg]
                      rintro ⟨e1, e2⟩
                      by_cases hrj : r = j
                      · subst hrj; exact hit0 e2
                      · exact hr2 ⟨by omega, e2⟩
                  clear hxb hd h35 hit0 hcell hfr
                  go_wp2
                  go_roundw
                  case rel => exact ⟨j + 1, g, by omega, by go_num, hbi, hA, hE.out⟩
                  case measure => simp [intOf]; omega
              · have hE : Hid (g = fun q => cntAt q (ps.take (k + 1))) := by
                  unfold Hid
                  funext r
                  rw [hgj.out r, cnt2, cntAt_next HX.out]
                  congr 1
                  by_cases hr2 : r < j ∧ hit p r = true
                  · rw [if_pos hr2, if_pos hr2.2]
                  · rw [if_neg hr2, if_neg]
                    intro e2
                    refine hr2 ⟨?_, e2⟩
                    by_cases hrj : r < j
                    · exact hrj
                    · unfold hit at e2; rw [List.getElem?_eq_none (by rw [by_len]; omega)] at e2; cases e2
                go_wp2
                go_roundw
                case rel => exact ⟨k + 1, g, by omega, by go_num, hbi, hA, hE.out⟩
                case measure => simp [intOf]; omega
          · have hE : Hid (f = fun q => cntAt q ps) := by unfold Hid; rw [hf.out, List.take_of_length_le (by rw [h.len]; omega)]
            have hAn : Hid (nums f = nums (fun q => cntAt q ps)) := by unfold Hid; rw [hE.out]
            have h0 := Coll.empty (e := 2) hbr
            go_wp2_with (refine Arr.get_ (hA.lay _) Try.underlying80 (by rw [nums_len]; exact worn_size) rfl _ rfl rfl ?_)
            go_loopw [10, 51] (fun v i wr => ∃ q : Nat, q ≤ 60 ∧ i = .int .i64 q ∧ Coll w wr 2 v ((wornUp ps q).map (Value.int .i64))) (fun _ i _ => 60 - (intOf i).toNat)
            case atStart => exact ⟨0, Nat.zero_le _, rfl, h0⟩
            case round =>
              clear h0 hbr hA
              obtain ⟨q, hq, rfl, hco⟩ := hrel
              have hwl := wornUp_len ps q
              by_cases hlt2 : q < 60
              · have hget := nums_get f hlt2
                have hix := run_index_arr (k := .i64) Try.underlying80 Try.underlying3 int_size hget hlt2
                have hfq : f q = cntAt q ps := by rw [hE.out]
                have hcl := cntAt_le q ps
                rw [h.len] at hcl
                replace hget := hide hget
                by_cases h3 : (3 : Int) < (f q : Int)
                · have H2 : Hid (wornUp ps (q + 1) = wornUp ps q ++ [(q : Int)]) := by unfold Hid; rw [wornUp, if_pos (by omega)]
                  clear hfq
                  go_wp2_with (at_builtin; refine Coll.push Try.underlying38 int64_info rfl (by decide) hco rfl (by rw [List.length_map]; omega) rfl _ _ rfl rfl rfl ?_; intro v1 w1 hc1 hg1)
                  go_roundw
                  case rel => exact ⟨q + 1, by omega, by go_num, by rw [H2.out]; simpa using hc1⟩
                  case measure => simp [intOf]; omega
                · have H2 : Hid (wornUp ps (q + 1) = wornUp ps q) := by unfold Hid; rw [wornUp, if_neg (by omega), List.append_nil]
                  clear hfq
                  go_wp2
                  go_roundw
                  case rel => exact ⟨q + 1, by omega, by go_num, by rw [H2.out]; exact hco⟩
                  case measure => simp [intOf]; omega
              · have hq2 : Hid (q = 60) := by unfold Hid; omega
                go_wp2
                go_ret2
                exact ⟨_, by rw [HW.out]; rfl, by rw [HW.out, ← hq2.out]; exact hco⟩
      · have H2 : Hid (worn ps = ([], 2)) := by unfold Hid worn; rw [if_pos hall, if_neg (by rw [h.len]; exact hl)]
        clear hall
        go_wp2
        go_ret2
        exact ⟨_, by rw [H2.out]; rfl, by rw [H2.out]; exact Coll.nil_ hb⟩
end Go.Proofs.Ytokdbkkjneadgaa
