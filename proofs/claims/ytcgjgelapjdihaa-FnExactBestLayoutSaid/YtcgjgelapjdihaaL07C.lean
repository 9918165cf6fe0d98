/-
  Layouts of a board; the places of the bytes of a text.
-/
import Derived.Test.YtcgjgelapjdihaaL07B
import Derived.Test.YtcgjgelapjdihaaArrs
import Derived.Test.YtcgjgelapjdihaaInts
namespace Go.Proofs.Ytcgjgelapjdihaa
set_option maxRecDepth 100000
open Go.RowKit

def okLay (s : ByteArray) (n : Nat) : Bool := decide (s.size = n) && (isTxt 32 6 s && decide (by_ s).Nodup)
theorem nodup_snoc {l : List UInt8} {b : UInt8} : (l ++ [b]).Nodup ↔ l.Nodup ∧ b ∉ l := by
  unfold List.Nodup
  rw [List.pairwise_append]
  constructor
  · rintro ⟨h1, _, h3⟩
    exact ⟨h1, fun hm => h3 b hm b (by simp) rfl⟩
  · rintro ⟨h1, h2⟩
    exact ⟨h1, by simp, fun a ha c hc => by simp at hc; subst hc; rintro rfl; exact h2 ha⟩
theorem nodup_take {l : List UInt8} (h : l.Nodup) (k : Nat) : (l.take k).Nodup := List.Pairwise.sublist (List.take_sublist k l) h
def bits (f : Nat → Bool) : List Value := (List.range 256).map fun q => .bool (f q)
theorem bits_len (f : Nat → Bool) : (bits f).length = 256 := by simp [bits]
theorem bits_get (f : Nat → Bool) {q : Nat} (h : q < 256) : (bits f)[q]? = some (.bool (f q)) := by
  unfold bits; rw [List.getElem?_map, List.getElem?_range h]; rfl
def anyB (l : List UInt8) (q : Nat) : Bool := l.any fun b => b.toNat == q
theorem bits_set (l : List UInt8) (b : UInt8) : (bits (anyB l)).set b.toNat (.bool true) = bits (anyB (l ++ [b])) := by
  have hb : b.toNat < 256 := b.toNat_lt
  apply List.ext_getElem?
  intro r
  rw [List.getElem?_set]
  by_cases hr : b.toNat = r
  · subst hr
    rw [if_pos rfl, bits_len, if_pos hb, bits_get _ hb]
    simp [anyB]
  · rw [if_neg hr]
    by_cases hr2 : r < 256
    · rw [bits_get _ hr2, bits_get _ hr2]
      simp [anyB, hr]
    · rw [List.getElem?_eq_none (by rw [bits_len]; omega), List.getElem?_eq_none (by rw [bits_len]; omega)]
theorem anyB_mem (l : List UInt8) (b : UInt8) : anyB l b.toNat = true ↔ b ∈ l := by
  unfold anyB
  rw [List.any_eq_true]
  constructor
  · rintro ⟨c, hc, e⟩
    rw [beq_iff_eq] at e
    rwa [UInt8.toNat_inj.1 e] at hc
  · intro h; exact ⟨b, h, by simp⟩
theorem bits_zero : List.replicate 256 (Value.bool false) = bits (anyB []) := by rfl
theorem b256_zero : (Try.prog.info? 73).map (·.zero) = some (some (.agg (List.replicate 256 (Value.bool false)).toArray)) := by kernel_rfl
theorem b256_built : Try.prog.built 73 [] = some (List.replicate 256 (Value.bool false)).toArray := by kernel_rfl
theorem b256_size : (Try.prog.info? 73).map (·.size) = some 256 := by kernel_rfl

set_option maxHeartbeats 2000000 in
theorem isBoardLayout_any (w : World) (A : Option Addr) (n c : Nat) (s : ByteArray) (hs : s.size ≤ 1048576) :
    Calls Try.prog 25 #[.slice A n c, .string s] w fun e w' => e = .returned (.bool (okLay s n)) ∧ Below w.heap.size w w' := by
  by_cases hsz : s.size = n
  · have hnd : ((s.size : Int) != (n : Int)) = false := by simp [hsz]
    by_cases ht : isTxt 32 6 s = true
    · have HL : Hid (okLay s n = decide (by_ s).Nodup) := by unfold Hid okLay; rw [decide_eq_true hsz, ht]; simp
      obtain ⟨zs, hzs⟩ : ∃ zs : List Value, zs = List.replicate 256 (.bool false) := ⟨_, rfl⟩
      have hzb : Hid (Try.prog.built 73 [] = some zs.toArray) := by unfold Hid; rw [hzs]; exact b256_built
      have hzi : Hid ((Try.prog.info? 73).map (·.zero) = some (some (.agg zs.toArray))) := by unfold Hid; rw [hzs]; exact b256_zero
      have hzl : Hid (zs.length = 256) := by unfold Hid; rw [hzs]; rfl
      have hz1 : Hid (∀ v ∈ zs, v.oneCell' = true) := by unfold Hid; rw [hzs]; intro v hv; rw [List.eq_of_mem_replicate hv]; rfl
      have hzn : Hid (zs = bits (anyB ((by_ s).take 0))) := by unfold Hid; rw [hzs, bits_zero]; rfl
      clear hzs hsz
      go_enter Try.func25, Try.ntmps25
      go_wp2_with (first
        | (go_at_call 36; refine (isText_any _ _ _ _ (by omega)).mono ?_; rintro e w1 ⟨rfl, rfl⟩)
        | (refine Arr.lit hzb.out rfl rfl ?_)
        | (refine Arr.made hzi.out rfl rfl ?_; intro hA)
        | (refine Arr.put_ hA (by rw [hzl.out]; exact b256_size) rfl hz1.out rfl _ _ rfl rfl rfl ?_; intro w2 hA2 hg2))
      have hB2 : Hid (Below w.heap.size w w2) := ((Below.refl _ _).alloc (Nat.le_refl _) _).grown hg2 (by go_size) (fun q hq => by cases hq; exact Nat.le_refl _)
      have hA3 : Hid (Arr w2 w.heap.size 73 (bits (anyB ((by_ s).take 0)))) := by unfold Hid; rw [← hzn.out]; exact hA2
      clear hA hA2 hg2 hzb hzi hzl hz1 hzn ht hnd
      go_loopw [20] (fun i wr => ∃ k : Nat, k ≤ s.size ∧ i = .int .i64 k ∧ Below w.heap.size w wr ∧ Arr wr w.heap.size 73 (bits (anyB ((by_ s).take k))) ∧ ((by_ s).take k).Nodup) (fun i _ => s.size - (intOf i).toNat)
      case atStart => exact ⟨0, Nat.zero_le _, rfl, hB2.out, hA3.out, by simp⟩
      case round =>
        clear hB2 hA3
        obtain ⟨k, hk, rfl, hb, hA, hND⟩ := hrel
        by_cases hlt : k < s.size
        · have hx := by_get hlt
          obtain ⟨d, hd⟩ : ∃ d, s[k] = d := ⟨_, rfl⟩
          rw [hd] at hx
          have hrun := run_byte hx
          have hd256 : d.toNat < 256 := d.toNat_lt
          have hd256i : (d.toNat : Int) < 256 := by omega
          have hd0 : (0 : Int) ≤ (d.toNat : Int) := by omega
          have hcell := hA.cell d.toNat
          rw [bits_get _ hd256] at hcell
          have hfr := hA.open_ d.toNat
          have htk : (by_ s).take (k + 1) = (by_ s).take k ++ [d] := by
            obtain ⟨h1, h2⟩ := List.getElem?_eq_some_iff.1 hx
            rw [List.take_succ_eq_append_getElem h1, h2]
          by_cases hm : d ∈ (by_ s).take k
          · rw [(anyB_mem _ _).2 hm] at hcell
            have HF : Hid (okLay s n = false) := by
              unfold Hid
              rw [HL.out, decide_eq_false_iff_not]
              intro hnd
              have := nodup_take hnd (k + 1)
              rw [htk, nodup_snoc] at this
              exact this.2 hm
            clear hA hND hx hd htk hm
            go_wp2
            go_ret
            exact ⟨ret_bool HF.out.symm, hb⟩
          · have hfalse : anyB ((by_ s).take k) d.toNat = false := by
              cases hq : anyB ((by_ s).take k) d.toNat with
              | false => rfl
              | true => exact absurd ((anyB_mem _ _).1 hq) hm
            rw [hfalse] at hcell
            have HP : Hid (Arr (wr.setCell ⟨w.heap.size, d.toNat, none⟩ (.bool true)) w.heap.size 73 (bits (anyB ((by_ s).take (k + 1))))) := by
              have := hA.set_ d.toNat (.bool true)
              rw [bits_set, ← htk] at this
              exact this
            have HN : Hid (((by_ s).take (k + 1)).Nodup) := by unfold Hid; rw [htk, nodup_snoc]; exact ⟨hND, hm⟩
            clear hA hND hx hd htk hm hfalse
            go_wp2
            go_roundw
            case rel => exact ⟨k + 1, by omega, by go_num, hb.setCell (Nat.le_refl _) _, HP.out, HN.out⟩
            case measure => simp [intOf]; omega
        · rw [List.take_of_length_le (by rw [by_len]; omega)] at hND
          have HF : Hid (okLay s n = true) := by unfold Hid; rw [HL.out, decide_eq_true_eq]; exact hND
          clear hND hA
          go_wp2
          go_ret
          exact ⟨ret_bool HF.out.symm, hb⟩
    · have HF : Hid (okLay s n = false) := by unfold Hid okLay; simp [ht]
      replace ht : isTxt 32 6 s = false := by simpa using ht
      clear hsz
      go_enter Try.func25, Try.ntmps25
      go_wp2_with (go_at_call 36; refine (isText_any _ _ _ _ (by omega)).mono ?_; rintro e w1 ⟨rfl, rfl⟩)
      go_ret
      exact ⟨ret_bool HF.out.symm, Below.refl _ _⟩
  · have HF : Hid (okLay s n = false) := by unfold Hid okLay; rw [decide_eq_false hsz, Bool.false_and]
    have hnd : ((s.size : Int) != (n : Int)) = true := by rw [bne_iff_ne]; omega
    go_enter Try.func25, Try.ntmps25
    go_wp2_with (go_at_call 36; refine (isText_any _ _ _ _ (by omega)).mono ?_; rintro e w1 ⟨rfl, rfl⟩)
    go_ret
    exact ⟨ret_bool HF.out.symm, Below.refl _ _⟩

set_option maxHeartbeats 2000000 in
theorem l07Layout_any (w : World) (s : ByteArray) (n : Nat) (hs : s.size ≤ 1048576) :
    Calls Try.prog 21 #[.string s, .int .i64 n] w fun e w' => e = .returned (.bool (okLay s n)) ∧ w = w' := by
  go_enter Try.func21, Try.ntmps21
  go_wp2
  go_loop [5] (fun i => ∃ k : Nat, k ≤ s.size ∧ i = .int .i64 k ∧ ∀ (j : Nat) (b : UInt8), j < k → (by_ s)[j]? = some b → idx b (by_ s) = some j) (fun i => s.size - (intOf i).toNat)
  case atStart => exact ⟨0, Nat.zero_le _, rfl, fun j b hj => by omega⟩
  case round =>
    obtain ⟨k, hk, rfl, HR⟩ := hrel
    by_cases hlt : k < s.size
    · have hx := by_get hlt
      obtain ⟨d, hd⟩ : ∃ d, s[k] = d := ⟨_, rfl⟩
      rw [hd] at hx
      have hrun := run_byte hx
      obtain ⟨q, hq⟩ : ∃ q, idx d (by_ s) = some q := by
        cases h : idx d (by_ s) with
        | some q => exact ⟨q, rfl⟩
        | none => rw [idx_none] at h; exact absurd (List.mem_of_getElem? hx) h
      have hqs := (idx_lt hq).1
      rw [by_len] at hqs
      by_cases hqk : q = k
      · have HQ : Hid (idV (idx d (by_ s)) = (k : Int)) := by unfold Hid; rw [hq, hqk]; rfl
        have HN : Hid (∀ (j : Nat) (b : UInt8), j < k + 1 → (by_ s)[j]? = some b → idx b (by_ s) = some j) := by
          intro j b hj hjb
          by_cases e : j = k
          · subst e
            rw [hx] at hjb
            cases hjb
            rw [hq, hqk]
          · exact HR j b (by omega) hjb
        have hne : ((k : Int) != (k : Int)) = false := by simp
        clear HR hx hd hq hqk hqs
        go_wp2_with (go_at_call 20; refine (l05Index_any _ _ _ hs).mono ?_; rintro e w1 ⟨rfl, rfl⟩; rw [HQ.out])
        go_round
        case rel => exact ⟨k + 1, by omega, by go_num, HN.out⟩
        case measure => simp [intOf]; omega
      · have HQ : Hid (idV (idx d (by_ s)) = (q : Int)) := by unfold Hid; rw [hq]; rfl
        have HF : Hid (okLay s n = false) := by
          unfold Hid okLay
          have : ¬ (by_ s).Nodup := fun hnd => by
            have := idx_self.2 hnd k d hx
            rw [hq] at this
            exact hqk (Option.some.inj this)
          rw [decide_eq_false this, Bool.and_false, Bool.and_false]
        have hne : ((q : Int) != (k : Int)) = true := by rw [bne_iff_ne]; omega
        clear HR hx hd hq hqk
        go_wp2_with (go_at_call 20; refine (l05Index_any _ _ _ hs).mono ?_; rintro e w1 ⟨rfl, rfl⟩; rw [HQ.out])
        go_ret
        exact ⟨ret_bool HF.out.symm, rfl⟩
    · have hnd : (by_ s).Nodup := idx_self.1 (fun i b hib => HR i b (by have := (List.getElem?_eq_some_iff.1 hib).1; rw [by_len] at this; omega) hib)
      by_cases hsz : s.size = n
      · have HF : Hid (okLay s n = isTxt 32 6 s) := by unfold Hid okLay; rw [decide_eq_true hsz, decide_eq_true hnd]; simp
        have heq : ((s.size : Int) == (n : Int)) = true := by simp [hsz]
        clear HR hnd hsz
        go_wp2_with (go_at_call 33; refine (l00Text_any _ _ _ (by omega)).mono ?_; rintro e w1 ⟨rfl, rfl⟩)
        go_ret
        exact ⟨ret_bool HF.out.symm, rfl⟩
      · have HF : Hid (okLay s n = false) := by unfold Hid okLay; rw [decide_eq_false hsz, Bool.false_and]
        have heq : ((s.size : Int) == (n : Int)) = false := beq_eq_false_iff_ne.2 (by omega)
        clear HR hnd hsz
        go_wp2_with (go_at_call 33; refine (l00Text_any _ _ _ (by omega)).mono ?_; rintro e w1 ⟨rfl, rfl⟩)
        go_ret
        exact ⟨ret_bool HF.out.symm, rfl⟩

/-! ### placesOf -/
def allIn (l : List UInt8) : List UInt8 → Bool
  | [] => true
  | c :: cs => if (idx c l).isSome = true then allIn l cs else false
def placesL (l : List UInt8) (t : List UInt8) : List Int := t.map fun c => idV (idx c l)
def placesR (s t : ByteArray) : List Int × Bool := if allIn (by_ s) (by_ t) = true then (placesL (by_ s) (by_ t), decide ((t.size : Int) ≤ 400)) else ([], false)
set_option maxHeartbeats 2000000 in
theorem placesOf_any (w : World) (s t : ByteArray) (hs : s.size ≤ 1048576) (ht : t.size ≤ 1048576) (hnd : (by_ s).Nodup) :
    Calls Try.prog 15 #[.string s, .string t] w fun e w' => ∃ v, e = .returned (.tuple #[v, .bool (placesR s t).2]) ∧ Coll w w' 2 v ((placesR s t).1.map (Value.int .i64)) := by
  have h0 := Coll.empty (e := 2) (Below.refl w.heap.size w)
  have HND := hide hnd
  clear hnd
  go_enter Try.func15, Try.ntmps15
  go_wp2
  go_loopw [6, 13] (fun v i wr => ∃ (k : Nat) (acc : List Int), k ≤ t.size ∧ i = .int .i64 k ∧ acc.length ≤ k ∧ Coll w wr 2 v (acc.map (Value.int .i64)) ∧ allIn (by_ s) ((by_ t).drop k) = allIn (by_ s) (by_ t) ∧ acc ++ placesL (by_ s) ((by_ t).drop k) = placesL (by_ s) (by_ t)) (fun _ i _ => t.size - (intOf i).toNat)
  case atStart => exact ⟨0, [], Nat.zero_le _, rfl, Nat.le_refl _, h0, by simp, by simp⟩
  case round =>
    clear h0
    obtain ⟨k, acc, hk, rfl, hal, hco, HA, HP⟩ := hrel
    by_cases hlt : k < t.size
    · have hx := by_get hlt
      obtain ⟨c, hc⟩ : ∃ c, t[k] = c := ⟨_, rfl⟩
      rw [hc] at hx
      have hrunT := run_byte hx
      rw [drop_get hx, allIn] at HA
      rw [drop_get hx, placesL, List.map_cons] at HP
      have HAH := hide HA
      have HPH := hide HP
      replace hco := hide hco
      clear hx hc HA HP
      go_wp2
      go_loopw [8, 18] (fun av j w5 => ∃ q : Nat, q ≤ s.size ∧ j = .int .i64 q ∧ av = .int .i64 (idV (idx c ((by_ s).take q))) ∧ Below wr.heap.size wr w5) (fun _ j _ => s.size - (intOf j).toNat)
      case atStart => exact ⟨0, Nat.zero_le _, rfl, by simp [idx, idV], Below.refl _ _⟩
      case round =>
        obtain ⟨wo, rfl⟩ : ∃ wo : World, wo = wr := ⟨_, rfl⟩
        obtain ⟨q, hq, rfl, rfl, hb⟩ := hrel
        by_cases hlq : q < s.size
        · have hy := by_get hlq
          obtain ⟨d, hd⟩ : ∃ d, s[q] = d := ⟨_, rfl⟩
          rw [hd] at hy
          have hrunS := run_byte hy
          have hit := idx_take (c := c) HND.out hy
          by_cases hdc : d = c
          · rw [if_pos hdc] at hit
            have hcb : ((d.toNat : Int) == (c.toNat : Int)) = true := by simp [hdc]
            have HI : Hid (idV (idx c ((by_ s).take (q + 1))) = (q : Int)) := by unfold Hid; rw [hit]; rfl
            clear hy hd hit hdc
            go_wp2
            go_quiet (fail)
            go_wp2
            go_roundw
            case rel => exact ⟨q + 1, by omega, by go_num, by rw [HI.out], below_drewN hb _⟩
            case measure => simp [intOf]; omega
          · rw [if_neg hdc] at hit
            have hcb : ((d.toNat : Int) == (c.toNat : Int)) = false := by
              simp; intro e; exact hdc (UInt8.toNat_inj.1 (by omega))
            have HI := hide hit
            clear hy hd hit hdc
            go_wp2
            go_quiet (fail)
            go_wp2
            go_roundw
            case rel => exact ⟨q + 1, by omega, by go_num, by rw [HI.out], below_drewN hb _⟩
            case measure => simp [intOf]; omega
        · have hT : (by_ s).take q = by_ s := List.take_of_length_le (by rw [by_len]; omega)
          rw [hT]
          clear hT
          have hcoD := hco.out.on hb
          cases hi : idx c (by_ s) with
          | none =>
            have H2 : Hid (placesR s t = ([], false)) := by
              have e := HAH.out
              rw [hi, if_neg (by simp)] at e
              unfold Hid placesR
              rw [← e]; rfl
            have hiv : idV none = -1 := rfl
            clear hi
            go_wp2
            go_ret2
            exact ⟨_, by rw [H2.out]; rfl, by rw [H2.out]; exact Coll.nil_ hcoD.below⟩
          | some p =>
            have HA2 : Hid (allIn (by_ s) ((by_ t).drop (k + 1)) = allIn (by_ s) (by_ t)) := by
              have e := HAH.out
              rw [hi, if_pos (by simp)] at e
              exact e
            have HP2 : Hid ((acc ++ [(p : Int)]) ++ placesL (by_ s) ((by_ t).drop (k + 1)) = placesL (by_ s) (by_ t)) := by
              have e := HPH.out
              rw [hi] at e
              unfold Hid
              rw [← e]; simp [idV, placesL]
            have hiv : idV (some p) = (p : Int) := rfl
            clear hi
            go_wp2_with (at_builtin; refine Coll.push Try.underlying38 int64_info rfl (by decide) hcoD rfl (by rw [List.length_map]; omega) rfl _ _ rfl rfl rfl ?_; intro v1 w7 hc7 hg7)
            go_roundw
            case rel => exact ⟨k + 1, acc ++ [(p : Int)], by omega, by go_num, by simp; omega, by simpa using hc7, HA2.out, HP2.out⟩
            case measure => simp [intOf]; omega
    · rw [List.drop_eq_nil_of_le (by rw [by_len]; omega)] at HA HP
      have H2 : Hid (placesR s t = (acc, decide ((t.size : Int) ≤ 400))) := by
        unfold Hid placesR
        rw [← HA, ← HP]
        simp [allIn, placesL]
      clear HA HP
      go_wp2
      go_ret2
      exact ⟨_, by rw [H2.out]; rfl, by rw [H2.out]; exact hco⟩
end Go.Proofs.Ytcgjgelapjdihaa
