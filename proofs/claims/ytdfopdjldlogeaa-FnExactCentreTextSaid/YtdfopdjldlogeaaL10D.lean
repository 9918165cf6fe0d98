/-
  UnderlineText: what it returns, for all arguments.
-/
import Derived.Test.YtdfopdjldlogeaaL10C
import Derived.Test.YtdfopdjldlogeaaBrow
namespace Go.Proofs.Ytdfopdjldlogeaa
open Go.RowKit

def under (b : UInt8) : UInt8 := if b = 32 then 32 else 95
def underlineText (s : ByteArray) : ByteArray × Int := if isSet s = true then (mkB ((by_ s).map under), 0) else (⟨#[]⟩, 2)

set_option maxHeartbeats 400000 in
theorem UnderlineText_s (w : World) (s : ByteArray) (hs : s.size ≤ 1048576) :
    Calls Try.prog 18 #[.string s] w fun e w' => e = .returned (.tuple #[.string (underlineText s).1, .int .i64 (underlineText s).2]) ∧ Below w.heap.size w w' := by
  by_cases h1 : isSet s = true
  · have HR1 : Hid (underlineText s = (mkB ((by_ s).map under), 0)) := by unfold Hid underlineText; rw [if_pos h1]
    have h0 := Coll.empty (e := 5) (Below.refl w.heap.size w)
    go_enter Try.func18, Try.ntmps18
    go_wp2_with (go_at_call 41; refine (l10Text_any _ s (by omega)).mono ?_; rintro e w1 ⟨rfl, rfl⟩)
    clear h1
    go_loopw [4, 5] (fun v i wr => ∃ (k : Nat) (acc : List UInt8), k ≤ s.size ∧ acc.length ≤ k ∧ i = .int .i64 k ∧ Coll w wr 5 v (acc.map ub) ∧ acc ++ ((by_ s).drop k).map under = (by_ s).map under) (fun _ i _ => s.size - (intOf i).toNat)
    case atStart => exact ⟨0, [], Nat.zero_le _, Nat.le_refl _, rfl, h0, by simp⟩
    case round =>
      clear h0
      obtain ⟨k, acc, hk, ha, rfl, hco, HR⟩ := hrel
      by_cases hlt : k < s.size
      · have hx := by_get hlt
        obtain ⟨b, hb⟩ : ∃ b, s[k] = b := ⟨_, rfl⟩
        rw [hb] at hx
        have hrun := run_byte hx
        rw [drop_get hx, List.map_cons] at HR
        have H2 : Hid ((acc ++ [under b]) ++ ((by_ s).drop (k + 1)).map under = (by_ s).map under) := by unfold Hid; rw [← HR]; simp
        by_cases hb32 : b = 32
        · have hu : Hid (under b = 32) := by unfold Hid under; rw [if_pos hb32]
          have hcb : ((b.toNat : Int) == 32) = true := b_eq (c := 32) hb32
          clear HR hx hb hb32
          go_wp2_with (at_builtin; refine Coll.push Try.underlying46 byte_info rfl (by decide) hco rfl (by rw [List.length_map]; omega) rfl _ _ rfl rfl rfl ?_; intro v1 w1 hc1 hg1)
          go_roundw
          case rel => exact ⟨k + 1, acc ++ [under b], by omega, by simp; omega, by go_num, by rw [ub_push, hu.out]; exact hc1, H2.out⟩
          case measure => simp [intOf]; omega
        · have hu : Hid (under b = 95) := by unfold Hid under; rw [if_neg hb32]
          have hcb : ((b.toNat : Int) == 32) = false := b_ne (c := 32) hb32
          clear HR hx hb hb32
          go_wp2_with (at_builtin; refine Coll.push Try.underlying46 byte_info rfl (by decide) hco rfl (by rw [List.length_map]; omega) rfl _ _ rfl rfl rfl ?_; intro v1 w1 hc1 hg1)
          go_roundw
          case rel => exact ⟨k + 1, acc ++ [under b], by omega, by simp; omega, by go_num, by rw [ub_push, hu.out]; exact hc1, H2.out⟩
          case measure => simp [intOf]; omega
      · have e : (by_ s).drop k = [] := List.drop_eq_nil_of_le (by rw [by_len]; omega)
        have H2 : Hid (underlineText s = (mkB acc, 0)) := by unfold Hid; rw [HR1.out, ← HR, e]; simp
        have hst := hco.str
        clear HR e
        go_wp2
        go_ret2
        exact ⟨by rw [H2.out]; rfl, hco.below⟩
  · have HR0 : Hid (underlineText s = (⟨#[]⟩, 2)) := by unfold Hid underlineText; rw [if_neg h1]
    replace h1 : isSet s = false := by simpa using h1
    go_enter Try.func18, Try.ntmps18
    go_wp2_with (go_at_call 41; refine (l10Text_any _ s (by omega)).mono ?_; rintro e w1 ⟨rfl, rfl⟩)
    go_ret2
    exact ⟨by rw [HR0.out]; rfl, Below.refl _ _⟩

theorem under_step {l : List UInt8} {k : Nat} {b : UInt8} (hx : l[k]? = some b) :
    ((l.take k).map under ++ l.drop k).set k (under b) = (l.take (k + 1)).map under ++ l.drop (k + 1) := by
  obtain ⟨h1, h2⟩ := List.getElem?_eq_some_iff.1 hx
  have hl : ((l.take k).map under).length = k := by rw [List.length_map, List.length_take]; omega
  rw [List.set_append_right _ _ (by omega), hl, Nat.sub_self, drop_get hx, List.set_cons_zero, List.take_succ_eq_append_getElem h1, h2]
  simp
theorem under_at {l : List UInt8} {k : Nat} {b : UInt8} (hx : l[k]? = some b) : ((l.take k).map under ++ l.drop k)[k]? = some b := by
  obtain ⟨h1, h2⟩ := List.getElem?_eq_some_iff.1 hx
  have hl : ((l.take k).map under).length = k := by rw [List.length_map, List.length_take]; omega
  rw [List.getElem?_append_right (by omega), hl, Nat.sub_self, List.getElem?_drop, Nat.add_zero, hx]

set_option maxHeartbeats 400000 in
theorem UnderlineText_i (w : World) (s : ByteArray) (hs : s.size ≤ 1048576) :
    Calls Try.prog 19 #[.string s] w fun e w' => e = .returned (.tuple #[.string (underlineText s).1, .int .i64 (underlineText s).2]) ∧ Below w.heap.size w w' := by
  by_cases h1 : isSet s = true
  · have HR1 : Hid (underlineText s = (mkB ((by_ s).map under), 0)) := by unfold Hid underlineText; rw [if_pos h1]
    obtain ⟨c, w1, hcv, hB1, hb1, hcl⟩ := conv_bytes w s
    go_enter Try.func19, Try.ntmps19
    go_wp2_with (go_at_call 42; refine (isSetting_any _ s (by omega)).mono ?_; rintro e w1 ⟨rfl, rfl⟩)
    clear h1 hcv
    go_loopw [14] (fun i wr => ∃ (k : Nat) (l : List UInt8), k ≤ s.size ∧ i = .int .i64 k ∧ BRow wr w.heap.size l ∧ l = ((by_ s).take k).map under ++ (by_ s).drop k ∧ Below w.heap.size w wr) (fun i _ => s.size - (intOf i).toNat)
    case atStart => exact ⟨0, by_ s, Nat.zero_le _, rfl, hB1, by simp, hb1⟩
    case round =>
      clear hB1 hb1
      obtain ⟨k, l, hk, rfl, hB, hl, hb⟩ := hrel
      have hll : l.length = s.size := by rw [hl]; simp [by_len]; omega
      by_cases hlt : k < s.size
      · have hx := by_get hlt
        obtain ⟨b, hbb⟩ : ∃ b, s[k] = b := ⟨_, rfl⟩
        rw [hbb] at hx
        have hla : l[k]? = some b := by rw [hl]; exact under_at hx
        have hcell := hB.cell hla
        have hfr := hB.open_ (k := k) (by rw [hll]; exact hlt)
        have HS : Hid (l.set k (under b) = ((by_ s).take (k + 1)).map under ++ (by_ s).drop (k + 1)) := by unfold Hid; rw [hl]; exact under_step hx
        by_cases hb32 : b = 32
        · have hsame : Hid (l = ((by_ s).take (k + 1)).map under ++ (by_ s).drop (k + 1)) := by
            unfold Hid
            rw [← HS.out]
            have hu : under b = b := by unfold under; rw [if_pos hb32, hb32]
            rw [hu]
            obtain ⟨e1, e2⟩ := List.getElem?_eq_some_iff.1 hla
            rw [← e2, List.set_getElem_self]
          have hcb : ((b.toNat : Int) != 32) = false := bn_eq (c := 32) hb32
          clear hl hll hx hbb hla hb32
          go_wp2
          go_roundw
          case rel => exact ⟨k + 1, l, by omega, by go_num, hB, hsame.out, hb⟩
          case measure => simp [intOf]; omega
        · have hu : Hid (under b = 95) := by unfold Hid under; rw [if_neg hb32]
          have hcb : ((b.toNat : Int) != 32) = true := bn_ne (c := 32) hb32
          have hS := hB.set_ k (under b)
          rw [hu.out] at hS
          replace hS : Hid (BRow (wr.setCell ⟨w.heap.size, k, none⟩ (.int .u8 95)) w.heap.size (l.set k 95)) := hS
          clear hl hll hx hbb hla hb32
          go_wp2
          go_roundw
          case rel => exact ⟨k + 1, l.set k 95, by omega, by go_num, hS.out, by rw [← HS.out, hu.out], hb.setCell (Nat.le_refl _) _⟩
          case measure => simp [intOf]; omega
      · have hst := hB.str (c := c)
        rw [hll] at hst
        have H2 : Hid (underlineText s = (⟨l.toArray⟩, 0)) := by
          unfold Hid
          rw [HR1.out, hl, List.drop_eq_nil_of_le (by rw [by_len]; omega), List.take_of_length_le (by rw [by_len]; omega), List.append_nil]; rfl
        clear hl hll
        go_wp2
        go_ret2
        exact ⟨by rw [H2.out]; rfl, hb⟩
  · have HR0 : Hid (underlineText s = (⟨#[]⟩, 2)) := by unfold Hid underlineText; rw [if_neg h1]
    replace h1 : isSet s = false := by simpa using h1
    go_enter Try.func19, Try.ntmps19
    go_wp2_with (go_at_call 42; refine (isSetting_any _ s (by omega)).mono ?_; rintro e w1 ⟨rfl, rfl⟩)
    go_ret2
    exact ⟨by rw [HR0.out]; rfl, Below.refl _ _⟩
end Go.Proofs.Ytdfopdjldlogeaa
