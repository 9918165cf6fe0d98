/-
  The parts of a text between bytes: the contract of the reference's l01Split.
-/
import Derived.Test.YtanpmjbephelaaaTexts
import Derived.Test.YtanpmjbephelaaaStrs
namespace Go.Proofs.Ytanpmjbephelaaa
set_option maxRecDepth 100000
open Go.RowKit

def mkB (l : List UInt8) : ByteArray := ⟨l.toArray⟩
theorem by_mkB (l : List UInt8) : by_ (mkB l) = l := rfl
theorem by_extract (s : ByteArray) (a b : Nat) : by_ (s.extract a b) = ((by_ s).take b).drop a := by
  simp [by_, ByteArray.data_extract, Array.toList_extract, List.extract_eq_take_drop, List.drop_take]
theorem extract_eq (s : ByteArray) (a b : Nat) : s.extract a b = mkB (((by_ s).take b).drop a) := ba_eq (by rw [by_extract, by_mkB])
theorem cut_step {s : ByteArray} {a k : Nat} {b : UInt8} (hx : (by_ s)[k]? = some b) (ha : a ≤ k) : ((by_ s).take (k + 1)).drop a = ((by_ s).take k).drop a ++ [b] := by
  obtain ⟨h1, h2⟩ := List.getElem?_eq_some_iff.1 hx
  rw [List.take_succ_eq_append_getElem h1, h2, List.drop_append_of_le_length (by rw [List.length_take]; omega)]

def splitGo (c : UInt8) : List UInt8 → List UInt8 → List (List UInt8)
  | cur, [] => [cur]
  | cur, b :: bs => if b = c then cur :: splitGo c [] bs else splitGo c (cur ++ [b]) bs
def splitB (c : UInt8) (s : ByteArray) : List ByteArray := (splitGo c [] (by_ s)).map mkB

set_option maxHeartbeats 800000 in
theorem l01Split_any (w : World) (s : ByteArray) (c : UInt8) (hs : s.size ≤ 1048576) :
    Calls Try.prog 101 #[.string s, .int .u8 c.toNat] w fun e w' => ∃ v, e = .returned v ∧ Coll w w' 9 v ((splitB c s).map Value.string) := by
  have h0 := Coll.empty (e := 9) (Below.refl w.heap.size w)
  go_enter Try.func101, Try.ntmps101
  go_wp2
  go_loopw [5, 6, 7] (fun v fv i wr => ∃ (k a : Nat) (acc : List ByteArray), k ≤ s.size ∧ a ≤ k ∧ acc.length ≤ k ∧ i = .int .i64 k ∧ fv = .int .i64 a ∧ Coll w wr 9 v (acc.map Value.string) ∧ acc ++ (splitGo c (((by_ s).take k).drop a) ((by_ s).drop k)).map mkB = splitB c s) (fun _ _ i _ => s.size - (intOf i).toNat)
  case atStart => exact ⟨0, 0, [], Nat.zero_le _, Nat.le_refl _, Nat.le_refl _, rfl, rfl, h0, by simp [splitB]⟩
  case round =>
    clear h0
    obtain ⟨k, a, acc, hk, hak, hal, rfl, rfl, hco, HR⟩ := hrel
    by_cases hlt : k < s.size
    · have hx := by_get hlt
      obtain ⟨b, hb⟩ : ∃ b, s[k] = b := ⟨_, rfl⟩
      rw [hb] at hx
      have hrun := run_byte hx
      rw [drop_get hx, splitGo] at HR
      by_cases hbc : b = c
      · rw [if_pos hbc] at HR
        have hcb : ((b.toNat : Int) == (c.toNat : Int)) = true := by simp [hbc]
        have H2 : Hid ((acc ++ [s.extract a k]) ++ (splitGo c (((by_ s).take (k + 1)).drop (k + 1)) ((by_ s).drop (k + 1))).map mkB = splitB c s) := by
          unfold Hid
          have e : ((by_ s).take (k + 1)).drop (k + 1) = [] := List.drop_eq_nil_of_le (by rw [List.length_take]; omega)
          rw [← HR, extract_eq, e]; simp
        clear HR hx hb hbc
        go_wp2_with (at_builtin; refine Coll.push Try.underlying22 string_info rfl (by decide) hco rfl (by rw [List.length_map]; omega) rfl _ _ rfl rfl rfl ?_; intro v1 w1 hc1 hg1)
        go_roundw
        case rel => exact ⟨k + 1, k + 1, acc ++ [s.extract a k], by omega, by omega, by simp; omega, by go_num, by go_num, by simpa using hc1, H2.out⟩
        case measure => simp [intOf]; omega
      · rw [if_neg hbc] at HR
        have hcb : ((b.toNat : Int) == (c.toNat : Int)) = false := by
          simp; intro e; exact hbc (UInt8.toNat_inj.1 (by omega))
        have H2 : Hid (acc ++ (splitGo c (((by_ s).take (k + 1)).drop a) ((by_ s).drop (k + 1))).map mkB = splitB c s) := by
          unfold Hid
          rw [← HR, cut_step hx hak]
        clear HR hx hb hbc
        go_wp2
        go_roundw
        case rel => exact ⟨k + 1, a, acc, by omega, by omega, by omega, by go_num, rfl, hco, H2.out⟩
        case measure => simp [intOf]; omega
    · have hks : k = s.size := by omega
      have H2 : Hid (acc ++ [s.extract a s.size] = splitB c s) := by
        unfold Hid
        have e : (by_ s).drop k = [] := List.drop_eq_nil_of_le (by rw [by_len]; omega)
        rw [← HR, e, splitGo, extract_eq, hks]; rfl
      clear HR hks
      go_wp2_with (at_builtin; refine Coll.push Try.underlying22 string_info rfl (by decide) hco rfl (by rw [List.length_map]; omega) rfl _ _ rfl rfl rfl ?_; intro v1 w1 hc1 hg1)
      go_ret
      exact ⟨_, rfl, by rw [← H2.out]; simpa using hc1⟩
end Go.Proofs.Ytanpmjbephelaaa
