/-
  Texts: their bytes, what is read of them, what is made of bytes.
-/
import Derived.Test.YtcgjgelapjdihaaWords
namespace Go.Proofs.Ytcgjgelapjdihaa
set_option maxRecDepth 100000
open Go.RowKit

/-- The bytes of a text. -/
def by_ (s : ByteArray) : List UInt8 := s.data.toList
def ub (b : UInt8) : Value := .int .u8 (b.toNat : Int)
theorem by_len (s : ByteArray) : (by_ s).length = s.size := Array.length_toList
theorem by_get {s : ByteArray} {k : Nat} (h : k < s.size) : (by_ s)[k]? = some s[k] := by
  show s.data.toList[k]? = some s[k]
  rw [Array.getElem?_toList, Array.getElem?_eq_getElem (by exact h)]; rfl
theorem run_byte {s : ByteArray} {k : Nat} {b : UInt8} (h : (by_ s)[k]? = some b) (W : World) : (Instr.index 9 (.string s) (.int .i64 (k : Int))).run Try.prog W = .ok (.int .u8 (b.toNat : Int)) W := by
  have hk : k < s.size := by rw [← by_len]; exact (List.getElem?_eq_some_iff.1 h).1
  rw [by_get hk] at h
  cases h
  rw [run_index_string _ _ _ _ _ Try.underlying9]
  simp [hk]
theorem ba_eq {a b : ByteArray} (h : by_ a = by_ b) : a = b := by
  cases a; cases b
  simp only [by_] at h
  congr 1
  exact Array.ext' h
theorem by_append (a b : ByteArray) : by_ (a ++ b) = by_ a ++ by_ b := by simp [by_]
theorem by_mk (l : List UInt8) : by_ ⟨l.toArray⟩ = l := rfl
theorem mk_by (s : ByteArray) : (⟨(by_ s).toArray⟩ : ByteArray) = s := ba_eq rfl

def lenV : Value → Nat
  | .slice _ n _ => n
  | _ => 0

/-- Is every byte in the range? -/
def textGo (lo : Int) : List UInt8 → Bool
  | [] => true
  | b :: bs => if (b.toNat : Int) < lo ∨ 126 < (b.toNat : Int) then false else textGo lo bs

/-- A text of at most m bytes, each from lo to 126. -/
def isTxt (lo m : Int) (s : ByteArray) : Bool := decide ((s.size : Int) ≤ m) && textGo lo (by_ s)

theorem l00Text_any (w : World) (s : ByteArray) (m : Int) (hs : s.size ≤ 9223372036854775807) :
    Calls Try.prog 33 #[.string s, .int .i64 m] w fun e w' => e = .returned (.bool (isTxt 32 m s)) ∧ w = w' := by
  go_enter Try.func33, Try.ntmps33
  go_wp2
  go_loop [5] (fun i => ∃ k : Nat, k ≤ s.size ∧ i = .int .i64 k ∧ textGo 32 ((by_ s).drop k) = textGo 32 (by_ s)) (fun i => s.size - (intOf i).toNat)
  case atStart => exact ⟨0, Nat.zero_le _, rfl, by simp⟩
  case round =>
    obtain ⟨k, hk, rfl, HR⟩ := hrel
    by_cases hlt : k < s.size
    · have hx := by_get hlt
      obtain ⟨b, hb⟩ : ∃ b, s[k] = b := ⟨_, rfl⟩
      rw [hb] at hx
      have hrun := run_byte hx
      rw [drop_get hx, textGo] at HR
      by_cases hbad : (b.toNat : Int) < 32 ∨ 126 < (b.toNat : Int)
      · rw [if_pos hbad] at HR
        have H2 := hide HR
        clear HR hx hb
        rcases hbad with hbad | hbad
        all_goals
          go_wp2
          all_goals go_ret
          all_goals exact ⟨ret_bool (by rw [isTxt, ← H2.out, Bool.and_false]), rfl⟩
      · rw [if_neg hbad] at HR
        have H2 := hide HR
        have hb1 : ¬ (b.toNat : Int) < 32 := fun h => hbad (.inl h)
        have hb2 : ¬ 126 < (b.toNat : Int) := fun h => hbad (.inr h)
        clear HR hx hb hbad
        go_wp2
        go_round
        case rel => exact ⟨k + 1, by omega, by go_num, H2.out⟩
        case measure => simp [intOf]; omega
    · have H2 : Hid (textGo 32 (by_ s) = true) := by
        unfold Hid
        rw [← HR, List.drop_eq_nil_of_le (by rw [by_len]; omega)]; rfl
      clear HR
      go_wp2
      go_ret
      exact ⟨ret_bool (by rw [isTxt, H2.out, Bool.and_true]), rfl⟩
theorem isText_any (w : World) (s : ByteArray) (lo m : Int) (hs : s.size ≤ 9223372036854775807) :
    Calls Try.prog 36 #[.string s, .int .u8 lo, .int .i64 m] w fun e w' => e = .returned (.bool (isTxt lo m s)) ∧ w = w' := by
  by_cases hm : (s.size : Int) ≤ m
  · have HM : Hid (isTxt lo m s = textGo lo (by_ s)) := by unfold Hid isTxt; simp [hm]
    go_enter Try.func36, Try.ntmps36
    go_wp2
    go_loop [14] (fun i => ∃ k : Nat, k ≤ s.size ∧ i = .int .i64 k ∧ textGo lo ((by_ s).drop k) = textGo lo (by_ s)) (fun i => s.size - (intOf i).toNat)
    case atStart => exact ⟨0, Nat.zero_le _, rfl, by simp⟩
    case round =>
      obtain ⟨k, hk, rfl, HR⟩ := hrel
      by_cases hlt : k < s.size
      · have hx := by_get hlt
        obtain ⟨b, hb⟩ : ∃ b, s[k] = b := ⟨_, rfl⟩
        rw [hb] at hx
        have hrun := run_byte hx
        rw [drop_get hx, textGo] at HR
        by_cases hbad : (b.toNat : Int) < lo ∨ 126 < (b.toNat : Int)
        · rw [if_pos hbad] at HR
          have H2 := hide HR
          clear HR hx hb
          rcases hbad with hbad | hbad
          all_goals
            go_wp2
            all_goals go_ret
            all_goals exact ⟨ret_bool (by rw [HM.out, ← H2.out]), rfl⟩
        · rw [if_neg hbad] at HR
          have H2 := hide HR
          have hb1 : ¬ (b.toNat : Int) < lo := fun h => hbad (.inl h)
          have hb2 : ¬ 126 < (b.toNat : Int) := fun h => hbad (.inr h)
          clear HR hx hb hbad
          go_wp2
          go_round
          case rel => exact ⟨k + 1, by omega, by go_num, H2.out⟩
          case measure => simp [intOf]; omega
      · have H2 : Hid (textGo lo (by_ s) = true) := by
          unfold Hid
          rw [← HR, List.drop_eq_nil_of_le (by rw [by_len]; omega)]; rfl
        clear HR
        go_wp2
        go_ret
        exact ⟨ret_bool (by rw [HM.out, H2.out]), rfl⟩
  · have HM : Hid (isTxt lo m s = false) := by unfold Hid isTxt; simp [hm]
    go_enter Try.func36, Try.ntmps36
    go_wp2
    go_ret
    exact ⟨ret_bool (by rw [HM.out]), rfl⟩
end Go.Proofs.Ytcgjgelapjdihaa
