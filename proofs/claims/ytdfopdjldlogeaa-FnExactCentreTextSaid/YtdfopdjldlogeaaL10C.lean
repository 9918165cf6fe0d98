/-
  JoinSpread, SpreadText, LeaderLine: what each returns, for all arguments.
-/
import Derived.Test.YtdfopdjldlogeaaL10B
namespace Go.Proofs.Ytdfopdjldlogeaa
open Go.RowKit

theorem bn_eq {b c : UInt8} (h : b = c) : ((b.toNat : Int) != (c.toNat : Int)) = false := by rw [bne, b_eq h]; rfl
theorem bn_ne {b c : UInt8} (h : ¬ b = c) : ((b.toNat : Int) != (c.toNat : Int)) = true := by rw [bne, b_ne h]; rfl
def mkB (l : List UInt8) : ByteArray := ⟨l.toArray⟩
theorem ub_push {l : List UInt8} {b : UInt8} : (l ++ [b]).map ub = l.map ub ++ [.int .u8 (b.toNat : Int)] := by simp [ub]

/-! ### JoinSpread -/
def joinGo : Nat → List UInt8 → Option (List UInt8)
  | _, [] => some []
  | i, b :: bs => if i % 2 = 0 then (joinGo (i + 1) bs).map (b :: ·) else if b = 32 then joinGo (i + 1) bs else none
def joinSpread (s : ByteArray) : ByteArray × Int :=
  if isSet s = true then (match joinGo 0 (by_ s) with | none => (⟨#[]⟩, 8) | some l => (mkB l, 0)) else (⟨#[]⟩, 2)

set_option maxHeartbeats 400000 in
theorem JoinSpread_s (w : World) (s : ByteArray) (hs : s.size ≤ 1048576) :
    Calls Try.prog 20 #[.string s] w fun e w' => e = .returned (.tuple #[.string (joinSpread s).1, .int .i64 (joinSpread s).2]) ∧ Below w.heap.size w w' := by
  by_cases h1 : isSet s = true
  · have HR1 : Hid (joinSpread s = match joinGo 0 (by_ s) with | none => (⟨#[]⟩, 8) | some l => (mkB l, 0)) := by unfold Hid joinSpread; rw [if_pos h1]
    have h0 := Coll.empty (e := 5) (Below.refl w.heap.size w)
    go_enter Try.func20, Try.ntmps20
    go_wp2_with (go_at_call 41; refine (l10Text_any _ s (by omega)).mono ?_; rintro e w1 ⟨rfl, rfl⟩)
    clear h1
    go_loopw [4, 5] (fun v i wr => ∃ (k : Nat) (acc : List UInt8), k ≤ s.size ∧ acc.length ≤ k ∧ i = .int .i64 k ∧ Coll w wr 5 v (acc.map ub) ∧ (joinGo k ((by_ s).drop k)).map (acc ++ ·) = joinGo 0 (by_ s)) (fun _ i _ => s.size - (intOf i).toNat)
    case atStart => exact ⟨0, [], Nat.zero_le _, Nat.le_refl _, rfl, h0, by simp⟩
    case round =>
      clear h0
      obtain ⟨k, acc, hk, ha, rfl, hco, HR⟩ := hrel
      by_cases hlt : k < s.size
      · have hx := by_get hlt
        obtain ⟨b, hb⟩ : ∃ b, s[k] = b := ⟨_, rfl⟩
        rw [hb] at hx
        have hrun := run_byte hx
        rw [drop_get hx, joinGo] at HR
        by_cases hk2 : k % 2 = 0
        · rw [if_pos hk2] at HR
          have hkb : ((k : Int) % 2 == 0) = true := beq_iff_eq.2 (by omega)
          have H2 : Hid ((joinGo (k + 1) ((by_ s).drop (k + 1))).map ((acc ++ [b]) ++ ·) = joinGo 0 (by_ s)) := by
            unfold Hid; rw [← HR, Option.map_map]; congr 1; funext l; simp
          clear HR hx hb hk2
          go_wp2_with (at_builtin; refine Coll.push Try.underlying46 byte_info rfl (by decide) hco rfl (by rw [List.length_map]; omega) rfl _ _ rfl rfl rfl ?_; intro v1 w1 hc1 hg1)
          go_roundw
          case rel => exact ⟨k + 1, acc ++ [b], by omega, by simp; omega, by go_num, by rw [ub_push]; exact hc1, H2.out⟩
          case measure => simp [intOf]; omega
        · rw [if_neg hk2] at HR
          have hkb : ((k : Int) % 2 == 0) = false := beq_eq_false_iff_ne.2 (by omega)
          by_cases hb32 : b = 32
          · rw [if_pos hb32] at HR
            have hcb : ((b.toNat : Int) != 32) = false := bn_eq (c := 32) hb32
            have H2 := hide HR
            clear HR hx hb hk2 hb32
            go_wp2
            go_roundw
            case rel => exact ⟨k + 1, acc, by omega, by omega, by go_num, hco, H2.out⟩
            case measure => simp [intOf]; omega
          · rw [if_neg hb32] at HR
            have hcb : ((b.toNat : Int) != 32) = true := bn_ne (c := 32) hb32
            have H2 : Hid (joinSpread s = (⟨#[]⟩, 8)) := by unfold Hid; rw [HR1.out, ← HR]; rfl
            clear HR hx hb hk2 hb32
            go_wp2
            go_ret2
            exact ⟨by rw [H2.out]; rfl, hco.below⟩
      · have e : (by_ s).drop k = [] := List.drop_eq_nil_of_le (by rw [by_len]; omega)
        have H2 : Hid (joinSpread s = (mkB acc, 0)) := by unfold Hid; rw [HR1.out, ← HR, e, joinGo]; simp
        have hst := hco.str
        clear HR e
        go_wp2
        go_ret2
        exact ⟨by rw [H2.out]; rfl, hco.below⟩
  · have HR0 : Hid (joinSpread s = (⟨#[]⟩, 2)) := by unfold Hid joinSpread; rw [if_neg h1]
    replace h1 : isSet s = false := by simpa using h1
    go_enter Try.func20, Try.ntmps20
    go_wp2_with (go_at_call 41; refine (l10Text_any _ s (by omega)).mono ?_; rintro e w1 ⟨rfl, rfl⟩)
    go_ret2
    exact ⟨by rw [HR0.out]; rfl, Below.refl _ _⟩
set_option maxHeartbeats 400000 in
theorem JoinSpread_i (w : World) (s : ByteArray) (hs : s.size ≤ 1048576) :
    Calls Try.prog 21 #[.string s] w fun e w' => e = .returned (.tuple #[.string (joinSpread s).1, .int .i64 (joinSpread s).2]) ∧ Below w.heap.size w w' := by
  by_cases h1 : isSet s = true
  · have HR1 : Hid (joinSpread s = match joinGo 0 (by_ s) with | none => (⟨#[]⟩, 8) | some l => (mkB l, 0)) := by unfold Hid joinSpread; rw [if_pos h1]
    have h0 := Coll.empty (e := 5) (Below.refl w.heap.size w)
    go_enter Try.func21, Try.ntmps21
    go_wp2_with (go_at_call 42; refine (isSetting_any _ s (by omega)).mono ?_; rintro e w1 ⟨rfl, rfl⟩)
    clear h1
    go_loopw [4, 12] (fun v i wr => ∃ (k : Nat) (acc : List UInt8), k ≤ s.size ∧ acc.length ≤ k ∧ i = .int .i64 k ∧ Coll w wr 5 v (acc.map ub) ∧ (joinGo k ((by_ s).drop k)).map (acc ++ ·) = joinGo 0 (by_ s)) (fun _ i _ => s.size - (intOf i).toNat)
    case atStart => exact ⟨0, [], Nat.zero_le _, Nat.le_refl _, rfl, h0, by simp⟩
    case round =>
      clear h0
      obtain ⟨k, acc, hk, ha, rfl, hco, HR⟩ := hrel
      by_cases hlt : k < s.size
      · have hx := by_get hlt
        obtain ⟨b, hb⟩ : ∃ b, s[k] = b := ⟨_, rfl⟩
        rw [hb] at hx
        have hrun := run_byte hx
        rw [drop_get hx, joinGo] at HR
        by_cases hk2 : k % 2 = 0
        · rw [if_pos hk2] at HR
          have hkb : ((k : Int) % 2 == 0) = true := beq_iff_eq.2 (by omega)
          have H2 : Hid ((joinGo (k + 1) ((by_ s).drop (k + 1))).map ((acc ++ [b]) ++ ·) = joinGo 0 (by_ s)) := by
            unfold Hid; rw [← HR, Option.map_map]; congr 1; funext l; simp
          clear HR hx hb hk2
          go_wp2_with (at_builtin; refine Coll.push Try.underlying46 byte_info rfl (by decide) hco rfl (by rw [List.length_map]; omega) rfl _ _ rfl rfl rfl ?_; intro v1 w1 hc1 hg1)
          go_roundw
          case rel => exact ⟨k + 1, acc ++ [b], by omega, by simp; omega, by go_num, by rw [ub_push]; exact hc1, H2.out⟩
          case measure => simp [intOf]; omega
        · rw [if_neg hk2] at HR
          have hkb : ((k : Int) % 2 == 0) = false := beq_eq_false_iff_ne.2 (by omega)
          by_cases hb32 : b = 32
          · rw [if_pos hb32] at HR
            have hcb : ((b.toNat : Int) != 32) = false := bn_eq (c := 32) hb32
            have H2 := hide HR
            clear HR hx hb hk2 hb32
            go_wp2
            go_roundw
            case rel => exact ⟨k + 1, acc, by omega, by omega, by go_num, hco, H2.out⟩
            case measure => simp [intOf]; omega
          · rw [if_neg hb32] at HR
            have hcb : ((b.toNat : Int) != 32) = true := bn_ne (c := 32) hb32
            have H2 : Hid (joinSpread s = (⟨#[]⟩, 8)) := by unfold Hid; rw [HR1.out, ← HR]; rfl
            clear HR hx hb hk2 hb32
            go_wp2
            go_ret2
            exact ⟨by rw [H2.out]; rfl, hco.below⟩
      · have e : (by_ s).drop k = [] := List.drop_eq_nil_of_le (by rw [by_len]; omega)
        have H2 : Hid (joinSpread s = (mkB acc, 0)) := by unfold Hid; rw [HR1.out, ← HR, e, joinGo]; simp
        have hst := hco.str
        clear HR e
        go_wp2
        go_ret2
        exact ⟨by rw [H2.out]; rfl, hco.below⟩
  · have HR0 : Hid (joinSpread s = (⟨#[]⟩, 2)) := by unfold Hid joinSpread; rw [if_neg h1]
    replace h1 : isSet s = false := by simpa using h1
    go_enter Try.func21, Try.ntmps21
    go_wp2_with (go_at_call 42; refine (isSetting_any _ s (by omega)).mono ?_; rintro e w1 ⟨rfl, rfl⟩)
    go_ret2
    exact ⟨by rw [HR0.out]; rfl, Below.refl _ _⟩

/-! ### SpreadText -/
def spreadGo : Nat → List UInt8 → List UInt8
  | _, [] => []
  | i, b :: bs => (if 0 < i then [32, b] else [b]) ++ spreadGo (i + 1) bs
theorem spreadGo_len (l : List UInt8) : ∀ i, (spreadGo i l).length ≤ 2 * l.length := by
  induction l with
  | nil => intro i; simp [spreadGo]
  | cons b bs ih => intro i; rw [spreadGo]; have := ih (i + 1); split <;> simp <;> omega
def spreadText (s : ByteArray) : ByteArray × Int :=
  if isSet s = true then (if 100 < (spreadGo 0 (by_ s)).length then (⟨#[]⟩, 5) else (mkB (spreadGo 0 (by_ s)), 0)) else (⟨#[]⟩, 2)

set_option maxHeartbeats 400000 in
theorem l10Spread_any (w : World) (s : ByteArray) (hs : s.size ≤ 1048576) :
    Calls Try.prog 49 #[.string s] w fun e w' => e = .returned (.string (mkB (spreadGo 0 (by_ s)))) ∧ Below w.heap.size w w' := by
  have h0 := Coll.empty (e := 5) (Below.refl w.heap.size w)
  go_enter Try.func49, Try.ntmps49
  go_wp2
  go_loopw [3, 4] (fun v i wr => ∃ (k : Nat) (acc : List UInt8), k ≤ s.size ∧ acc.length ≤ 2 * k ∧ i = .int .i64 k ∧ Coll w wr 5 v (acc.map ub) ∧ acc ++ spreadGo k ((by_ s).drop k) = spreadGo 0 (by_ s)) (fun _ i _ => s.size - (intOf i).toNat)
  case atStart => exact ⟨0, [], Nat.zero_le _, Nat.le_refl _, rfl, h0, by simp⟩
  case round =>
    clear h0
    obtain ⟨k, acc, hk, ha, rfl, hco, HR⟩ := hrel
    by_cases hlt : k < s.size
    · have hx := by_get hlt
      obtain ⟨b, hb⟩ : ∃ b, s[k] = b := ⟨_, rfl⟩
      rw [hb] at hx
      have hrun := run_byte hx
      rw [drop_get hx, spreadGo] at HR
      by_cases hk0 : 0 < k
      · rw [if_pos hk0] at HR
        have H2 : Hid ((acc ++ [32] ++ [b]) ++ spreadGo (k + 1) ((by_ s).drop (k + 1)) = spreadGo 0 (by_ s)) := by unfold Hid; rw [← HR]; simp
        clear HR hx hb
        go_wp2_with (first
          | (at_builtin; refine Coll.push Try.underlying46 byte_info rfl (by decide) hco rfl (by rw [List.length_map]; omega) rfl _ _ rfl rfl rfl ?_; intro v1 w1 hc1 hg1)
          | (at_builtin; refine Coll.push Try.underlying46 byte_info rfl (by decide) hc1 rfl (by simp; omega) rfl _ _ rfl rfl rfl ?_; intro v2 w2 hc2 hg2))
        go_roundw
        case rel => exact ⟨k + 1, acc ++ [32] ++ [b], by omega, by simp; omega, by go_num, by rw [ub_push, ub_push]; exact hc2, H2.out⟩
        case measure => simp [intOf]; omega
      · rw [if_neg hk0] at HR
        have H2 : Hid ((acc ++ [b]) ++ spreadGo (k + 1) ((by_ s).drop (k + 1)) = spreadGo 0 (by_ s)) := by unfold Hid; rw [← HR]; simp
        clear HR hx hb
        go_wp2_with (at_builtin; refine Coll.push Try.underlying46 byte_info rfl (by decide) hco rfl (by rw [List.length_map]; omega) rfl _ _ rfl rfl rfl ?_; intro v1 w1 hc1 hg1)
        go_roundw
        case rel => exact ⟨k + 1, acc ++ [b], by omega, by simp; omega, by go_num, by rw [ub_push]; exact hc1, H2.out⟩
        case measure => simp [intOf]; omega
    · have e : (by_ s).drop k = [] := List.drop_eq_nil_of_le (by rw [by_len]; omega)
      have H2 : Hid (acc = spreadGo 0 (by_ s)) := by unfold Hid; rw [← HR, e, spreadGo]; simp
      have hst := hco.str
      clear HR e
      go_wp2
      go_ret
      exact ⟨by rw [← H2.out]; rfl, hco.below⟩

theorem SpreadText_s (w : World) (s : ByteArray) (hs : s.size ≤ 1048576) :
    Calls Try.prog 22 #[.string s] w fun e w' => e = .returned (.tuple #[.string (spreadText s).1, .int .i64 (spreadText s).2]) ∧ Below w.heap.size w w' := by
  have hl := spreadGo_len (by_ s) 0
  rw [by_len] at hl
  have hz : (mkB (spreadGo 0 (by_ s))).size = (spreadGo 0 (by_ s)).length := rfl
  by_cases h1 : isSet s = true
  · by_cases h2 : 100 < (spreadGo 0 (by_ s)).length
    · have HR0 : Hid (spreadText s = (⟨#[]⟩, 5)) := by unfold Hid spreadText; rw [if_pos h1, if_pos h2]
      go_enter Try.func22, Try.ntmps22
      go_wp2_with (first | (go_at_call 41; refine (l10Text_any _ s (by omega)).mono ?_; rintro e w1 ⟨rfl, rfl⟩) | (go_at_call 49; refine (l10Spread_any _ s hs).mono ?_; rintro e w1 ⟨rfl, hb⟩; have hsz := hb.size; obtain ⟨hcw, hfw⟩ := bcell hb))
      go_ret2
      exact ⟨by rw [HR0.out]; rfl, by (repeat first | exact Below.refl _ _ | (refine Below.alloc ?_ (by go_size) _) | (refine Below.step ?_ (by assumption)))⟩
    · have HR0 : Hid (spreadText s = (mkB (spreadGo 0 (by_ s)), 0)) := by unfold Hid spreadText; rw [if_pos h1, if_neg h2]
      go_enter Try.func22, Try.ntmps22
      go_wp2_with (first | (go_at_call 41; refine (l10Text_any _ s (by omega)).mono ?_; rintro e w1 ⟨rfl, rfl⟩) | (go_at_call 49; refine (l10Spread_any _ s hs).mono ?_; rintro e w1 ⟨rfl, hb⟩; have hsz := hb.size; obtain ⟨hcw, hfw⟩ := bcell hb))
      go_ret2
      exact ⟨by rw [HR0.out]; rfl, by (repeat first | exact Below.refl _ _ | (refine Below.alloc ?_ (by go_size) _) | (refine Below.step ?_ (by assumption)))⟩
  · have HR0 : Hid (spreadText s = (⟨#[]⟩, 2)) := by unfold Hid spreadText; rw [if_neg h1]
    replace h1 : isSet s = false := by simpa using h1
    go_enter Try.func22, Try.ntmps22
    go_wp2_with (go_at_call 41; refine (l10Text_any _ s (by omega)).mono ?_; rintro e w1 ⟨rfl, rfl⟩)
    go_ret2
    exact ⟨by rw [HR0.out]; rfl, by (repeat first | exact Below.refl _ _ | (refine Below.alloc ?_ (by go_size) _) | (refine Below.step ?_ (by assumption)))⟩

theorem by_sub {s : ByteArray} {k : Nat} {b : UInt8} (hx : (by_ s)[k]? = some b) : s.extract k (k + 1) = ⟨#[b]⟩ := by
  apply ba_eq
  rw [by_one]
  obtain ⟨h1, h2⟩ := List.getElem?_eq_some_iff.1 hx
  simp only [by_, ByteArray.data_extract, Array.toList_extract, List.extract_eq_take_drop]
  rw [show k + 1 - k = 1 from by omega]
  have : (List.drop k s.data.toList).take 1 = [b] := by
    have := drop_get hx
    unfold by_ at this
    rw [this]; rfl
  exact this

theorem run_sub {s : ByteArray} {k : Nat} {b : UInt8} (hx : (by_ s)[k]? = some b) (W : World) :
    (Instr.slice 9 (.string s) (some (.int .i64 (k : Int))) (some (.int .i64 ((k : Int) + 1))) none).run Try.prog W = .ok (.string ⟨#[b]⟩) W := by
  have hk : k < s.size := by rw [← by_len]; exact (List.getElem?_eq_some_iff.1 hx).1
  rw [run_slice_string _ _ _ _ _ _ _ Try.underlying9 (by omega) (by omega) (by omega)]
  rw [show ((k : Int) + 1).toNat = k + 1 from by omega, Int.toNat_natCast, by_sub hx]

set_option maxHeartbeats 400000 in
theorem SpreadText_i (w : World) (s : ByteArray) (hs : s.size ≤ 1048576) :
    Calls Try.prog 23 #[.string s] w fun e w' => e = .returned (.tuple #[.string (spreadText s).1, .int .i64 (spreadText s).2]) ∧ Below w.heap.size w w' := by
  by_cases h1 : isSet s = true
  · have HR1 : Hid (spreadText s = if 100 < (spreadGo 0 (by_ s)).length then (⟨#[]⟩, 5) else (mkB (spreadGo 0 (by_ s)), 0)) := by unfold Hid spreadText; rw [if_pos h1]
    go_enter Try.func23, Try.ntmps23
    go_wp2_with (go_at_call 42; refine (isSetting_any _ s (by omega)).mono ?_; rintro e w1 ⟨rfl, rfl⟩)
    clear h1
    go_loop [4, 11] (fun v i => ∃ (k : Nat) (acc : ByteArray), k ≤ s.size ∧ acc.size ≤ 2 * k ∧ i = .int .i64 k ∧ v = .string acc ∧ by_ acc ++ spreadGo k ((by_ s).drop k) = spreadGo 0 (by_ s)) (fun _ i => s.size - (intOf i).toNat)
    case atStart => exact ⟨0, ⟨#[]⟩, Nat.zero_le _, Nat.le_refl _, rfl, rfl, by simp [by_]⟩
    case round =>
      obtain ⟨k, acc, hk, ha, rfl, rfl, HR⟩ := hrel
      by_cases hlt : k < s.size
      · have hx := by_get hlt
        obtain ⟨b, hb⟩ : ∃ b, s[k] = b := ⟨_, rfl⟩
        rw [hb] at hx
        have hsub := run_sub hx
        rw [drop_get hx, spreadGo] at HR
        have hz1 : (⟨#[32]⟩ : ByteArray).size = 1 := rfl
        have hz2 : (⟨#[b]⟩ : ByteArray).size = 1 := rfl
        by_cases hk0 : 0 < k
        · rw [if_pos hk0] at HR
          have H2 : Hid (by_ (acc ++ ⟨#[32]⟩ ++ ⟨#[b]⟩) ++ spreadGo (k + 1) ((by_ s).drop (k + 1)) = spreadGo 0 (by_ s)) := by unfold Hid; rw [← HR, by_append, by_append, by_one, by_one]; simp
          clear HR hx hb
          go_wp2
          go_round
          case rel => exact ⟨k + 1, acc ++ ⟨#[32]⟩ ++ ⟨#[b]⟩, by omega, by simp [ByteArray.size_append, hz1, hz2]; omega, by go_num, rfl, H2.out⟩
          case measure => simp [intOf]; omega
        · rw [if_neg hk0] at HR
          have H2 : Hid (by_ (acc ++ ⟨#[b]⟩) ++ spreadGo (k + 1) ((by_ s).drop (k + 1)) = spreadGo 0 (by_ s)) := by unfold Hid; rw [← HR, by_append, by_one]; simp
          clear HR hx hb
          go_wp2
          go_round
          case rel => exact ⟨k + 1, acc ++ ⟨#[b]⟩, by omega, by simp [ByteArray.size_append, hz2]; omega, by go_num, rfl, H2.out⟩
          case measure => simp [intOf]; omega
      · have e : (by_ s).drop k = [] := List.drop_eq_nil_of_le (by rw [by_len]; omega)
        have e2 : by_ acc = spreadGo 0 (by_ s) := by rw [← HR, e, spreadGo]; simp
        rw [← e2, by_len] at HR1
        clear HR e e2
        by_cases h2 : 100 < acc.size
        · rw [if_pos h2] at HR1
          go_wp2
          go_ret2
          exact ⟨by rw [HR1.out]; rfl, Below.refl _ _⟩
        · rw [if_neg h2] at HR1
          go_wp2
          go_ret2
          exact ⟨by rw [HR1.out, mkB, mk_by]; rfl, Below.refl _ _⟩
  · have HR0 : Hid (spreadText s = (⟨#[]⟩, 2)) := by unfold Hid spreadText; rw [if_neg h1]
    replace h1 : isSet s = false := by simpa using h1
    go_enter Try.func23, Try.ntmps23
    go_wp2_with (go_at_call 42; refine (isSetting_any _ s (by omega)).mono ?_; rintro e w1 ⟨rfl, rfl⟩)
    go_ret2
    exact ⟨by rw [HR0.out]; rfl, Below.refl _ _⟩

/-! ### LeaderLine -/
def leaderLine (a b : ByteArray) (n : Int) : ByteArray × Int :=
  if isSet a = true ∧ isSet b = true ∧ inB n 1 100 = true then
    (if n - a.size - b.size - 2 < 2 then (⟨#[]⟩, 5) else (a ++ ⟨#[32]⟩ ++ runs 46 (n - a.size - b.size - 2) ++ ⟨#[32]⟩ ++ b, 0))
  else (⟨#[]⟩, 2)
theorem LeaderLine_i (w : World) (a b : ByteArray) (n : Int) (ha : a.size ≤ 1048576) (hb : b.size ≤ 1048576) :
    Calls Try.prog 25 #[.string a, .string b, .int .i64 n] w fun e w' => e = .returned (.tuple #[.string (leaderLine a b n).1, .int .i64 (leaderLine a b n).2]) ∧ Below w.heap.size w w' := by
  by_cases h1 : isSet a = true
  · by_cases h2 : isSet b = true
    · by_cases h3 : inB n 1 100 = true
      · have h3' := inB_iff.1 h3
        have hs1 := isSet_size h1
        have hs2 := isSet_size h2
        have hz1 : (⟨#[32]⟩ : ByteArray).size = 1 := rfl
        by_cases h4 : n - a.size - b.size - 2 < 2
        · have HR0 : Hid (leaderLine a b n = (⟨#[]⟩, 5)) := by unfold Hid leaderLine; rw [if_pos ⟨h1, h2, h3⟩, if_pos h4]
          go_enter Try.func25, Try.ntmps25
          go_wp2_with (first | (go_at_call 42; refine (isSetting_any _ _ (by omega)).mono ?_; rintro e w1 ⟨rfl, rfl⟩) | (go_at_call 47; refine (isWidth_any _ _).mono ?_; rintro e w1 ⟨rfl, rfl⟩))
          go_ret2
          exact ⟨by rw [HR0.out]; rfl, Below.refl _ _⟩
        · have HR0 : Hid (leaderLine a b n = (a ++ ⟨#[32]⟩ ++ runs 46 (n - a.size - b.size - 2) ++ ⟨#[32]⟩ ++ b, 0)) := by unfold Hid leaderLine; rw [if_pos ⟨h1, h2, h3⟩, if_neg h4]
          have hsz : (runs 46 (n - a.size - b.size - 2)).size ≤ 100 := by rw [runs_size]; omega
          skip
          go_enter Try.func25, Try.ntmps25
          go_wp2_with (first | (go_at_call 42; refine (isSetting_any _ _ (by omega)).mono ?_; rintro e w1 ⟨rfl, rfl⟩) | (go_at_call 47; refine (isWidth_any _ _).mono ?_; rintro e w1 ⟨rfl, rfl⟩) | (go_at_call 48; refine (repeat_any _ _ _ (by omega)).mono ?_; rintro e w1 ⟨rfl, hb1⟩))
          go_ret2
          exact ⟨by rw [HR0.out]; rfl, by (repeat first | exact Below.refl _ _ | (refine Below.alloc ?_ (by go_size) _) | (refine Below.step ?_ (by assumption)))⟩
      · have HR0 : Hid (leaderLine a b n = (⟨#[]⟩, 2)) := by unfold Hid leaderLine; rw [if_neg (fun e => h3 e.2.2)]
        replace h3 : inB n 1 100 = false := by simpa using h3
        go_enter Try.func25, Try.ntmps25
        go_wp2_with (first | (go_at_call 42; refine (isSetting_any _ _ (by omega)).mono ?_; rintro e w1 ⟨rfl, rfl⟩) | (go_at_call 47; refine (isWidth_any _ _).mono ?_; rintro e w1 ⟨rfl, rfl⟩))
        go_ret2
        exact ⟨by rw [HR0.out]; rfl, Below.refl _ _⟩
    · have HR0 : Hid (leaderLine a b n = (⟨#[]⟩, 2)) := by unfold Hid leaderLine; rw [if_neg (fun e => h2 e.2.1)]
      replace h2 : isSet b = false := by simpa using h2
      go_enter Try.func25, Try.ntmps25
      go_wp2_with (go_at_call 42; refine (isSetting_any _ _ (by omega)).mono ?_; rintro e w1 ⟨rfl, rfl⟩)
      go_ret2
      exact ⟨by rw [HR0.out]; rfl, Below.refl _ _⟩
  · have HR0 : Hid (leaderLine a b n = (⟨#[]⟩, 2)) := by unfold Hid leaderLine; rw [if_neg (fun e => h1 e.1)]
    replace h1 : isSet a = false := by simpa using h1
    go_enter Try.func25, Try.ntmps25
    go_wp2_with (go_at_call 42; refine (isSetting_any _ _ (by omega)).mono ?_; rintro e w1 ⟨rfl, rfl⟩)
    go_ret2
    exact ⟨by rw [HR0.out]; rfl, Below.refl _ _⟩
theorem LeaderLine_s (w : World) (a b : ByteArray) (n : Int) (ha : a.size ≤ 1048576) (hb : b.size ≤ 1048576) :
    Calls Try.prog 24 #[.string a, .string b, .int .i64 n] w fun e w' => e = .returned (.tuple #[.string (leaderLine a b n).1, .int .i64 (leaderLine a b n).2]) ∧ Below w.heap.size w w' := by
  by_cases h1 : isSet a = true
  · by_cases h2 : isSet b = true
    · by_cases h3 : inB n 1 100 = true
      · have h3' := inB_iff.1 h3
        have hs1 := isSet_size h1
        have hs2 := isSet_size h2
        have hz1 : (⟨#[32]⟩ : ByteArray).size = 1 := rfl
        by_cases h4 : n - a.size - b.size - 2 < 2
        · have HR0 : Hid (leaderLine a b n = (⟨#[]⟩, 5)) := by unfold Hid leaderLine; rw [if_pos ⟨h1, h2, h3⟩, if_pos h4]
          go_enter Try.func24, Try.ntmps24
          go_wp2_with (first | (go_at_call 41; refine (l10Text_any _ _ (by omega)).mono ?_; rintro e w1 ⟨rfl, rfl⟩) | (go_at_call 44; refine (l00In_any _ _ _ _).mono ?_; rintro e w1 ⟨rfl, rfl⟩))
          go_ret2
          exact ⟨by rw [HR0.out]; rfl, Below.refl _ _⟩
        · have HR0 : Hid (leaderLine a b n = (a ++ ⟨#[32]⟩ ++ runs 46 (n - a.size - b.size - 2) ++ ⟨#[32]⟩ ++ b, 0)) := by unfold Hid leaderLine; rw [if_pos ⟨h1, h2, h3⟩, if_neg h4]
          have hsz : (runs 46 (n - a.size - b.size - 2)).size ≤ 100 := by rw [runs_size]; omega
          have hnn : n - ((a.size : Int) + (b.size : Int)) - 2 = n - a.size - b.size - 2 := by omega
          go_enter Try.func24, Try.ntmps24
          go_wp2_with (first | (go_at_call 41; refine (l10Text_any _ _ (by omega)).mono ?_; rintro e w1 ⟨rfl, rfl⟩) | (go_at_call 44; refine (l00In_any _ _ _ _).mono ?_; rintro e w1 ⟨rfl, rfl⟩) | (go_at_call 45; refine (l10Rule_any _ 46 _ (by omega)).mono ?_; rintro e w1 ⟨rfl, hb1⟩))
          go_ret2
          exact ⟨by rw [HR0.out]; rfl, by (repeat first | exact Below.refl _ _ | (refine Below.alloc ?_ (by go_size) _) | (refine Below.step ?_ (by assumption)))⟩
      · have HR0 : Hid (leaderLine a b n = (⟨#[]⟩, 2)) := by unfold Hid leaderLine; rw [if_neg (fun e => h3 e.2.2)]
        replace h3 : inB n 1 100 = false := by simpa using h3
        go_enter Try.func24, Try.ntmps24
        go_wp2_with (first | (go_at_call 41; refine (l10Text_any _ _ (by omega)).mono ?_; rintro e w1 ⟨rfl, rfl⟩) | (go_at_call 44; refine (l00In_any _ _ _ _).mono ?_; rintro e w1 ⟨rfl, rfl⟩))
        go_ret2
        exact ⟨by rw [HR0.out]; rfl, Below.refl _ _⟩
    · have HR0 : Hid (leaderLine a b n = (⟨#[]⟩, 2)) := by unfold Hid leaderLine; rw [if_neg (fun e => h2 e.2.1)]
      replace h2 : isSet b = false := by simpa using h2
      go_enter Try.func24, Try.ntmps24
      go_wp2_with (go_at_call 41; refine (l10Text_any _ _ (by omega)).mono ?_; rintro e w1 ⟨rfl, rfl⟩)
      go_ret2
      exact ⟨by rw [HR0.out]; rfl, Below.refl _ _⟩
  · have HR0 : Hid (leaderLine a b n = (⟨#[]⟩, 2)) := by unfold Hid leaderLine; rw [if_neg (fun e => h1 e.1)]
    replace h1 : isSet a = false := by simpa using h1
    go_enter Try.func24, Try.ntmps24
    go_wp2_with (go_at_call 41; refine (l10Text_any _ _ (by omega)).mono ?_; rintro e w1 ⟨rfl, rfl⟩)
    go_ret2
    exact ⟨by rw [HR0.out]; rfl, Below.refl _ _⟩
end Go.Proofs.Ytdfopdjldlogeaa
