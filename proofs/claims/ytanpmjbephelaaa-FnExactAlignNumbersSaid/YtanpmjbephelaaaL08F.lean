/-
  Numbers with a point: what the program and the reference make of a text; DecimalStart.
-/
import Derived.Test.YtanpmjbephelaaaSplit
import Derived.Test.YtanpmjbephelaaaL08B
namespace Go.Proofs.Ytanpmjbephelaaa
set_option maxRecDepth 100000
open Go.RowKit

def digit (b : UInt8) : Bool := decide (48 ≤ (b.toNat : Int) ∧ (b.toNat : Int) ≤ 57)
theorem l01Digit_any (b : UInt8) (w : World) :
    Calls Try.prog 103 #[.int .u8 b.toNat] w fun e w' => e = .returned (.bool (digit b)) ∧ w = w' := by
  go_enter Try.func103, Try.ntmps103
  go_wp2
  all_goals go_ret
  all_goals (refine ⟨ret_bool ?_, rfl⟩; simp [digit]; try omega)
theorem isDigit_any (b : UInt8) (w : World) :
    Calls Try.prog 104 #[.int .u8 b.toNat] w fun e w' => e = .returned (.bool (digit b)) ∧ w = w' := by
  go_enter Try.func104, Try.ntmps104
  go_wp2
  all_goals go_ret
  all_goals (refine ⟨ret_bool ?_, rfl⟩; simp [digit]; try omega)

def okPart (p : List UInt8) : Bool := !p.isEmpty && p.all digit
def okParts (m : Nat) (ps : List (List UInt8)) : Bool := ps.all okPart && decide (ps.length ≤ m)
/-- The text without a sign in front. -/
def unsigned : List UInt8 → List UInt8
  | [] => []
  | b :: bs => if b = 45 then bs else b :: bs
def numB (s : ByteArray) : Bool := okParts 2 (splitGo 46 [] (unsigned (by_ s)))

/-- Where the point is; i bytes are behind us, the point was at p, so many digits since. -/
def pointGo : Nat → Option Nat → Nat → List UInt8 → Option Nat
  | i, p, d, [] => if d = 0 then none else some (p.getD i)
  | i, p, d, b :: bs => if digit b = true then pointGo (i + 1) p (d + 1) bs else if b = 46 ∧ p = none ∧ 0 < d then pointGo (i + 1) (some i) 0 bs else none
def pointOf (s : ByteArray) : Option Nat := pointGo ((by_ s).length - (unsigned (by_ s)).length) none 0 (unsigned (by_ s))
def pointAt : List UInt8 → Nat
  | [] => 0
  | b :: bs => if b = 46 then 0 else pointAt bs + 1

theorem digit_ne {b : UInt8} (h : digit b = true) : b ≠ 46 := by rintro rfl; simp [digit] at h
theorem bad_part (cur : List UInt8) (h : cur.all digit = false) : ∀ bs, (splitGo 46 cur bs).all okPart = false := by
  intro bs
  induction bs generalizing cur with
  | nil => simp [splitGo, okPart, h]
  | cons b bs ih =>
    rw [splitGo]
    split
    · simp [okPart, h]
    · exact ih _ (by rw [List.all_append, h, Bool.false_and])
theorem split_pos (cur : List UInt8) : ∀ bs, 1 ≤ (splitGo 46 cur bs).length := by
  intro bs
  induction bs generalizing cur with
  | nil => simp [splitGo]
  | cons b bs ih => rw [splitGo]; split; · simp
                    · exact ih _
/-- Behind the point. -/
theorem point_second (i q : Nat) (cur : List UInt8) (hc : cur.all digit = true) : ∀ bs, pointGo i (some q) cur.length bs = if okParts 1 (splitGo 46 cur bs) = true then some q else none := by
  intro bs
  induction bs generalizing i cur with
  | nil =>
    rw [pointGo, splitGo]
    cases cur with
    | nil => simp [okParts, okPart]
    | cons c cs => simp [okParts, okPart] at hc ⊢; exact hc
  | cons b bs ih =>
    rw [pointGo, splitGo]
    by_cases hd : digit b = true
    · rw [if_pos hd, if_neg (digit_ne hd)]
      have := ih (i + 1) (cur ++ [b]) (by rw [List.all_append, hc]; simp [hd])
      rw [← this]; simp
    · rw [if_neg hd, if_neg (by simp)]
      split
      · have := split_pos [] bs
        rw [if_neg]
        simp only [okParts, Bool.and_eq_true, decide_eq_true_eq, List.length_cons]
        omega
      · rw [if_neg]
        simp only [okParts, Bool.and_eq_true]
        intro h
        rw [bad_part (cur ++ [b]) (by rw [List.all_append]; simp [hd]) bs] at h
        cases h.1
/-- In front of the point. -/
theorem point_first (i : Nat) (cur : List UInt8) (hc : cur.all digit = true) : ∀ bs, pointGo i none cur.length bs = if okParts 2 (splitGo 46 cur bs) = true then some (i + pointAt bs) else none := by
  intro bs
  induction bs generalizing i cur with
  | nil =>
    rw [pointGo, splitGo]
    cases cur with
    | nil => simp [okParts, okPart]
    | cons c cs => simp [okParts, okPart, pointAt] at hc ⊢; exact hc
  | cons b bs ih =>
    rw [pointGo, splitGo]
    by_cases hd : digit b = true
    · rw [if_pos hd, if_neg (digit_ne hd)]
      have := ih (i + 1) (cur ++ [b]) (by rw [List.all_append, hc]; simp [hd])
      simp only [List.length_append, List.length_cons, List.length_nil, Nat.zero_add] at this
      rw [this, pointAt, if_neg (digit_ne hd)]
      congr 2
      omega
    · rw [if_neg hd]
      by_cases hb : b = 46
      · rw [if_pos hb, pointAt, if_pos hb]
        cases cur with
        | nil =>
          rw [if_neg (by simp), if_neg]
          simp [okParts, okPart]
        | cons c cs =>
          rw [if_pos ⟨hb, rfl, by simp⟩]
          have := point_second (i + 1) i [] rfl bs
          simp only [List.length_nil] at this
          rw [this]
          have e : okParts 2 ((c :: cs) :: splitGo 46 [] bs) = okParts 1 (splitGo 46 [] bs) := by
            have hp : okPart (c :: cs) = true := by simp [okPart] at hc ⊢; exact hc
            simp only [okParts, List.all_cons, hp, Bool.true_and, List.length_cons]
            congr 1
            simp
          rw [e]; rfl
      · rw [if_neg (fun h => hb h.1), if_neg hb, if_neg]
        simp only [okParts, Bool.and_eq_true]
        intro h
        rw [bad_part (cur ++ [b]) (by rw [List.all_append]; simp [hd]) bs] at h
        cases h.1
theorem pointAt_sign (l : List UInt8) : l.length - (unsigned l).length + pointAt (unsigned l) = pointAt l := by
  cases l with
  | nil => rfl
  | cons b bs =>
    rw [unsigned]
    split
    · rename_i h
      rw [pointAt, if_neg (by rw [h]; decide)]
      simp; omega
    · simp
theorem pointOf_eq (s : ByteArray) : pointOf s = if numB s = true then some (pointAt (by_ s)) else none := by
  rw [pointOf, numB]
  have := point_first ((by_ s).length - (unsigned (by_ s)).length) [] rfl (unsigned (by_ s))
  simp only [List.length_nil] at this
  rw [this, pointAt_sign]
theorem run_byte0 {s : ByteArray} {b : UInt8} (h : (by_ s)[0]? = some b) (W : World) : (Instr.index 9 (.string s) (.int .i64 0)).run Try.prog W = .ok (.int .u8 (b.toNat : Int)) W := run_byte (k := 0) h W
theorem splitB_by (c : UInt8) (s : ByteArray) : (splitB c s).map by_ = splitGo c [] (by_ s) := by
  rw [splitB, List.map_map]
  have : by_ ∘ mkB = id := rfl
  rw [this, List.map_id]
def okStrs (xs : List ByteArray) : Bool := xs.all fun x => okPart (by_ x)
theorem numB_eq (s u : ByteArray) (hu : by_ u = unsigned (by_ s)) : numB s = (okStrs (splitB 46 u) && decide ((splitB 46 u).length ≤ 2)) := by
  rw [numB, ← hu, ← splitB_by, okParts, okStrs, List.all_map, List.length_map]; rfl
theorem isEmpty_by (x : ByteArray) : x.toList.isEmpty = (by_ x).isEmpty := by rw [ByteArray.toList_eq]; rfl
theorem unsigned_size {s u : ByteArray} (hu : by_ u = unsigned (by_ s)) : u.size ≤ s.size := by
  rw [← by_len, ← by_len, hu]
  cases h : by_ s with
  | nil => simp [unsigned]
  | cons b bs => rw [unsigned]; split <;> simp

theorem splitGo_size (c : UInt8) (bs : List UInt8) : ∀ cur, ∀ p ∈ splitGo c cur bs, p.length ≤ cur.length + bs.length := by
  induction bs with
  | nil => intro cur p hp; simp [splitGo] at hp; subst hp; simp
  | cons b bs ih =>
    intro cur p hp
    rw [splitGo] at hp
    split at hp
    · rcases List.mem_cons.1 hp with rfl | hp
      · simp
      · have := ih [] p hp; simp at this ⊢; omega
    · have := ih _ p hp; simp at this ⊢; omega
theorem splitB_size (c : UInt8) (s : ByteArray) : ∀ x ∈ splitB c s, x.size ≤ s.size := by
  intro x hx
  obtain ⟨p, hp, rfl⟩ := List.mem_map.1 hx
  have := splitGo_size c (by_ s) [] p hp
  rw [by_len] at this
  rw [← by_len, by_mkB]
  simpa using this
set_option maxHeartbeats 1000000 in
theorem l08Number_any (w : World) (s : ByteArray) (hs : s.size ≤ 1048576) :
    Calls Try.prog 81 #[.string s] w fun e w' => e = .returned (.bool (numB s)) ∧ Below w.heap.size w w' := by
  by_cases h0 : 0 < s.size
  · have hx := by_get h0
    obtain ⟨b, hb⟩ : ∃ b, s[0] = b := ⟨_, rfl⟩
    rw [hb] at hx
    have hrun := run_byte0 hx
    have hcons : by_ s = b :: (by_ s).drop 1 := by have := drop_get hx; simpa using this
    by_cases hb45 : b = 45
    · have hcb : ((b.toNat : Int) == 45) = true := by simp [hb45]
      have HU : Hid (by_ (s.extract 1 s.size) = unsigned (by_ s)) := by
        unfold Hid
        rw [by_extract, List.take_of_length_le (by rw [by_len]; exact Nat.le_refl _)]
        rw [hcons, unsigned, if_pos hb45]; simp
      have hsu := unsigned_size HU.out
      clear hx hb hcons hb45
      go_enter Try.func81, Try.ntmps81
      go_wp2_with fail
      refine (l01Split_any _ _ 46 (by omega)).mono ?_
      rintro e w1 ⟨v1, rfl, hc1⟩
      obtain ⟨A1, c1, rfl, -, -, hs1⟩ := Sl.of_coll hc1
      have hB := hc1.below
      obtain ⟨m, hm⟩ : ∃ m, (splitB 46 (s.extract 1 s.size)).length = m := ⟨_, rfl⟩
      rw [hm] at hs1 ⊢
      have HM := hide hm
      have hmx := hs1.max
      clear hm hc1
      go_wp2
      go_loop [4] (fun i => ∃ k : Nat, k ≤ m ∧ i = .int .i64 k ∧ okStrs ((splitB 46 (s.extract 1 s.size)).drop k) = okStrs (splitB 46 (s.extract 1 s.size))) (fun i => m - (intOf i).toNat)
      case atStart => exact ⟨0, Nat.zero_le _, rfl, by simp⟩
      case round =>
        obtain ⟨k, hk, rfl, HR⟩ := hrel
        by_cases hlt : k < m
        · obtain ⟨b, o, x, rfl, hx, hc⟩ := hs1.at_ (Below.refl _ _) hlt
          rw [drop_get hx] at HR
          have HR2 : (okPart (by_ x) && okStrs ((splitB 46 (s.extract 1 s.size)).drop (k + 1))) = okStrs (splitB 46 (s.extract 1 s.size)) := HR
          clear HR
          have hxs : x.size ≤ 1048576 := by
            have hmem := List.mem_of_getElem? hx
            have := splitB_size 46 (s.extract 1 s.size) x hmem
            omega
          by_cases he : (by_ x).isEmpty = true
          · have hem : x.toList.isEmpty = true := by rw [isEmpty_by]; exact he
            have hem2 : x.toList = [] := by simpa using hem
            have HF : Hid (numB s = false) := by unfold Hid; rw [numB_eq s (s.extract 1 s.size) HU.out, ← HR2, okPart, he]; rfl
            clear HR2 hx he
            go_wp2
            go_ret
            exact ⟨ret_bool HF.out.symm, by simpa using hB⟩
          · have hem : x.toList.isEmpty = false := by rw [isEmpty_by]; simpa using he
            have hem2 : ¬ x.toList = [] := by simpa using hem
            have HR3 := hide HR2
            clear HR2 hx
            replace he := hide he
            go_wp2
            go_loop [5] (fun i => ∃ j : Nat, j ≤ x.size ∧ i = .int .i64 j ∧ ((by_ x).drop j).all digit = (by_ x).all digit) (fun i => x.size - (intOf i).toNat)
            case atStart => exact ⟨0, Nat.zero_le _, rfl, by simp⟩
            case round =>
              obtain ⟨j, hj, rfl, HQ⟩ := hrel
              by_cases hlt2 : j < x.size
              · have hy := by_get hlt2
                obtain ⟨d, hd⟩ : ∃ d, x[j] = d := ⟨_, rfl⟩
                rw [hd] at hy
                have hrun := run_byte hy
                rw [drop_get hy, List.all_cons] at HQ
                by_cases hdg : digit d = true
                · have HQ2 : Hid (((by_ x).drop (j + 1)).all digit = (by_ x).all digit) := by unfold Hid; rw [← HQ, hdg, Bool.true_and]
                  clear HQ hy hd
                  go_wp2_with (go_at_call 103; refine (l01Digit_any _ _).mono ?_; rintro e w1 ⟨rfl, rfl⟩)
                  go_round
                  case rel => exact ⟨j + 1, by omega, by go_num, HQ2.out⟩
                  case measure => simp [intOf]; omega
                · replace hdg : digit d = false := by simpa using hdg
                  have HF : Hid (numB s = false) := by
                    unfold Hid
                    rw [hdg, Bool.false_and] at HQ
                    rw [numB_eq s (s.extract 1 s.size) HU.out, ← HR3.out, okPart, ← HQ, Bool.and_false]; rfl
                  clear HQ hy hd
                  go_wp2_with (go_at_call 103; refine (l01Digit_any _ _).mono ?_; rintro e w1 ⟨rfl, rfl⟩)
                  go_ret
                  exact ⟨ret_bool HF.out.symm, by simpa using hB⟩
              · have HQ2 : Hid (okStrs ((splitB 46 (s.extract 1 s.size)).drop (k + 1)) = okStrs (splitB 46 (s.extract 1 s.size))) := by
                  unfold Hid
                  rw [List.drop_eq_nil_of_le (by rw [by_len]; omega)] at HQ
                  have hp : okPart (by_ x) = true := by
                    have h1 := he.out
                    rw [okPart, ← HQ]
                    simpa using h1
                  rw [← HR3.out, hp, Bool.true_and]
                clear HQ
                go_wp2
                go_round
                case rel => exact ⟨k + 1, by omega, by go_num, HQ2.out⟩
                case measure => simp [intOf]; omega
        · have HF : Hid (numB s = decide (m ≤ 2)) := by
            unfold Hid
            rw [numB_eq s (s.extract 1 s.size) HU.out, ← HR, hs1.end_ hlt, HM.out]; rfl
          clear HR
          go_wp2
          go_ret
          exact ⟨ret_bool (by rw [HF.out]; simp; try omega), by simpa using hB⟩
    · have hcb : ((b.toNat : Int) == 45) = false := by
        simp; intro e; exact hb45 (UInt8.toNat_inj.1 (by simp; omega))
      have HU : Hid (by_ s = unsigned (by_ s)) := by
        unfold Hid
        rw [hcons, unsigned, if_neg hb45]
      clear hx hb hcons hb45
      go_enter Try.func81, Try.ntmps81
      go_wp2_with fail
      refine (l01Split_any _ _ 46 (by omega)).mono ?_
      rintro e w1 ⟨v1, rfl, hc1⟩
      obtain ⟨A1, c1, rfl, -, -, hs1⟩ := Sl.of_coll hc1
      have hB := hc1.below
      obtain ⟨m, hm⟩ : ∃ m, (splitB 46 s).length = m := ⟨_, rfl⟩
      rw [hm] at hs1 ⊢
      have HM := hide hm
      have hmx := hs1.max
      clear hm hc1
      go_wp2
      go_loop [4] (fun i => ∃ k : Nat, k ≤ m ∧ i = .int .i64 k ∧ okStrs ((splitB 46 s).drop k) = okStrs (splitB 46 s)) (fun i => m - (intOf i).toNat)
      case atStart => exact ⟨0, Nat.zero_le _, rfl, by simp⟩
      case round =>
        obtain ⟨k, hk, rfl, HR⟩ := hrel
        by_cases hlt : k < m
        · obtain ⟨b, o, x, rfl, hx, hc⟩ := hs1.at_ (Below.refl _ _) hlt
          rw [drop_get hx] at HR
          have HR2 : (okPart (by_ x) && okStrs ((splitB 46 s).drop (k + 1))) = okStrs (splitB 46 s) := HR
          clear HR
          have hxs : x.size ≤ 1048576 := by
            have hmem := List.mem_of_getElem? hx
            have := splitB_size 46 s x hmem
            omega
          by_cases he : (by_ x).isEmpty = true
          · have hem : x.toList.isEmpty = true := by rw [isEmpty_by]; exact he
            have hem2 : x.toList = [] := by simpa using hem
            have HF : Hid (numB s = false) := by unfold Hid; rw [numB_eq s s HU.out, ← HR2, okPart, he]; rfl
            clear HR2 hx he
            go_wp2
            go_ret
            exact ⟨ret_bool HF.out.symm, hB⟩
          · have hem : x.toList.isEmpty = false := by rw [isEmpty_by]; simpa using he
            have hem2 : ¬ x.toList = [] := by simpa using hem
            have HR3 := hide HR2
            clear HR2 hx
            replace he := hide he
            go_wp2
            go_loop [5] (fun i => ∃ j : Nat, j ≤ x.size ∧ i = .int .i64 j ∧ ((by_ x).drop j).all digit = (by_ x).all digit) (fun i => x.size - (intOf i).toNat)
            case atStart => exact ⟨0, Nat.zero_le _, rfl, by simp⟩
            case round =>
              obtain ⟨j, hj, rfl, HQ⟩ := hrel
              by_cases hlt2 : j < x.size
              · have hy := by_get hlt2
                obtain ⟨d, hd⟩ : ∃ d, x[j] = d := ⟨_, rfl⟩
                rw [hd] at hy
                have hrun := run_byte hy
                rw [drop_get hy, List.all_cons] at HQ
                by_cases hdg : digit d = true
                · have HQ2 : Hid (((by_ x).drop (j + 1)).all digit = (by_ x).all digit) := by unfold Hid; rw [← HQ, hdg, Bool.true_and]
                  clear HQ hy hd
                  go_wp2_with (go_at_call 103; refine (l01Digit_any _ _).mono ?_; rintro e w1 ⟨rfl, rfl⟩)
                  go_round
                  case rel => exact ⟨j + 1, by omega, by go_num, HQ2.out⟩
                  case measure => simp [intOf]; omega
                · replace hdg : digit d = false := by simpa using hdg
                  have HF : Hid (numB s = false) := by
                    unfold Hid
                    rw [hdg, Bool.false_and] at HQ
                    rw [numB_eq s s HU.out, ← HR3.out, okPart, ← HQ, Bool.and_false]; rfl
                  clear HQ hy hd
                  go_wp2_with (go_at_call 103; refine (l01Digit_any _ _).mono ?_; rintro e w1 ⟨rfl, rfl⟩)
                  go_ret
                  exact ⟨ret_bool HF.out.symm, hB⟩
              · have HQ2 : Hid (okStrs ((splitB 46 s).drop (k + 1)) = okStrs (splitB 46 s)) := by
                  unfold Hid
                  rw [List.drop_eq_nil_of_le (by rw [by_len]; omega)] at HQ
                  have hp : okPart (by_ x) = true := by
                    have h1 := he.out
                    rw [okPart, ← HQ]
                    simpa using h1
                  rw [← HR3.out, hp, Bool.true_and]
                clear HQ
                go_wp2
                go_round
                case rel => exact ⟨k + 1, by omega, by go_num, HQ2.out⟩
                case measure => simp [intOf]; omega
        · have HF : Hid (numB s = decide (m ≤ 2)) := by
            unfold Hid
            rw [numB_eq s s HU.out, ← HR, hs1.end_ hlt, HM.out]; rfl
          clear HR
          go_wp2
          go_ret
          exact ⟨ret_bool (by rw [HF.out]; simp; try omega), hB⟩
  · have HU : Hid (by_ s = unsigned (by_ s)) := by
      have : by_ s = [] := List.eq_nil_of_length_eq_zero (by rw [by_len]; omega)
      unfold Hid
      rw [this]; rfl
    go_enter Try.func81, Try.ntmps81
    go_wp2_with fail
    refine (l01Split_any _ _ 46 (by omega)).mono ?_
    rintro e w1 ⟨v1, rfl, hc1⟩
    obtain ⟨A1, c1, rfl, -, -, hs1⟩ := Sl.of_coll hc1
    have hB := hc1.below
    obtain ⟨m, hm⟩ : ∃ m, (splitB 46 s).length = m := ⟨_, rfl⟩
    rw [hm] at hs1 ⊢
    have HM := hide hm
    have hmx := hs1.max
    clear hm hc1
    go_wp2
    go_loop [4] (fun i => ∃ k : Nat, k ≤ m ∧ i = .int .i64 k ∧ okStrs ((splitB 46 s).drop k) = okStrs (splitB 46 s)) (fun i => m - (intOf i).toNat)
    case atStart => exact ⟨0, Nat.zero_le _, rfl, by simp⟩
    case round =>
      obtain ⟨k, hk, rfl, HR⟩ := hrel
      by_cases hlt : k < m
      · obtain ⟨b, o, x, rfl, hx, hc⟩ := hs1.at_ (Below.refl _ _) hlt
        rw [drop_get hx] at HR
        have HR2 : (okPart (by_ x) && okStrs ((splitB 46 s).drop (k + 1))) = okStrs (splitB 46 s) := HR
        clear HR
        have hxs : x.size ≤ 1048576 := by
          have hmem := List.mem_of_getElem? hx
          have := splitB_size 46 s x hmem
          omega
        by_cases he : (by_ x).isEmpty = true
        · have hem : x.toList.isEmpty = true := by rw [isEmpty_by]; exact he
          have hem2 : x.toList = [] := by simpa using hem
          have HF : Hid (numB s = false) := by unfold Hid; rw [numB_eq s s HU.out, ← HR2, okPart, he]; rfl
          clear HR2 hx he
          go_wp2
          go_ret
          exact ⟨ret_bool HF.out.symm, hB⟩
        · have hem : x.toList.isEmpty = false := by rw [isEmpty_by]; simpa using he
          have hem2 : ¬ x.toList = [] := by simpa using hem
          have HR3 := hide HR2
          clear HR2 hx
          replace he := hide he
          go_wp2
          go_loop [5] (fun i => ∃ j : Nat, j ≤ x.size ∧ i = .int .i64 j ∧ ((by_ x).drop j).all digit = (by_ x).all digit) (fun i => x.size - (intOf i).toNat)
          case atStart => exact ⟨0, Nat.zero_le _, rfl, by simp⟩
          case round =>
            obtain ⟨j, hj, rfl, HQ⟩ := hrel
            by_cases hlt2 : j < x.size
            · have hy := by_get hlt2
              obtain ⟨d, hd⟩ : ∃ d, x[j] = d := ⟨_, rfl⟩
              rw [hd] at hy
              have hrun := run_byte hy
              rw [drop_get hy, List.all_cons] at HQ
              by_cases hdg : digit d = true
              · have HQ2 : Hid (((by_ x).drop (j + 1)).all digit = (by_ x).all digit) := by unfold Hid; rw [← HQ, hdg, Bool.true_and]
                clear HQ hy hd
                go_wp2_with (go_at_call 103; refine (l01Digit_any _ _).mono ?_; rintro e w1 ⟨rfl, rfl⟩)
                go_round
                case rel => exact ⟨j + 1, by omega, by go_num, HQ2.out⟩
                case measure => simp [intOf]; omega
              · replace hdg : digit d = false := by simpa using hdg
                have HF : Hid (numB s = false) := by
                  unfold Hid
                  rw [hdg, Bool.false_and] at HQ
                  rw [numB_eq s s HU.out, ← HR3.out, okPart, ← HQ, Bool.and_false]; rfl
                clear HQ hy hd
                go_wp2_with (go_at_call 103; refine (l01Digit_any _ _).mono ?_; rintro e w1 ⟨rfl, rfl⟩)
                go_ret
                exact ⟨ret_bool HF.out.symm, hB⟩
            · have HQ2 : Hid (okStrs ((splitB 46 s).drop (k + 1)) = okStrs (splitB 46 s)) := by
                unfold Hid
                rw [List.drop_eq_nil_of_le (by rw [by_len]; omega)] at HQ
                have hp : okPart (by_ x) = true := by
                  have h1 := he.out
                  rw [okPart, ← HQ]
                  simpa using h1
                rw [← HR3.out, hp, Bool.true_and]
              clear HQ
              go_wp2
              go_round
              case rel => exact ⟨k + 1, by omega, by go_num, HQ2.out⟩
              case measure => simp [intOf]; omega
      · have HF : Hid (numB s = decide (m ≤ 2)) := by
          unfold Hid
          rw [numB_eq s s HU.out, ← HR, hs1.end_ hlt, HM.out]; rfl
        clear HR
        go_wp2
        go_ret
        exact ⟨ret_bool (by rw [HF.out]; simp; try omega), hB⟩
theorem l08Point_any (w : World) (s : ByteArray) (hs : s.size ≤ 1048576) :
    Calls Try.prog 83 #[.string s] w fun e w' => e = .returned (.int .i64 (pointAt (by_ s) : Int)) ∧ w = w' := by
  go_enter Try.func83, Try.ntmps83
  go_wp2
  go_loop [3] (fun i => ∃ k : Nat, k ≤ s.size ∧ i = .int .i64 k ∧ k + pointAt ((by_ s).drop k) = pointAt (by_ s)) (fun i => s.size - (intOf i).toNat)
  case atStart => exact ⟨0, Nat.zero_le _, rfl, by simp⟩
  case round =>
    obtain ⟨k, hk, rfl, HR⟩ := hrel
    by_cases hlt : k < s.size
    · have hx := by_get hlt
      obtain ⟨b, hb⟩ : ∃ b, s[k] = b := ⟨_, rfl⟩
      rw [hb] at hx
      have hrun := run_byte hx
      rw [drop_get hx, pointAt] at HR
      by_cases hbc : b = 46
      · rw [if_pos hbc] at HR
        have hcb : ((b.toNat : Int) == 46) = true := by simp [hbc]
        have H2 : Hid (k = pointAt (by_ s)) := HR
        clear HR hx hb hbc
        go_wp2
        go_ret
        exact ⟨ret_int (by have := H2.out; omega), rfl⟩
      · rw [if_neg hbc] at HR
        have hcb : ((b.toNat : Int) == 46) = false := by
          simp; intro e; exact hbc (UInt8.toNat_inj.1 (by simp; omega))
        have H2 : Hid (k + 1 + pointAt ((by_ s).drop (k + 1)) = pointAt (by_ s)) := by unfold Hid; omega
        clear HR hx hb hbc
        go_wp2
        go_round
        case rel => exact ⟨k + 1, by omega, by go_num, H2.out⟩
        case measure => simp [intOf]; omega
    · have e : (by_ s).drop k = [] := List.drop_eq_nil_of_le (by rw [by_len]; omega)
      rw [e, pointAt] at HR
      have H2 : Hid (s.size = pointAt (by_ s)) := by unfold Hid; omega
      clear HR e
      go_wp2
      go_ret
      exact ⟨ret_int (by have := H2.out; omega), rfl⟩
def ptV : Option Nat → Int
  | none => -1
  | some q => (q : Int)

set_option maxHeartbeats 1000000 in
theorem pointOf_any (w : World) (s : ByteArray) (hs : s.size ≤ 1048576) :
    Calls Try.prog 84 #[.string s] w fun e w' => e = .returned (.tuple #[.int .i64 (((pointOf s).getD 0 : Nat) : Int), .bool (pointOf s).isSome]) ∧ w = w' := by
  by_cases h0 : 0 < s.size
  · have hx := by_get h0
    obtain ⟨b, hb⟩ : ∃ b, s[0] = b := ⟨_, rfl⟩
    rw [hb] at hx
    have hrun := run_byte0 hx
    have hcons : by_ s = b :: (by_ s).drop 1 := by have := drop_get hx; simpa using this
    by_cases hb45 : b = 45
    · have hcb : ((b.toNat : Int) == 45) = true := by simp [hb45]
      have HU : Hid (pointGo 1 none 0 ((by_ s).drop 1) = pointOf s) := by
        unfold Hid pointOf
        have e : unsigned (by_ s) = (by_ s).drop 1 := by rw [hcons, unsigned, if_pos hb45]; simp
        rw [e, List.length_drop, by_len, show s.size - (s.size - 1) = 1 from by omega]
      clear hx hb hcons hb45
      go_enter Try.func84, Try.ntmps84
      go_wp2
      go_loop [5, 6, 7] (fun pv dv i => ∃ (k d : Nat) (p : Option Nat), k ≤ s.size ∧ d ≤ k ∧ i = .int .i64 k ∧ dv = .int .i64 d ∧ pv = .int .i64 (ptV p) ∧ (∀ q, p = some q → q ≤ 1048576) ∧ pointGo k p d ((by_ s).drop k) = pointOf s) (fun _ _ i => s.size - (intOf i).toNat)
      case atStart => exact ⟨1, 0, none, by omega, by omega, rfl, rfl, rfl, (by intro q h; cases h), HU.out⟩
      case round =>
        obtain ⟨k, d, p, hk, hd, rfl, rfl, rfl, hp, HR⟩ := hrel
        by_cases hlt : k < s.size
        · have hx := by_get hlt
          obtain ⟨b, hb⟩ : ∃ b, s[k] = b := ⟨_, rfl⟩
          rw [hb] at hx
          have hrun := run_byte hx
          rw [drop_get hx, pointGo] at HR
          by_cases hdg : digit b = true
          · rw [if_pos hdg] at HR
            have H2 := hide HR
            replace hp := hide hp
            clear HR hx hb
            go_wp2_with (go_at_call 104; refine (isDigit_any _ _).mono ?_; rintro e w1 ⟨rfl, rfl⟩)
            go_round
            case rel => exact ⟨k + 1, d + 1, p, by omega, by omega, by go_num, by go_num, rfl, hp.out, H2.out⟩
            case measure => simp [intOf]; omega
          · rw [if_neg hdg] at HR
            replace hdg : digit b = false := by simpa using hdg
            by_cases hbc : b = 46
            · have hcb : ((b.toNat : Int) == 46) = true := by simp [hbc]
              cases p with
              | none =>
                by_cases hd0 : 0 < d
                · rw [if_pos ⟨hbc, rfl, hd0⟩] at HR
                  have H2 := hide HR
                  clear HR hx hb hbc hp
                  have hpt : ptV none = -1 := rfl
                  go_wp2_with (go_at_call 104; refine (isDigit_any _ _).mono ?_; rintro e w1 ⟨rfl, rfl⟩)
                  go_round
                  case rel => exact ⟨k + 1, 0, some k, by omega, by omega, by go_num, rfl, rfl, (by intro q h; cases h; omega), H2.out⟩
                  case measure => simp [intOf]; omega
                · rw [if_neg (fun e => hd0 e.2.2)] at HR
                  have H2 := hide HR
                  clear HR hx hb hbc hp
                  have hpt : ptV none = -1 := rfl
                  go_wp2_with (go_at_call 104; refine (isDigit_any _ _).mono ?_; rintro e w1 ⟨rfl, rfl⟩)
                  go_ret2
                  exact ⟨by rw [← H2.out]; rfl, rfl⟩
              | some q =>
                rw [if_neg (fun e => by cases e.2.1)] at HR
                have H2 := hide HR
                clear HR hx hb hbc hp
                have hpt : ptV (some q) = (q : Int) := rfl
                go_wp2_with (go_at_call 104; refine (isDigit_any _ _).mono ?_; rintro e w1 ⟨rfl, rfl⟩)
                go_ret2
                exact ⟨by rw [← H2.out]; rfl, rfl⟩
            · rw [if_neg (fun e => hbc e.1)] at HR
              have hcb : ((b.toNat : Int) == 46) = false := by
                simp; intro e; exact hbc (UInt8.toNat_inj.1 (by simp; omega))
              have H2 := hide HR
              clear HR hx hb hbc hp
              go_wp2_with (go_at_call 104; refine (isDigit_any _ _).mono ?_; rintro e w1 ⟨rfl, rfl⟩)
              go_ret2
              exact ⟨by rw [← H2.out]; rfl, rfl⟩
        · have e : (by_ s).drop k = [] := List.drop_eq_nil_of_le (by rw [by_len]; omega)
          rw [e, pointGo] at HR
          by_cases hd0 : d = 0
          · rw [if_pos hd0] at HR
            have hdb : ((d : Int) == 0) = true := by simp [hd0]
            have H2 := hide HR
            clear HR e hp hd0
            go_wp2
            go_ret2
            exact ⟨by rw [← H2.out]; rfl, rfl⟩
          · rw [if_neg hd0] at HR
            have hdb : ((d : Int) == 0) = false := by simp; omega
            have hks : Hid (k = s.size) := by unfold Hid; omega
            have H2 := hide HR
            clear HR e hd0
            cases p with
            | none =>
              have hpt : ptV none = -1 := rfl
              clear hp
              go_wp2
              go_ret2
              exact ⟨by rw [← H2.out, ← hks.out]; rfl, rfl⟩
            | some q =>
              have hpt : ptV (some q) = (q : Int) := rfl
              clear hp
              go_wp2
              go_ret2
              exact ⟨by rw [← H2.out]; rfl, rfl⟩
    · have hcb : ((b.toNat : Int) == 45) = false := by
        simp; intro e; exact hb45 (UInt8.toNat_inj.1 (by simp; omega))
      have HU : Hid (pointGo 0 none 0 ((by_ s).drop 0) = pointOf s) := by
        unfold Hid pointOf
        have e : unsigned (by_ s) = by_ s := by rw [hcons, unsigned, if_neg hb45]
        rw [e, Nat.sub_self]; rfl
      clear hx hb hcons hb45
      go_enter Try.func84, Try.ntmps84
      go_wp2
      go_loop [5, 6, 7] (fun pv dv i => ∃ (k d : Nat) (p : Option Nat), k ≤ s.size ∧ d ≤ k ∧ i = .int .i64 k ∧ dv = .int .i64 d ∧ pv = .int .i64 (ptV p) ∧ (∀ q, p = some q → q ≤ 1048576) ∧ pointGo k p d ((by_ s).drop k) = pointOf s) (fun _ _ i => s.size - (intOf i).toNat)
      case atStart => exact ⟨0, 0, none, by omega, by omega, rfl, rfl, rfl, (by intro q h; cases h), HU.out⟩
      case round =>
        obtain ⟨k, d, p, hk, hd, rfl, rfl, rfl, hp, HR⟩ := hrel
        by_cases hlt : k < s.size
        · have hx := by_get hlt
          obtain ⟨b, hb⟩ : ∃ b, s[k] = b := ⟨_, rfl⟩
          rw [hb] at hx
          have hrun := run_byte hx
          rw [drop_get hx, pointGo] at HR
          by_cases hdg : digit b = true
          · rw [if_pos hdg] at HR
            have H2 := hide HR
            replace hp := hide hp
            clear HR hx hb
            go_wp2_with (go_at_call 104; refine (isDigit_any _ _).mono ?_; rintro e w1 ⟨rfl, rfl⟩)
            go_round
            case rel => exact ⟨k + 1, d + 1, p, by omega, by omega, by go_num, by go_num, rfl, hp.out, H2.out⟩
            case measure => simp [intOf]; omega
          · rw [if_neg hdg] at HR
            replace hdg : digit b = false := by simpa using hdg
            by_cases hbc : b = 46
            · have hcb : ((b.toNat : Int) == 46) = true := by simp [hbc]
              cases p with
              | none =>
                by_cases hd0 : 0 < d
                · rw [if_pos ⟨hbc, rfl, hd0⟩] at HR
                  have H2 := hide HR
                  clear HR hx hb hbc hp
                  have hpt : ptV none = -1 := rfl
                  go_wp2_with (go_at_call 104; refine (isDigit_any _ _).mono ?_; rintro e w1 ⟨rfl, rfl⟩)
                  go_round
                  case rel => exact ⟨k + 1, 0, some k, by omega, by omega, by go_num, rfl, rfl, (by intro q h; cases h; omega), H2.out⟩
                  case measure => simp [intOf]; omega
                · rw [if_neg (fun e => hd0 e.2.2)] at HR
                  have H2 := hide HR
                  clear HR hx hb hbc hp
                  have hpt : ptV none = -1 := rfl
                  go_wp2_with (go_at_call 104; refine (isDigit_any _ _).mono ?_; rintro e w1 ⟨rfl, rfl⟩)
                  go_ret2
                  exact ⟨by rw [← H2.out]; rfl, rfl⟩
              | some q =>
                rw [if_neg (fun e => by cases e.2.1)] at HR
                have H2 := hide HR
                clear HR hx hb hbc hp
                have hpt : ptV (some q) = (q : Int) := rfl
                go_wp2_with (go_at_call 104; refine (isDigit_any _ _).mono ?_; rintro e w1 ⟨rfl, rfl⟩)
                go_ret2
                exact ⟨by rw [← H2.out]; rfl, rfl⟩
            · rw [if_neg (fun e => hbc e.1)] at HR
              have hcb : ((b.toNat : Int) == 46) = false := by
                simp; intro e; exact hbc (UInt8.toNat_inj.1 (by simp; omega))
              have H2 := hide HR
              clear HR hx hb hbc hp
              go_wp2_with (go_at_call 104; refine (isDigit_any _ _).mono ?_; rintro e w1 ⟨rfl, rfl⟩)
              go_ret2
              exact ⟨by rw [← H2.out]; rfl, rfl⟩
        · have e : (by_ s).drop k = [] := List.drop_eq_nil_of_le (by rw [by_len]; omega)
          rw [e, pointGo] at HR
          by_cases hd0 : d = 0
          · rw [if_pos hd0] at HR
            have hdb : ((d : Int) == 0) = true := by simp [hd0]
            have H2 := hide HR
            clear HR e hp hd0
            go_wp2
            go_ret2
            exact ⟨by rw [← H2.out]; rfl, rfl⟩
          · rw [if_neg hd0] at HR
            have hdb : ((d : Int) == 0) = false := by simp; omega
            have hks : Hid (k = s.size) := by unfold Hid; omega
            have H2 := hide HR
            clear HR e hd0
            cases p with
            | none =>
              have hpt : ptV none = -1 := rfl
              clear hp
              go_wp2
              go_ret2
              exact ⟨by rw [← H2.out, ← hks.out]; rfl, rfl⟩
            | some q =>
              have hpt : ptV (some q) = (q : Int) := rfl
              clear hp
              go_wp2
              go_ret2
              exact ⟨by rw [← H2.out]; rfl, rfl⟩
  · have HU : Hid (pointOf s = none) := by
      have : by_ s = [] := List.eq_nil_of_length_eq_zero (by rw [by_len]; omega)
      unfold Hid pointOf
      rw [this]; rfl
    have hz : ¬ (0 : Int) < (s.size : Int) := by omega
    go_enter Try.func84, Try.ntmps84
    go_wp2
    refine wp_loop_rounds 1 ?_
    rw [rounds_succ]
    go_wp2
    go_ret2
    exact ⟨by rw [HU.out]; rfl, rfl⟩
def decimalStart (s : ByteArray) (col : Int) : Int × Int :=
  if inB col 0 119 = true ∧ s.size ≤ 30 then (if numB s = true then (if col < (pointAt (by_ s) : Int) then (0, 5) else (col - pointAt (by_ s), 0)) else (0, 7)) else (0, 2)
theorem pointAt_le (l : List UInt8) : pointAt l ≤ l.length := by
  induction l with
  | nil => simp [pointAt]
  | cons b bs ih => rw [pointAt]; split; · simp
                    · simp; omega
end Go.Proofs.Ytanpmjbephelaaa
