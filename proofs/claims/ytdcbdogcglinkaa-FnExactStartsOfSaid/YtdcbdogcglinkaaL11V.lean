/-
  StartsOf: plain law, and what it returns by the reference and by the program.
-/
import Derived.Test.YtdcbdogcglinkaaL11T
import Derived.Test.YtdcbdogcglinkaaPut
namespace Go.Proofs.Ytdcbdogcglinkaa
set_option maxRecDepth 100000
open Go.RowKit

/-- The numbers from j on, n of them, at which f holds. -/
def fromL (f : Nat → Bool) : Nat → Nat → List Int
  | _, 0 => []
  | j, n + 1 => if f j = true then (j : Int) :: fromL f (j + 1) n else fromL f (j + 1) n
theorem fromL_ge (f : Nat → Bool) : ∀ n j x, x ∈ fromL f j n → (j : Int) ≤ x := by
  intro n
  induction n with
  | zero => intro j x h; cases h
  | succ n ih =>
    intro j x h
    rw [fromL] at h
    by_cases hj : f j = true
    · rw [if_pos hj] at h
      rcases List.mem_cons.1 h with rfl | h
      · exact Int.le_refl _
      · have := ih (j + 1) x h; omega
    · rw [if_neg hj] at h
      have := ih (j + 1) x h; omega
theorem fromL_len (f : Nat → Bool) : ∀ n j, (fromL f j n).length ≤ n := by
  intro n
  induction n with
  | zero => intro j; exact Nat.le_refl _
  | succ n ih =>
    intro j
    have := ih (j + 1)
    rw [fromL]
    by_cases hj : f j = true
    · rw [if_pos hj, List.length_cons]; omega
    · rw [if_neg hj]; omega
theorem fromL_congr {f g : Nat → Bool} : ∀ n j, (∀ q, j ≤ q → f q = g q) → fromL f j n = fromL g j n := by
  intro n
  induction n with
  | zero => intro j _; rfl
  | succ n ih =>
    intro j h
    rw [fromL, fromL, h j (Nat.le_refl _), ih (j + 1) (fun q hq => h q (by omega))]
theorem fromL_put (f : Nat → Bool) (z : Nat) : ∀ n j, j ≤ z → z < j + n → putGo false (fromL f j n) (z : Int) = fromL (fun q => f q || q == z) j n := by
  intro n
  induction n with
  | zero => intro j h1 h2; omega
  | succ n ih =>
    intro j h1 h2
    by_cases hz : j = z
    · subst hz
      have e : fromL (fun q => f q || q == j) (j + 1) n = fromL f (j + 1) n := fromL_congr n (j + 1) fun q hq => by
        rw [show (q == j) = false from beq_eq_false_iff_ne.2 (by omega), Bool.or_false]
      rw [fromL, fromL, e, if_pos (show (f j || j == j) = true by simp)]
      by_cases hj : f j = true
      · rw [if_pos hj, putGo, if_pos (Int.le_refl _), if_neg (Int.lt_irrefl _), putGo_true]
      · rw [if_neg hj]
        have hg := fromL_ge f n (j + 1)
        cases hl : fromL f (j + 1) n with
        | nil => simp [putGo]
        | cons x xs =>
          have := hg x (by rw [hl]; exact List.mem_cons_self ..)
          rw [putGo, if_pos (by omega), if_pos (by omega), putGo_true]
    · have hne : (j == z) = false := beq_eq_false_iff_ne.2 hz
      rw [fromL, fromL]
      simp only [hne, Bool.or_false]
      by_cases hj : f j = true
      · rw [if_pos hj, if_pos hj, putGo, if_neg (by omega), ih (j + 1) (by omega) (by omega)]
      · rw [if_neg hj, if_neg hj, ih (j + 1) (by omega) (by omega)]
/-- Does a word begin at column q of a row? -/
def isSt (s : ByteArray) (q : Nat) : Bool := match (by_ s)[q]? with
  | some b => !(b == 32) && (q == 0 || (by_ s)[q - 1]? == some 32)
  | none => false
def anySt (ss : List ByteArray) (q : Nat) : Bool := ss.any fun s => isSt s q
/-- What has been found in the first k rows, and in the first j bytes of the next. -/
def seenSt (ss : List ByteArray) (k : Nat) (s : ByteArray) (j q : Nat) : Bool := anySt (ss.take k) q || (decide (q < j) && isSt s q)
theorem seenSt_zero (ss : List ByteArray) (k : Nat) (s : ByteArray) : seenSt ss k s 0 = anySt (ss.take k) := by funext q; simp [seenSt]
theorem seenSt_yes {ss : List ByteArray} {k j : Nat} {s : ByteArray} (h : isSt s j = true) : (fun q => seenSt ss k s j q || q == j) = seenSt ss k s (j + 1) := by
  funext q
  unfold seenSt
  by_cases e : q = j
  · subst e; simp [h]
  · rw [show (q == j) = false from beq_eq_false_iff_ne.2 e, Bool.or_false, show decide (q < j + 1) = decide (q < j) from by rw [decide_eq_decide]; omega]
theorem seenSt_no {ss : List ByteArray} {k j : Nat} {s : ByteArray} (h : isSt s j = false) : seenSt ss k s j = seenSt ss k s (j + 1) := by
  funext q
  unfold seenSt
  by_cases e : q = j
  · subst e; simp [h]
  · rw [show decide (q < j + 1) = decide (q < j) from by rw [decide_eq_decide]; omega]
theorem seenSt_end {ss : List ByteArray} {k j : Nat} {s : ByteArray} (hx : ss[k]? = some s) (hj : ¬ j < s.size) : seenSt ss k s j = anySt (ss.take (k + 1)) := by
  obtain ⟨h1, h2⟩ := List.getElem?_eq_some_iff.1 hx
  funext q
  unfold seenSt anySt
  rw [List.take_succ_eq_append_getElem h1, h2, List.any_append, List.any_cons, List.any_nil, Bool.or_false]
  congr 1
  by_cases e : q < j
  · simp [e]
  · have : isSt s q = false := by unfold isSt; rw [List.getElem?_eq_none (by rw [by_len]; omega)]
    rw [this, Bool.and_false]
theorem fromL_none : fromL (anySt []) 0 30 = [] := rfl
def startsOf (ss : List ByteArray) : List Int × Int := if rowsC ss = 0 then (fromL (anySt ss) 0 30, 0) else ([], rowsC ss)
theorem startsOf_len (ss : List ByteArray) : (startsOf ss).1.length ≤ 30 := by
  unfold startsOf
  split
  · exact fromL_len _ _ _
  · simp
/-- The three ways of the test. -/
theorem isSt_blank {s : ByteArray} {j : Nat} (h : (by_ s)[j]? = some 32) : isSt s j = false := by unfold isSt; rw [h]; rfl
theorem isSt_first {s : ByteArray} {b : UInt8} (h : (by_ s)[0]? = some b) (hb : ¬ b = 32) : isSt s 0 = true := by unfold isSt; rw [h]; simp [hb]
theorem isSt_in {s : ByteArray} {j : Nat} {b d : UInt8} (h : (by_ s)[j]? = some b) (hb : ¬ b = 32) (hj : ¬ j = 0) (hd : (by_ s)[j - 1]? = some d) : isSt s j = (d == 32) := by
  unfold isSt
  rw [h]
  simp only
  rw [hd, show (b == 32) = false from beq_eq_false_iff_ne.2 hb, show (j == 0) = false from beq_eq_false_iff_ne.2 hj]
  simp

set_option maxHeartbeats 1000000 in
theorem StartsOf_S (w : World) (A : Option Addr) (n c : Nat) (ss : List ByteArray) (h : Sl Value.string w A n ss) (hu : ∀ s ∈ ss, (s.size : Int) ≤ 1048576) :
    Calls Try.prog 30 #[.slice A n c] w fun e w' => ∃ v, e = .returned (.tuple #[v, .int .i64 (startsOf ss).2]) ∧ Coll w w' 2 v ((startsOf ss).1.map (Value.int .i64)) := by
  have hn := h.max
  replace hu := hide hu
  by_cases h0 : rowsC ss = 0
  · have HR : Hid (startsOf ss = (fromL (anySt ss) 0 30, 0)) := by unfold Hid startsOf; rw [if_pos h0]
    obtain ⟨q1, q2, q3⟩ := rowsC_ok h0
    rw [h.len] at q1
    have HS := hide q2
    have hc0 := Coll.empty (e := 2) (Below.refl w.heap.size w)
    clear q2 h0
    go_enter Try.func30, Try.ntmps30
    go_wp2_with (go_at_call 38; refine (l11Rows_any _ _ _ _ ss h hu.out).mono ?_; rintro e w2 ⟨rfl, rfl⟩)
    go_loopw [4, 5] (fun v i wr => ∃ k : Nat, k ≤ n ∧ i = .int .i64 k ∧ Coll w wr 2 v ((fromL (anySt (ss.take k)) 0 30).map (Value.int .i64))) (fun _ i _ => n - (intOf i).toNat)
    case atStart => exact ⟨0, Nat.zero_le _, rfl, by rw [List.take_zero, fromL_none]; exact hc0⟩
    case round =>
      clear hc0
      obtain ⟨k, hk, rfl, hco⟩ := hrel
      by_cases hlt : k < n
      · obtain ⟨b, o, s, rfl, hxk, hc⟩ := h.at_ hco.below hlt
        have hltd : decide ((k : Int) < (n : Int)) = true := by rw [decide_eq_true_eq]; omega
        have hs30 := HS.out _ (List.mem_of_getElem? hxk)
        have HK := hide hxk
        clear hxk
        go_wp2
        go_loopw [4, 6] (fun v i wr => ∃ j : Nat, j ≤ s.size ∧ i = .int .i64 j ∧ Coll w wr 2 v ((fromL (seenSt ss k s j) 0 30).map (Value.int .i64))) (fun _ i _ => s.size - (intOf i).toNat)
        case atStart => exact ⟨0, Nat.zero_le _, rfl, by rw [seenSt_zero]; exact hco⟩
        case round =>
          clear hco hc
          obtain ⟨j, hj, rfl, hco⟩ := hrel
          have hb := hco.below
          have hc := h.cell hb HK.out
          by_cases hlt2 : j < s.size
          · have hxj := by_get hlt2
            obtain ⟨d, hd⟩ : ∃ d, s[j] = d := ⟨_, rfl⟩
            rw [hd] at hxj
            have hrun := run_byte hxj
            have hlt2d : decide ((j : Int) < (s.size : Int)) = true := by rw [decide_eq_true_eq]; omega
            clear hd
            by_cases h32 : d = 32
            · have HN : Hid (seenSt ss k s j = seenSt ss k s (j + 1)) := seenSt_no (isSt_blank (h32 ▸ hxj))
              have hcb : ((d.toNat : Int) != 32) = false := bn_eq (c := 32) h32
              clear hxj h32
              go_wp2
              go_roundw
              case rel => exact ⟨j + 1, by omega, by go_num, by rw [← HN.out]; exact hco⟩
              case measure => simp [intOf]; omega
            · have hcb : ((d.toNat : Int) != 32) = true := bn_ne (c := 32) h32
              obtain ⟨A2, cp, rfl, hcap, hmax, hsl2⟩ := Sl.of_coll hco
              have hfl := fromL_len (seenSt ss k s j) 30 0
              by_cases hj0 : j = 0
              · have hi : isSt s j = true := by subst hj0; exact isSt_first hxj h32
                have hjd : ((j : Int) == 0) = true := by simp [hj0]
                have HN := hide (fromL_put (seenSt ss k s j) j 30 0 (Nat.zero_le _) (by omega))
                rw [seenSt_yes hi] at HN
                clear hi hj0 h32 hxj
                go_wp2_with fail
                refine (l00Put_any _ _ _ _ _ _ hsl2 (by omega)).mono ?_
                rintro e w3 ⟨v3, rfl, hc3⟩
                rw [HN.out] at hc3
                have HC := hide (hc3.since hb)
                clear hc3
                go_wp2
                go_roundw
                case rel => exact ⟨j + 1, by omega, by go_num, HC.out⟩
                case measure => simp [intOf]; omega
              · have hxp := by_get (show j - 1 < s.size by omega)
                obtain ⟨p, hp⟩ : ∃ p, s[j - 1] = p := ⟨_, rfl⟩
                rw [hp] at hxp
                have hrunp := run_byte hxp
                rw [show ((j - 1 : Nat) : Int) = (j : Int) - 1 from by omega] at hrunp
                have hjd : ((j : Int) == 0) = false := beq_eq_false_iff_ne.2 (by omega)
                have hi := isSt_in hxj h32 hj0 hxp
                by_cases hp32 : p = 32
                · rw [hp32] at hi
                  have hpb : ((p.toNat : Int) == 32) = true := b_eq (c := 32) hp32
                  have HN := hide (fromL_put (seenSt ss k s j) j 30 0 (Nat.zero_le _) (by omega))
                  rw [seenSt_yes (by rw [hi]; rfl)] at HN
                  clear hi hj0 h32 hxj hxp hp hp32
                  go_wp2_with fail
                  refine (l00Put_any _ _ _ _ _ _ hsl2 (by omega)).mono ?_
                  rintro e w3 ⟨v3, rfl, hc3⟩
                  rw [HN.out] at hc3
                  have HC := hide (hc3.since hb)
                  clear hc3
                  go_wp2
                  go_roundw
                  case rel => exact ⟨j + 1, by omega, by go_num, HC.out⟩
                  case measure => simp [intOf]; omega
                · have hpb : ((p.toNat : Int) == 32) = false := b_ne (c := 32) hp32
                  have HN : Hid (seenSt ss k s j = seenSt ss k s (j + 1)) := seenSt_no (by rw [hi]; exact beq_eq_false_iff_ne.2 hp32)
                  replace hco := hide hco
                  clear hi hj0 h32 hxj hxp hp hp32 hsl2
                  go_wp2
                  go_roundw
                  case rel => exact ⟨j + 1, by omega, by go_num, by rw [← HN.out]; exact hco.out⟩
                  case measure => simp [intOf]; omega
          · have HN := hide (seenSt_end HK.out hlt2)
            go_wp2
            go_roundw
            case rel => exact ⟨k + 1, by omega, by go_num, by rw [← HN.out]; exact hco⟩
            case measure => simp [intOf]; omega
      · have HE : Hid (ss.take k = ss) := by unfold Hid; rw [List.take_of_length_le (by rw [h.len]; omega)]
        go_wp2
        go_ret2
        exact ⟨_, by rw [HR.out]; rfl, by rw [HR.out]; simp only; rw [HE.out] at hco; exact hco⟩
  · have HR : Hid (startsOf ss = ([], rowsC ss)) := by unfold Hid startsOf; rw [if_neg h0]
    have hnil : Coll w w 2 (.slice none 0 0) [] := Coll.nil_ (Below.refl _ _)
    rcases rowsC_bad h0 with ⟨k0, k1⟩ | ⟨k0, k1, k2⟩
    all_goals
      rw [h.len] at k1
      rw [k0] at HR
      clear h0 k0
      go_enter Try.func30, Try.ntmps30
      go_wp2_with (go_at_call 38; refine (l11Rows_any _ _ _ _ ss h hu.out).mono ?_; rintro e w2 ⟨rfl, rfl⟩)
      go_ret2
      exact ⟨_, by rw [HR.out]; rfl, by rw [HR.out]; exact hnil⟩
end Go.Proofs.Ytdcbdogcglinkaa
