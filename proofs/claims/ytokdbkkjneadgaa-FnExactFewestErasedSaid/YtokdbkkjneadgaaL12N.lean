/-
  The plan of a correction: what the reference's l12Plan returns.
-/
import Derived.Test.YtokdbkkjneadgaaL12K
import Derived.Test.YtokdbkkjneadgaaPair
import Derived.Deep.RegionWith
namespace Go.Proofs.Ytokdbkkjneadgaa
set_option maxRecDepth 100000
open Go.RowKit

/-- What is done at a place, and the letter that is typed there. -/
def stepP (xs : List Rule) (a b : UInt8) : UInt8 × UInt8 :=
  if a = b then (46, 32) else if topB xs a b = 0 then (35, b) else (43, topB xs a b)
def planL (xs : List Rule) : List UInt8 → List UInt8 → List (UInt8 × UInt8)
  | a :: la, b :: lb => stepP xs a b :: planL xs la lb
  | _, _ => []
theorem planL_len (xs : List Rule) : ∀ la lb, (planL xs la lb).length ≤ la.length := by
  intro la
  induction la with
  | nil => intro lb; simp [planL]
  | cons a la ih =>
    intro lb
    cases lb with
    | nil => simp [planL]
    | cons b lb => rw [planL]; simp; exact ih lb
theorem planL_step (xs : List Rule) {la lb : List UInt8} {k : Nat} {a b : UInt8} (ha : la[k]? = some a) (hb : lb[k]? = some b) :
    planL xs (la.drop k) (lb.drop k) = stepP xs a b :: planL xs (la.drop (k + 1)) (lb.drop (k + 1)) := by
  rw [drop_get ha, drop_get hb, planL]
def planOf (xs : List Rule) (s t : ByteArray) : List (UInt8 × UInt8) := planL xs (by_ s) (by_ t)

/-- The two texts so far. -/
def PlanAt (xs : List Rule) (s t : ByteArray) (k : Nat) (l : List (UInt8 × UInt8)) : Prop := l.length ≤ k ∧ l ++ planL xs ((by_ s).drop k) ((by_ t).drop k) = planOf xs s t
theorem PlanAt.next {xs : List Rule} {s t : ByteArray} {k : Nat} {l : List (UInt8 × UInt8)} {a b : UInt8} (h : PlanAt xs s t k l) (ha : (by_ s)[k]? = some a) (hb : (by_ t)[k]? = some b) : PlanAt xs s t (k + 1) (l ++ [stepP xs a b]) := by
  refine ⟨by have := h.1; simp; omega, ?_⟩
  rw [← h.2, planL_step xs ha hb]; simp
theorem PlanAt.done {xs : List Rule} {s t : ByteArray} {k : Nat} {l : List (UInt8 × UInt8)} (h : PlanAt xs s t k l) (hk : ¬ k < s.size) : l = planOf xs s t := by
  rw [← h.2, List.drop_eq_nil_of_le (by rw [by_len]; omega), planL]
  · simp
  · intro _ _ _ _ e; cases e
def fsts (l : List (UInt8 × UInt8)) : List Value := (l.map (·.1)).map ub
def snds (l : List (UInt8 × UInt8)) : List Value := (l.map (·.2)).map ub
theorem fsts_push (l : List (UInt8 × UInt8)) (x : UInt8 × UInt8) : fsts (l ++ [x]) = fsts l ++ [.int .u8 (x.1.toNat : Int)] := by simp [fsts, ub]
theorem snds_push (l : List (UInt8 × UInt8)) (x : UInt8 × UInt8) : snds (l ++ [x]) = snds l ++ [.int .u8 (x.2.toNat : Int)] := by simp [snds, ub]
theorem fsts_len (l : List (UInt8 × UInt8)) : (fsts l).length = l.length := by simp [fsts]
theorem snds_len (l : List (UInt8 × UInt8)) : (snds l).length = l.length := by simp [snds]
theorem Two.strA {W w : World} {vA vB : Value} {l : List (UInt8 × UInt8)} {bs : List Value} (h : Two W w vA (fsts l) vB bs) (m : Nat) : (convert 83 9 vA).run Try.prog (w.drewN m) = .ok (.string (mkB (l.map (·.1)))) (w.drewN m) := (h.a.draw m).str
theorem Two.strB {W w : World} {vA vB : Value} {l : List (UInt8 × UInt8)} {as_ : List Value} (h : Two W w vA as_ vB (snds l)) (m : Nat) : (convert 83 9 vB).run Try.prog (w.drewN m) = .ok (.string (mkB (l.map (·.2)))) (w.drewN m) := (h.b.draw m).str
def PlanW (xs : List Rule) (s t : ByteArray) (W : World) (vA vB i : Value) (w : World) : Prop :=
  ∃ (k : Nat) (l : List (UInt8 × UInt8)), k ≤ s.size ∧ i = .int .i64 k ∧ Two W w vA (fsts l) vB (snds l) ∧ PlanAt xs s t k l
theorem PlanW.mk {xs : List Rule} {s t : ByteArray} {W : World} {vA vB : Value} {w : World} {k : Nat} {l : List (UInt8 × UInt8)} {a b p q : UInt8} (hk : k < s.size) (hp : PlanAt xs s t k l) (ha : (by_ s)[k]? = some a) (hb : (by_ t)[k]? = some b) (he : stepP xs a b = (p, q))
    (h : Two W w vA (fsts l ++ [.int .u8 (p.toNat : Int)]) vB (snds l ++ [.int .u8 (q.toNat : Int)])) : PlanW xs s t W vA vB (.int .i64 ((k : Int) + 1)) w := by
  refine ⟨k + 1, l ++ [stepP xs a b], by omega, by go_num, ?_, hp.next ha hb⟩
  rw [fsts_push, snds_push, he]
  exact h

set_option maxHeartbeats 2000000 in
theorem l12Plan_any (w : World) (A : Option Addr) (n c : Nat) (xs : List Rule) (s t : ByteArray) (h : Sl3 Value.string w A n xs) (hu : Lets xs) (hs : s.size ≤ 60) (ht : t.size ≤ s.size) (hts : s.size ≤ t.size) :
    Calls Try.prog 75 #[.slice A n c, .string s, .string t] w fun e w' => e = .returned (.tuple #[.string (mkB ((planOf xs s t).map (·.1))), .string (mkB ((planOf xs s t).map (·.2)))]) ∧ Below w.heap.size w w' := by
  have HL := hide hu
  clear hu
  have h0 := Two.empty (Below.refl w.heap.size w)
  go_enter Try.func75, Try.ntmps75
  go_wp2
  go_loopw [8, 9, 10] (fun vA vB i wr => PlanW xs s t w vA vB i wr) (fun _ _ i _ => s.size - (intOf i).toNat)
  case atStart => exact ⟨0, [], Nat.zero_le _, rfl, by simpa [fsts, snds] using h0, Nat.le_refl _, rfl⟩
  case round =>
    clear h0
    obtain ⟨k, l, hk, rfl, hT, hP⟩ := hrel
    have hlk := hP.1
    have hP' := hide hP
    have la1 := fsts_len l
    have lb1 := snds_len l
    by_cases hlt : k < t.size
    · have hlt' : k < s.size := by omega
      have hxa := by_get hlt'
      have hxb := by_get hlt
      obtain ⟨a, hea⟩ : ∃ b, s[k] = b := ⟨_, rfl⟩
      obtain ⟨b, heb⟩ : ∃ b, t[k] = b := ⟨_, rfl⟩
      rw [hea] at hxa
      rw [heb] at hxb
      have r1 := run_byte hxa
      have r2 := run_byte hxb
      have i1 : (0 : Int) ≤ (k : Int) := by omega
      have i2 : (k : Int) < (s.size : Int) := by omega
      have i3 : (k : Int) < (t.size : Int) := by omega
      have HXA := hide hxa
      have HXB := hide hxb
      have nA : (fsts l).length ≤ 1099511627776 := by omega
      have nB : (snds l).length ≤ 1099511627776 := by omega
      clear hxa hxb hea heb la1 lb1 hP
      by_cases hab : a = b
      · have c1 : ((a.toNat : Int) == (b.toNat : Int)) = true := b_eq hab
        have HE : Hid (stepP xs a b = (46, 32)) := by unfold Hid stepP; rw [if_pos hab]
        clear hab
        go_wp2
        go_quiet (fail)
        go_wp2_with (first
          | (at_builtin; refine Two.pushA ((hT.draw _).lay _) (g := wr.heap.size) (k := 0) (u := .int .u8 46) (cell_new _ _ _) rfl nA rfl _ _ rfl rfl rfl ?_; intro v1 w1 hT1 hz1 hc1)
          | (at_builtin; refine Two.pushA (hT1.swap.lay _) (g := w1.heap.size) (k := 0) (u := .int .u8 32) (cell_new _ _ _) rfl nB rfl _ _ rfl rfl rfl ?_; intro v2 w2 hT2 hz2 hc2))
        go_roundw
        case rel => exact PlanW.mk hlt' hP'.out HXA.out HXB.out HE.out hT2.swap
        case measure => simp [intOf]; omega
      · have c1 : ((a.toNat : Int) == (b.toNat : Int)) = false := b_ne hab
        by_cases hz : topB xs a b = 0
        · have c2 : (((topB xs a b).toNat : Int) != 0) = false := bn_eq (c := 0) hz
          have HE : Hid (stepP xs a b = (35, b)) := by unfold Hid stepP; rw [if_neg hab, if_pos hz]
          clear hab hz
          go_wp2
          go_quiet (fail)
          go_wp2
          go_region_with (go_at_call 87; refine (l12Top_any _ _ _ _ xs a b (((h.on hT.a.below).draw _).draw1) HL.out).mono ?_; rintro e w3 ⟨rfl, hb3⟩)
          all_goals
            have hT0 := ((hT.draw nq).drew).on hb3
            go_wp2_with (first
              | (at_builtin; refine Two.pushA (hT0.lay _) (g := w3.heap.size) (k := 0) (u := .int .u8 35) (cell_new _ _ _) rfl nA rfl _ _ rfl rfl rfl ?_; intro v1 w1 hT1 hz1 hc1)
              | (at_builtin; refine Two.pushA (hT1.swap.lay _) (g := w1.heap.size) (k := 0) (u := .int .u8 b.toNat) (cell_new _ _ _) rfl nB rfl _ _ rfl rfl rfl ?_; intro v2 w2 hT2 hz2 hc2))
            go_roundw
            case rel => exact PlanW.mk hlt' hP'.out HXA.out HXB.out HE.out hT2.swap
            case measure => simp [intOf]; omega
        · have c2 : (((topB xs a b).toNat : Int) != 0) = true := bn_ne (c := 0) hz
          have HE : Hid (stepP xs a b = (43, topB xs a b)) := by unfold Hid stepP; rw [if_neg hab, if_neg hz]
          clear hab hz
          go_wp2
          go_quiet (fail)
          go_wp2
          go_region_with (go_at_call 87; refine (l12Top_any _ _ _ _ xs a b (((h.on hT.a.below).draw _).draw1) HL.out).mono ?_; rintro e w3 ⟨rfl, hb3⟩)
          all_goals
            have hT0 := ((hT.draw nq).drew).on hb3
            go_wp2_with (first
              | (at_builtin; refine Two.pushA (hT0.lay _) (g := w3.heap.size) (k := 0) (u := .int .u8 43) (cell_new _ _ _) rfl nA rfl _ _ rfl rfl rfl ?_; intro v1 w1 hT1 hz1 hc1)
              | (at_builtin; refine Two.pushA (hT1.swap.lay _) (g := w1.heap.size) (k := 0) (u := .int .u8 (topB xs a b).toNat) (cell_new _ _ _) rfl nB rfl _ _ rfl rfl rfl ?_; intro v2 w2 hT2 hz2 hc2))
            go_roundw
            case rel => exact PlanW.mk hlt' hP'.out HXA.out HXB.out HE.out hT2.swap
            case measure => simp [intOf]; omega
    · have H2 : Hid (l = planOf xs s t) := hP.done (by omega)
      have hsA := hT.strA
      have hsB := hT.strB
      have hbw := below_drewN hT.a.below
      clear hP la1 lb1 hlk
      go_wp2
      go_quiet (fail)
      go_wp2
      go_ret2
      exact ⟨by rw [← H2.out]; rfl, hbw _⟩
end Go.Proofs.Ytokdbkkjneadgaa
