/-
  ApplyPlan: what it returns, for all arguments.
-/
import Derived.Test.YtokdbkkjneadgaaL12K
import Derived.Test.YtokdbkkjneadgaaBrow
import Derived.Deep.RegionWith
namespace Go.Proofs.Ytokdbkkjneadgaa
set_option maxRecDepth 100000
open Go.RowKit

def apStep (xs : List Rule) (a p q : UInt8) : Option UInt8 := if p = 35 then some q else if p = 43 then seenB xs a q else some a
def apL (xs : List Rule) : List UInt8 → List UInt8 → List UInt8 → Option (List UInt8)
  | a :: la, p :: lp, q :: lq => match apStep xs a p q with
    | none => none
    | some c => (apL xs la lp lq).map (c :: ·)
  | _, _, _ => some []
theorem apL_step (xs : List Rule) {la lp lq : List UInt8} {k : Nat} {a p q : UInt8} (ha : la[k]? = some a) (hp : lp[k]? = some p) (hq : lq[k]? = some q) :
    apL xs (la.drop k) (lp.drop k) (lq.drop k) = match apStep xs a p q with | none => none | some c => (apL xs (la.drop (k + 1)) (lp.drop (k + 1)) (lq.drop (k + 1))).map (c :: ·) := by
  rw [drop_get ha, drop_get hp, drop_get hq, apL]
def apOf (xs : List Rule) (s p q : ByteArray) : Option (List UInt8) := apL xs (by_ s) (by_ p) (by_ q)
def ApAt (xs : List Rule) (s p q : ByteArray) (k : Nat) (acc : List UInt8) : Prop :=
  acc.length = k ∧ (apL xs ((by_ s).drop k) ((by_ p).drop k) ((by_ q).drop k)).map (acc ++ ·) = apOf xs s p q
theorem ApAt.next {xs : List Rule} {s p q : ByteArray} {k : Nat} {acc : List UInt8} {a b c d : UInt8} (h : ApAt xs s p q k acc) (ha : (by_ s)[k]? = some a) (hb : (by_ p)[k]? = some b) (hc : (by_ q)[k]? = some c) (he : apStep xs a b c = some d) : ApAt xs s p q (k + 1) (acc ++ [d]) := by
  refine ⟨by have := h.1; simp; omega, ?_⟩
  rw [← h.2, apL_step xs ha hb hc, he]
  simp only [Option.map_map]
  congr 1
  funext l
  simp
theorem ApAt.fail {xs : List Rule} {s p q : ByteArray} {k : Nat} {acc : List UInt8} {a b c : UInt8} (h : ApAt xs s p q k acc) (ha : (by_ s)[k]? = some a) (hb : (by_ p)[k]? = some b) (hc : (by_ q)[k]? = some c) (he : apStep xs a b c = none) : apOf xs s p q = none := by
  rw [← h.2, apL_step xs ha hb hc, he]; rfl
theorem ApAt.done {xs : List Rule} {s p q : ByteArray} {k : Nat} {acc : List UInt8} (h : ApAt xs s p q k acc) (hk : ¬ k < s.size) : apOf xs s p q = some acc := by
  have e : (by_ s).drop k = [] := List.drop_eq_nil_of_le (by rw [by_len]; omega)
  rw [← h.2, e, apL]
  · simp
  · intro _ _ _ _ _ _ e; cases e

def applyCode (xs : List Rule) (s p q : ByteArray) : Int :=
  if overCode xs s q = 0 then (if isPln p = true then (if p.size = s.size then 0 else 6) else 7) else overCode xs s q
def applyPlan (xs : List Rule) (s p q : ByteArray) : ByteArray × Int :=
  if applyCode xs s p q = 0 then (match apOf xs s p q with | none => (⟨#[]⟩, 3) | some o => (mkB o, 0)) else (⟨#[]⟩, applyCode xs s p q)
theorem applyCode_ok {xs : List Rule} {s p q : ByteArray} (h1 : overCode xs s q = 0) (h2 : isPln p = true) (h3 : p.size = s.size) : applyPlan xs s p q = match apOf xs s p q with | none => (⟨#[]⟩, 3) | some o => (mkB o, 0) := by
  have : applyCode xs s p q = 0 := by unfold applyCode; rw [if_pos h1, if_pos h2, if_pos h3]
  unfold applyPlan; rw [if_pos this]
theorem applyCode_bad {xs : List Rule} {s p q : ByteArray} {c : Int} (h : applyCode xs s p q = c) (hc : ¬ c = 0) : applyPlan xs s p q = (⟨#[]⟩, c) := by
  unfold applyPlan; rw [h, if_neg hc]


theorem txt_pos' {lo m : Int} {s : ByteArray} (hl : 1 ≤ lo) (h : isTxt lo m s = true) {k : Nat} {b : UInt8} (hb : (by_ s)[k]? = some b) : b ≠ 0 := by
  rw [isTxt, Bool.and_eq_true] at h
  have h2 := h.2
  generalize by_ s = l at h2 hb
  induction l generalizing k with
  | nil => simp at hb
  | cons c cs ih =>
    rw [textGo] at h2
    split at h2
    · cases h2
    · rename_i hc
      cases k with
      | zero =>
        simp at hb
        subst hb
        rintro rfl
        exact hc (Or.inl (by simp; omega))
      | succ k => exact ih h2 (by simpa using hb)


set_option maxHeartbeats 2000000 in
theorem ApplyPlan_S (w : World) (A : Option Addr) (n c : Nat) (xs : List Rule) (s p q : ByteArray) (h : Sl3 Value.string w A n xs) (hcap : n ≤ c) (hu : OvB xs) (hs : s.size ≤ 1048576) (hp : p.size ≤ 1048576) (hq : q.size ≤ 1048576) :
    Calls Try.prog 53 #[.slice A n c, .string s, .string p, .string q] w fun e w' => e = .returned (.tuple #[.string (applyPlan xs s p q).1, .int .i64 (applyPlan xs s p q).2]) ∧ Below w.heap.size w w' := by
  replace hu := hide hu
  by_cases h1 : overCode xs s q = 0
  · have H1 := hide h1
    by_cases h2 : isPln p = true
    · by_cases h3 : p.size = s.size
      · have HR := hide (applyCode_ok h1 h2 h3)
        obtain ⟨k1, k2, k3, k4⟩ := overCode_ok h1
        have HL := hide (okOvers_lets k1).1
        have hs60 := isTxt_size k2
        have HTS := hide k2
        have HTQ := hide k3
        have e1 : p.size ≤ s.size := by omega
        have e2 : s.size ≤ p.size := by omega
        have e3 : q.size ≤ s.size := by omega
        have e4 : s.size ≤ q.size := by omega
        have h3b : ((p.size : Int) != (s.size : Int)) = false := by simp; omega
        clear k1 k2 k3 k4 h1 h3
        go_enter Try.func53, Try.ntmps53
        go_wp2_with (first | (go_at_call 74; refine (l12Code_any _ _ _ _ xs s q h hcap hu.out hs hq).mono ?_; rintro e w1 ⟨rfl, hb⟩; rw [H1.out]; have h0 := Coll.empty (e := 5) hb) | (go_at_call 55; refine (l12IsPlan_any _ _ (by omega)).mono ?_; rintro e w1 ⟨rfl, rfl⟩))
        clear hb
        go_loopw [11, 12] (fun v i wr => ∃ (k : Nat) (acc : List UInt8), k ≤ s.size ∧ i = .int .i64 k ∧ Coll w wr 5 v (acc.map ub) ∧ ApAt xs s p q k acc) (fun _ i _ => s.size - (intOf i).toNat)
        case atStart => exact ⟨0, [], Nat.zero_le _, rfl, h0, rfl, by simp [apOf]⟩
        case round =>
          clear h0
          obtain ⟨k, acc, hk, rfl, hco, hA⟩ := hrel
          have hal : acc.length ≤ k := by rw [hA.1]; exact Nat.le_refl _
          have HA := hide hA
          by_cases kp : k < p.size
          · have ka : k < s.size := by omega
            have kq : k < q.size := by omega
            clear hA
            have hxa := by_get ka
            have hxp := by_get kp
            have hxq := by_get kq
            obtain ⟨a, hea⟩ : ∃ b, s[k] = b := ⟨_, rfl⟩
            obtain ⟨b, heb⟩ : ∃ b, p[k] = b := ⟨_, rfl⟩
            obtain ⟨d, hed⟩ : ∃ b, q[k] = b := ⟨_, rfl⟩
            rw [hea] at hxa
            rw [heb] at hxp
            rw [hed] at hxq
            have r1 := run_byte hxa
            have r2 := run_byte hxp
            have r3 := run_byte hxq
            have i1 : (0 : Int) ≤ (k : Int) := by omega
            have i2 : (k : Int) < (s.size : Int) := by omega
            have i3 : (k : Int) < (p.size : Int) := by omega
            have i4 : (k : Int) < (q.size : Int) := by omega
            have ha0 := txt_pos' (by decide) HTS.out hxa
            have hd0 := txt_pos' (by decide) HTQ.out hxq
            have HXA := hide hxa
            have HXP := hide hxp
            have HXQ := hide hxq
            clear hxa hxp hxq hea heb hed
            by_cases b35 : b = 35
            · have c1 : ((b.toNat : Int) == 35) = true := b_eq (c := 35) b35
              have c0 : ((d.toNat : Int) == 0) = false := b_ne (c := 0) hd0
              have HE : Hid (apStep xs a b d = some d) := by unfold Hid apStep; rw [if_pos b35]
              clear b35 ha0 hd0
              go_wp2_with (at_builtin; refine Coll.push Try.underlying83 byte_info rfl (by decide) hco rfl (by rw [List.length_map]; omega) rfl _ _ rfl rfl rfl ?_; intro v1 w1 hc1 hg1)
              go_roundw
              case rel => exact ⟨k + 1, acc ++ [d], by omega, by go_num, by rw [ub_push]; exact hc1, HA.out.next HXA.out HXP.out HXQ.out HE.out⟩
              case measure => simp [intOf]; omega
            · have c1 : ((b.toNat : Int) == 35) = false := b_ne (c := 35) b35
              by_cases b43 : b = 43
              · have c2 : ((b.toNat : Int) == 43) = true := b_eq (c := 43) b43
                have HE0 : apStep xs a b d = seenB xs a d := by unfold apStep; rw [if_neg b35, if_pos b43]
                clear b35 b43
                obtain ⟨g, hg⟩ : ∃ g, seenB xs a d = g := ⟨_, rfl⟩
                rw [hg] at HE0
                have HE := hide HE0
                cases g with
                | none =>
                  have H2 : Hid (applyPlan xs s p q = (⟨#[]⟩, 3)) := by unfold Hid; rw [HR.out, HA.out.fail HXA.out HXP.out HXQ.out HE.out]
                  replace hg := hide hg
                  clear HE0 ha0 hd0
                  go_wp2
                  go_region_with (go_at_call 71; refine (l12Seen_any _ _ _ _ xs a d ((h.on hco.below).draw1) HL.out).mono ?_; rintro e w2 ⟨rfl, hb2⟩; rw [hg.out])
                  all_goals
                    go_wp2
                    go_ret2
                    exact ⟨by rw [H2.out]; rfl, Below.step hco.below (Below.step (Below.refl _ _).drew hb2)⟩
                | some g =>
                  have c0 : ((g.toNat : Int) == 0) = false := b_ne (c := 0) (seenB_pos HL.out ha0 hd0 hg)
                  replace hg := hide hg
                  clear HE0 ha0 hd0
                  go_wp2
                  go_region_with (go_at_call 71; refine (l12Seen_any _ _ _ _ xs a d ((h.on hco.below).draw1) HL.out).mono ?_; rintro e w2 ⟨rfl, hb2⟩; rw [hg.out])
                  all_goals
                    have hco2 := hco.drew.on hb2
                    go_wp2_with (at_builtin; refine Coll.push Try.underlying83 byte_info rfl (by decide) hco2 rfl (by rw [List.length_map]; omega) rfl _ _ rfl rfl rfl ?_; intro v1 w1 hc1 hg1)
                    go_roundw
                    case rel => exact ⟨k + 1, acc ++ [g], by omega, by go_num, by rw [ub_push]; exact hc1, HA.out.next HXA.out HXP.out HXQ.out HE.out⟩
                    case measure => simp [intOf]; omega
              · have c2 : ((b.toNat : Int) == 43) = false := b_ne (c := 43) b43
                have c0 : ((a.toNat : Int) == 0) = false := b_ne (c := 0) ha0
                have HE : Hid (apStep xs a b d = some a) := by unfold Hid apStep; rw [if_neg b35, if_neg b43]
                clear b35 b43 ha0 hd0
                go_wp2_with (at_builtin; refine Coll.push Try.underlying83 byte_info rfl (by decide) hco rfl (by rw [List.length_map]; omega) rfl _ _ rfl rfl rfl ?_; intro v1 w1 hc1 hg1)
                go_roundw
                case rel => exact ⟨k + 1, acc ++ [a], by omega, by go_num, by rw [ub_push]; exact hc1, HA.out.next HXA.out HXP.out HXQ.out HE.out⟩
                case measure => simp [intOf]; omega
          · have H2 : Hid (applyPlan xs s p q = (mkB acc, 0)) := by unfold Hid; rw [HR.out, hA.done (by omega)]
            have hst := hco.str
            clear hA
            go_wp2
            go_ret2
            exact ⟨by rw [H2.out]; rfl, hco.below⟩
      · have HR := hide (applyCode_bad (xs := xs) (s := s) (p := p) (q := q) (c := 6) (by unfold applyCode; rw [if_pos h1, if_pos h2, if_neg h3]) (by decide))
        have h3b : ((p.size : Int) != (s.size : Int)) = true := by simp; omega
        clear h1 h3
        go_enter Try.func53, Try.ntmps53
        go_wp2_with (first | (go_at_call 74; refine (l12Code_any _ _ _ _ xs s q h hcap hu.out hs hq).mono ?_; rintro e w1 ⟨rfl, hb⟩; rw [H1.out]) | (go_at_call 55; refine (l12IsPlan_any _ _ (by omega)).mono ?_; rintro e w1 ⟨rfl, rfl⟩))
        go_ret2
        exact ⟨by rw [HR.out]; rfl, by (repeat first | exact Below.refl _ _ | (refine Below.alloc ?_ (by go_size) _) | (refine Below.step ?_ (by assumption)))⟩
    · have HR := hide (applyCode_bad (xs := xs) (s := s) (p := p) (q := q) (c := 7) (by unfold applyCode; rw [if_pos h1, if_neg h2]) (by decide))
      replace h2 : isPln p = false := by simpa using h2
      clear h1
      go_enter Try.func53, Try.ntmps53
      go_wp2_with (first | (go_at_call 74; refine (l12Code_any _ _ _ _ xs s q h hcap hu.out hs hq).mono ?_; rintro e w1 ⟨rfl, hb⟩; rw [H1.out]) | (go_at_call 55; refine (l12IsPlan_any _ _ (by omega)).mono ?_; rintro e w1 ⟨rfl, rfl⟩))
      go_ret2
      exact ⟨by rw [HR.out]; rfl, by (repeat first | exact Below.refl _ _ | (refine Below.alloc ?_ (by go_size) _) | (refine Below.step ?_ (by assumption)))⟩
  · have HR := hide (applyCode_bad (p := p) (c := overCode xs s q) (by unfold applyCode; rw [if_neg h1]) h1)
    have h1b : (overCode xs s q != 0) = true := by simpa using h1
    have h1c : (overCode xs s q == 0) = false := by simpa using h1
    clear h1
    go_enter Try.func53, Try.ntmps53
    go_wp2_with (go_at_call 74; refine (l12Code_any _ _ _ _ xs s q h hcap hu.out hs hq).mono ?_; rintro e w1 ⟨rfl, hb⟩; have hsz := hb.size; obtain ⟨hcw, hfw⟩ := bcell hb)
    go_ret2
    exact ⟨by rw [HR.out]; rfl, by (repeat first | exact Below.refl _ _ | (refine Below.alloc ?_ (by go_size) _) | (refine Below.step ?_ (by assumption)))⟩
end Go.Proofs.Ytokdbkkjneadgaa
