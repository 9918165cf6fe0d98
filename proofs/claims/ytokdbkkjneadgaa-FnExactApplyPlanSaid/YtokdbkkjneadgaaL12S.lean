/-
  ApplyPlan of the program: what it returns, for all arguments.
-/
import Derived.Test.YtokdbkkjneadgaaL12R
namespace Go.Proofs.Ytokdbkkjneadgaa
set_option maxRecDepth 100000
open Go.RowKit


set_option maxHeartbeats 2000000 in
theorem ApplyPlan_I (w : World) (A : Option Addr) (n c : Nat) (xs : List Rule) (s p q : ByteArray) (h : Sl3 Value.string w A n xs) (hcap : n ≤ c) (hu : OvB xs) (hs : s.size ≤ 1048576) (hp : p.size ≤ 1048576) (hq : q.size ≤ 1048576) :
    Calls Try.prog 54 #[.slice A n c, .string s, .string p, .string q] w fun e w' => e = .returned (.tuple #[.string (applyPlan xs s p q).1, .int .i64 (applyPlan xs s p q).2]) ∧ Below w.heap.size w w' := by
  replace hu := hide hu
  by_cases h1 : overCode xs s q = 0
  · have H1 := hide h1
    by_cases h2 : isPln p = true
    · by_cases h3 : p.size = s.size
      · have HR := hide (applyCode_ok h1 h2 h3)
        obtain ⟨k1, k2, k3, k4⟩ := overCode_ok h1
        have HL := hide (okOvers_lets k1).1
        have hs60 := isTxt_size k2
        have HTS := hide k2
        have HTQ := hide k3
        have e1 : p.size ≤ s.size := by omega
        have e2 : s.size ≤ p.size := by omega
        have e3 : q.size ≤ s.size := by omega
        have e4 : s.size ≤ q.size := by omega
        have h3b : ((p.size : Int) != (s.size : Int)) = false := by simp; omega
        clear k1 k2 k3 k4 h1 h3
        go_enter Try.func54, Try.ntmps54
        go_wp2_with fail
        refine (correctCode_any _ _ _ _ xs s q h hcap hu.out hs hq).mono ?_
        rintro e w0 ⟨rfl, hb⟩
        rw [H1.out]
        obtain ⟨cc, wc, hcv, hB1, hbc, hcl⟩ := conv_bytes w0 s
        have hbw := Below.step hb hbc
        have hbs := hb.size
        go_wp2_with (go_at_call 57; refine (isPlan_any _ _ (by omega)).mono ?_; rintro e w1 ⟨rfl, rfl⟩)
        clear hb hcv hbc
        go_loopw [34] (fun i wr => ∃ (k : Nat) (acc l : List UInt8), k ≤ s.size ∧ i = .int .i64 k ∧ BRow wr w0.heap.size l ∧ l = acc ++ (by_ s).drop k ∧ ApAt xs s p q k acc ∧ Below w.heap.size w wr) (fun i _ => s.size - (intOf i).toNat)
        case atStart => exact ⟨0, [], by_ s, Nat.zero_le _, rfl, hB1, by simp, ⟨rfl, by simp [apOf]⟩, hbw⟩
        case round =>
          clear hB1 hbw
          obtain ⟨k, acc, l, hk, rfl, hB, hl, hA, hbr⟩ := hrel
          have HA := hide hA
          have hll : l.length = s.size := by rw [hl, List.length_append, hA.1, List.length_drop, by_len]; omega
          have hgl := hB.lt
          by_cases ka : k < s.size
          · have kp : k < p.size := by omega
            have kq : k < q.size := by omega
            have hnx : ∀ e, l.set k e = (acc ++ [e]) ++ (by_ s).drop (k + 1) := fun e => by
              rw [hl, List.set_append_right _ _ (by rw [hA.1]; exact Nat.le_refl _), hA.1, Nat.sub_self, drop_get (by_get ka), List.set_cons_zero]; simp
            have hla : l[k]? = some s[k] := by
              rw [hl, List.getElem?_append_right (by rw [hA.1]; exact Nat.le_refl _), hA.1, Nat.sub_self, List.getElem?_drop, Nat.add_zero]; exact by_get ka
            clear hA
            have hxa := by_get ka
            have hxp := by_get kp
            have hxq := by_get kq
            obtain ⟨a, hea⟩ : ∃ b, s[k] = b := ⟨_, rfl⟩
            obtain ⟨b, heb⟩ : ∃ b, p[k] = b := ⟨_, rfl⟩
            obtain ⟨d, hed⟩ : ∃ b, q[k] = b := ⟨_, rfl⟩
            rw [hea] at hxa
            rw [heb] at hxp
            rw [hed] at hxq
            have r1 := run_byte hxa
            have r2 := run_byte hxp
            have r3 := run_byte hxq
            have i1 : (0 : Int) ≤ (k : Int) := by omega
            have i2 : (k : Int) < (s.size : Int) := by omega
            have i3 : (k : Int) < (p.size : Int) := by omega
            have i4 : (k : Int) < (q.size : Int) := by omega
            have ha0 := txt_pos' (by decide) HTS.out hxa
            have hd0 := txt_pos' (by decide) HTQ.out hxq
            have HXA := hide hxa
            have HXP := hide hxp
            have HXQ := hide hxq
            clear hxa hxp hxq hea heb hed
            have hla' : l[k]? = some a := by rw [hla, ← by_get ka]; exact HXA.out
            have hcell := hB.cell hla'
            have HXL := hide hla'
            have hfr := hB.open_ (k := k) (by rw [hll]; exact ka)
            have HN := hide hnx
            replace hll := hide hll
            clear hnx hl hla
            by_cases b43 : b = 43
            · have c2 : ((b.toNat : Int) == 43) = true := b_eq (c := 43) b43
              have HE0 : apStep xs a b d = seenB xs a d := by unfold apStep; rw [if_neg (by rw [b43]; decide), if_pos b43]
              clear b43 ha0 hd0 hla'
              obtain ⟨g, hg⟩ : ∃ g, seenB xs a d = g := ⟨_, rfl⟩
              rw [hg] at HE0
              have HE := hide HE0
              replace hg := hide hg
              clear HE0
              cases g with
              | none =>
                have H2 : Hid (applyPlan xs s p q = (⟨#[]⟩, 3)) := by unfold Hid; rw [HR.out, HA.out.fail HXA.out HXP.out HXQ.out HE.out]
                go_wp2
                go_region_with (go_at_call 73; refine (seen_any _ _ _ _ xs a d ((h.on hbr).draw1) HL.out).mono ?_; rintro e w2 ⟨rfl, hb2⟩; rw [hg.out])
                all_goals
                  go_wp2
                  go_ret2
                  exact ⟨by rw [H2.out]; rfl, Below.step hbr (Below.step (Below.refl _ _).drew hb2)⟩
              | some g =>
                go_wp2
                go_region_with (go_at_call 73; refine (seen_any _ _ _ _ xs a d ((h.on hbr).draw1) HL.out).mono ?_; rintro e w2 ⟨rfl, hb2⟩; rw [hg.out])
                all_goals
                  have hb3 : Below w.heap.size w w2 := Below.step hbr (Below.step (Below.refl _ _).drew hb2)
                  have hB3 : BRow w2 w0.heap.size l := BRow.on (w := wr.drew) hB hb2
                  have hcell3 := hB3.cell HXL.out
                  have hfr3 := hB3.open_ (k := k) (by rw [hll.out]; exact ka)
                  have hS := hide (hB3.set_ k g)
                  clear hcell hfr
                  go_wp2
                  go_roundw
                  case rel => exact ⟨k + 1, acc ++ [g], _, by omega, by go_num, hS.out, HN.out g, HA.out.next HXA.out HXP.out HXQ.out HE.out, hb3.setCell hbs _⟩
                  case measure => simp [intOf]; omega
            · have c2 : ((b.toNat : Int) == 43) = false := b_ne (c := 43) b43
              by_cases b35 : b = 35
              · have c1 : ((b.toNat : Int) == 35) = true := b_eq (c := 35) b35
                have HE : Hid (apStep xs a b d = some d) := by unfold Hid apStep; rw [if_pos b35]
                have hS := hide (hB.set_ k d)
                clear b35 b43 ha0 hd0 hla'
                go_wp2
                go_roundw
                case rel => exact ⟨k + 1, acc ++ [d], _, by omega, by go_num, hS.out, HN.out d, HA.out.next HXA.out HXP.out HXQ.out HE.out, hbr.setCell hbs _⟩
                case measure => simp [intOf]; omega
              · have c1 : ((b.toNat : Int) == 35) = false := b_ne (c := 35) b35
                have HE : Hid (apStep xs a b d = some a) := by unfold Hid apStep; rw [if_neg b35, if_neg b43]
                have hsame : Hid (l = (acc ++ [a]) ++ (by_ s).drop (k + 1)) := by
                  unfold Hid
                  rw [← HN.out a]
                  obtain ⟨e1, e2⟩ := List.getElem?_eq_some_iff.1 hla'
                  rw [← e2, List.set_getElem_self]
                clear b35 b43 ha0 hd0 hla'
                go_wp2
                go_roundw
                case rel => exact ⟨k + 1, acc ++ [a], l, by omega, by go_num, hB, hsame.out, HA.out.next HXA.out HXP.out HXQ.out HE.out, hbr⟩
                case measure => simp [intOf]; omega
          · have H2 : Hid (applyPlan xs s p q = (mkB acc, 0)) := by unfold Hid; rw [HR.out, hA.done ka]
            have hla : Hid (l = acc) := by unfold Hid; rw [hl, List.drop_eq_nil_of_le (by rw [by_len]; omega), List.append_nil]
            have hst := hB.str (c := cc)
            rw [hll] at hst
            clear hA hl hll
            go_wp2
            go_ret2
            exact ⟨by rw [H2.out, ← hla.out]; rfl, hbr⟩
      · have HR := hide (applyCode_bad (xs := xs) (s := s) (p := p) (q := q) (c := 6) (by unfold applyCode; rw [if_pos h1, if_pos h2, if_neg h3]) (by decide))
        have h3b : ((p.size : Int) != (s.size : Int)) = true := by simp; omega
        clear h1 h3
        go_enter Try.func54, Try.ntmps54
        go_wp2_with (first | (go_at_call 76; refine (correctCode_any _ _ _ _ xs s q h hcap hu.out hs hq).mono ?_; rintro e w1 ⟨rfl, hb⟩; rw [H1.out]) | (go_at_call 57; refine (isPlan_any _ _ (by omega)).mono ?_; rintro e w1 ⟨rfl, rfl⟩))
        go_ret2
        exact ⟨by rw [HR.out]; rfl, by (repeat first | exact Below.refl _ _ | (refine Below.alloc ?_ (by go_size) _) | (refine Below.step ?_ (by assumption)))⟩
    · have HR := hide (applyCode_bad (xs := xs) (s := s) (p := p) (q := q) (c := 7) (by unfold applyCode; rw [if_pos h1, if_neg h2]) (by decide))
      replace h2 : isPln p = false := by simpa using h2
      clear h1
      go_enter Try.func54, Try.ntmps54
      go_wp2_with (first | (go_at_call 76; refine (correctCode_any _ _ _ _ xs s q h hcap hu.out hs hq).mono ?_; rintro e w1 ⟨rfl, hb⟩; rw [H1.out]) | (go_at_call 57; refine (isPlan_any _ _ (by omega)).mono ?_; rintro e w1 ⟨rfl, rfl⟩))
      go_ret2
      exact ⟨by rw [HR.out]; rfl, by (repeat first | exact Below.refl _ _ | (refine Below.alloc ?_ (by go_size) _) | (refine Below.step ?_ (by assumption)))⟩
  · have HR := hide (applyCode_bad (p := p) (c := overCode xs s q) (by unfold applyCode; rw [if_neg h1]) h1)
    have h1b : (overCode xs s q != 0) = true := by simpa using h1
    have h1c : (overCode xs s q == 0) = false := by simpa using h1
    clear h1
    go_enter Try.func54, Try.ntmps54
    go_wp2_with (go_at_call 76; refine (correctCode_any _ _ _ _ xs s q h hcap hu.out hs hq).mono ?_; rintro e w1 ⟨rfl, hb⟩; have hsz := hb.size; obtain ⟨hcw, hfw⟩ := bcell hb)
    go_ret2
    exact ⟨by rw [HR.out]; rfl, by (repeat first | exact Below.refl _ _ | (refine Below.alloc ?_ (by go_size) _) | (refine Below.step ?_ (by assumption)))⟩
end Go.Proofs.Ytokdbkkjneadgaa
