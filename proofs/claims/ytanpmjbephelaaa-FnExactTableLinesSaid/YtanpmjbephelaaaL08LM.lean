/-
  The law of TableLines.
-/
import Derived.Test.YtanpmjbephelaaaL08K
import Derived.Test.YtanpmjbephelaaaL08M
import Derived.Test.YtanpmjbephelaaaArgTab
import Derived.Test.YtanpmjbephelaaaInts
import Derived.Test.YtanpmjbephelaaaStrs
namespace Go.Proofs.Ytanpmjbephelaaa
set_option maxRecDepth 100000
open Go.ChangeShapes Go.WideShapes Go.ChangeAt Go.RowKit Go.Joins
open Go.ChangeMaps (open_string shut_string)

set_option maxHeartbeats 1000000 in
theorem FnExactTableLines_walk (w : World) (A0 : Option Addr) (n0 c0 : Nat) (xs0 : List (List ByteArray)) (h0 : Tb w A0 n0 xs0) (hw0 : ∀ r ∈ xs0, ∀ x ∈ r, x.size ≤ maxLen) (s1 : ByteArray) (ms1 : s1.size ≤ maxLen) (a2 : Int) (wf2 : -9223372036854775808 ≤ a2 ∧ a2 ≤ 9223372036854775807) :
    Calls Try.prog 12 #[.slice A0 n0 c0, .string s1, .int .i64 a2] w fun e w1 => e = .returned (.bool true) ∧ Below w.heap.size w w1 := by
  unfold maxLen at ms1
  by_cases hl1 : s1.size ≤ 1048576
  · skip
    obtain ⟨z0, hz0e⟩ : ∃ z, z = szStringSS 1048576 xs0 := ⟨_, rfl⟩
    by_cases hzl0 : z0 < 0
    · go_enter Try.func12, Try.ntmps12
      go_wp2_with fail
      refine (szStringSS_any _ A0 n0 c0 xs0 1048576 h0 hw0 (by omega) (by omega)).mono ?_
      rintro e w1 ⟨rfl, rfl⟩
      rw [← hz0e]
      clear hz0e
      go_wp2
      go_ret
      exact ⟨rfl, by (repeat first | exact Below.refl _ _ | (refine Below.alloc ?_ (by go_size) _) | (refine Below.step ?_ (by assumption)))⟩
    have hq0 := szStringSS_le (by rw [← hz0e]; omega : (0 : Int) ≤ szStringSS 1048576 xs0)
    obtain ⟨hl0, hu0⟩ := hq0
    rw [h0.len] at hl0
    replace hl0 : n0 ≤ 1048576 := by omega
    have hv0 := hide (fun r hr => by have := (hu0 r hr).1; omega : ∀ r ∈ xs0, r.length ≤ 1048576)
    replace hu0 := (fun r hr s hs => by have := (hu0 r hr).2 s hs; omega : ∀ r ∈ xs0, ∀ s ∈ r, (s.size : Int) ≤ 1048576)
    replace hw0 := hide hw0
    replace hu0 := hide hu0
    replace wf2 := hide wf2
    go_enter Try.func12, Try.ntmps12
    have hB0 := Below.refl w.heap.size w
    go_wp2_with fail
    refine (szStringSS_any _ A0 n0 c0 xs0 1048576 h0 hw0.out (by omega) (by omega)).mono ?_
    rintro e w1 ⟨rfl, rfl⟩
    rw [← hz0e]
    clear hz0e
    go_wp2_with fail
    refine (toStringSS_any _ A0 n0 c0 xs0 (h0.on hB0) hl0 hv0.out).mono ?_
    rintro e w1 ⟨vals1, rfl, hc1⟩
    have hb1 := hc1.below
    have hz1 := hb1.size
    have hB1 := Below.step hB0 hb1
    go_wp2_with fail
    refine (TableLines_S _ _ _ _ xs0 s1 a2 (hc1.tb h0.len h0.max) hu0.out hl1).mono ?_
    rintro e w2 ⟨v2, rfl, hc2⟩
    have hb2 := hc2.below
    have hz2 := hb2.size
    have hB2 := Below.step hB1 hb2
    have hlt2 := hide hc2.own.lt
    obtain ⟨A2_, c2_, rfl, hk2, -, hs2⟩ := Sl.of_coll hc2
    have ho2 := hc2.own
    rw [List.length_map] at ho2
    replace ho2 := hide ho2
    clear hc2
    go_wp2_with fail
    refine (toStringSS_any _ A0 n0 c0 xs0 (h0.on hB2) hl0 hv0.out).mono ?_
    rintro e w3 ⟨vals3, rfl, hc3⟩
    have hb3 := hc3.below
    have hz3 := hb3.size
    have hB3 := Below.step hB2 hb3
    go_wp2_with fail
    refine (TableLines_I _ _ _ _ xs0 s1 a2 (hc3.tb h0.len h0.max) hu0.out hl1).mono ?_
    rintro e w4 ⟨v4, rfl, hc4⟩
    have hb4 := hc4.below
    have hz4 := hb4.size
    have hB4 := Below.step hB3 hb4
    have hlt4 := hide hc4.own.lt
    obtain ⟨A4_, c4_, rfl, hk4, -, hs4⟩ := Sl.of_coll hc4
    have ho4 := hc4.own
    rw [List.length_map] at ho4
    replace ho4 := hide ho4
    clear hc4
    go_wp2_with fail
    refine (eqStringS_same _ _ _ _ _ _ _ hs4 ((hs2.on hb3).on hb4)).mono ?_
    rintro e w5 ⟨rfl, hb5⟩
    have hz5 := hb5.size
    have hB5 := Below.step hB4 hb5
    go_wp2_with fail
    refine (toStringSS_any _ A0 n0 c0 xs0 (h0.on hB5) hl0 hv0.out).mono ?_
    rintro e w6 ⟨vals6, rfl, hc6⟩
    have hb6 := hc6.below
    have hz6 := hb6.size
    have hB6 := Below.step hB5 hb6
    go_wp2_with fail
    refine (eqStringSS_same _ _ _ _ _ _ xs0 ((((hc3.tb h0.len h0.max).on hb4).on hb5).on hb6) (hc6.tb h0.len h0.max)).mono ?_
    rintro e w7 ⟨rfl, hb7⟩
    have hz7 := hb7.size
    have hB7 := Below.step hB6 hb7
    go_wp2_with fail
    refine (markStringSS_any _ _ xs0 _ _ hc3 (Below.step (Below.step (Below.step (Below.step (Below.refl _ _) hb4) hb5) hb6) hb7) h0.len hl0 hv0.out _ (by omega) (by omega)).mono ?_
    rintro e w8 ⟨zk, rfl, hzk0, hzk1, hgz8⟩
    have hz8 := hgz8.size
    have hB8 := Chg.below hgz8 hB7 hB2.size hB7.size
    replace hgz8 := hide hgz8
    go_wp2_with fail
    refine (eqStringS_same _ _ _ _ _ _ _ (Sl.of_own (own_chg (own_below (own_below (own_below ho4.out hb5) hb6) hb7) hgz8.out (fun g hg => by have h1 := hlt4.out g hg; omega))) (Sl.of_own (own_chg (own_below (own_below (own_below (own_below (own_below ho2.out hb3) hb4) hb5) hb6) hb7) hgz8.out (fun g hg => by have h1 := hlt2.out g hg; omega)))).mono ?_
    rintro e w9 ⟨rfl, hb9⟩
    have hz9 := hb9.size
    have hB9 := Below.step hB8 hb9
    have homg := (own_below (own_chg (own_below (own_below (own_below ho4.out hb5) hb6) hb7) hgz8.out (fun g hg => by have h1 := hlt4.out g hg; omega)) hb9)
    have hgl : (tableR xs0 s1 a2).1.length ≤ 1073741824 := by have := tableR_len xs0 s1 a2; omega
    go_wp2_with fail
    refine (markStringS_any _ _ _ _ _ _ _ homg (fun u hu => by simp at hu; obtain ⟨z, _, rfl⟩ := hu; exact ⟨_, rfl⟩) (by unfold maxLen; omega) (by omega) (by omega)).mono ?_
    rintro e w10 ⟨rfl, hg10, hmg⟩
    have hz10 := hg10.size
    have hB10 := below_row hB9 homg hB3.size hg10
    replace hg10 := hide hg10
    clear homg
    replace hmg := hide hmg
    go_wp2_with fail
    refine (heldStringS_any _ _ _ _ _ _ hmg.out (by unfold maxLen; omega) (by omega) (by omega)).mono ?_
    rintro e w11 ⟨rfl, hb11⟩
    have hz11 := hb11.size
    have hB11 := Below.step hB10 hb11
    go_wp2_with fail
    refine (toStringSS_any _ A0 n0 c0 xs0 (h0.on hB11) hl0 hv0.out).mono ?_
    rintro e w12 ⟨vals12, rfl, hc12⟩
    have hb12 := hc12.below
    have hz12 := hb12.size
    have hB12 := Below.step hB11 hb12
    go_wp2_with fail
    refine (TableLines_I _ _ _ _ xs0 s1 a2 (hc12.tb h0.len h0.max) hu0.out hl1).mono ?_
    rintro e w13 ⟨v13, rfl, hc13⟩
    have hb13 := hc13.below
    have hz13 := hb13.size
    have hB13 := Below.step hB12 hb13
    have hlt13 := hide hc13.own.lt
    obtain ⟨A13_, c13_, rfl, hk13, -, hs13⟩ := Sl.of_coll hc13
    have ho13 := hc13.own
    rw [List.length_map] at ho13
    replace ho13 := hide ho13
    clear hc13
    go_wp2_with fail
    refine (eqStringS_same _ _ _ _ _ _ _ hs13 (Sl.of_own (own_below (own_below (own_below (own_kept (own_below (own_chg (own_below (own_below (own_below (own_below (own_below ho2.out hb3) hb4) hb5) hb6) hb7) hgz8.out (fun g hg => by have h1 := hlt2.out g hg; omega)) hb9) hg10.out (fun g hg he => by have h1 := hlt4.out g hg; have h2 := hlt2.out g he; omega)) hb11) hb12) hb13))).mono ?_
    rintro e w14 ⟨rfl, hb14⟩
    have hz14 := hb14.size
    have hB14 := Below.step hB13 hb14
    go_wp2_with fail
    refine (heldStringS_any _ _ _ _ _ _ (own_below (own_below (own_below (own_below hmg.out hb11) hb12) hb13) hb14) (by unfold maxLen; omega) (by omega) (by omega)).mono ?_
    rintro e w15 ⟨rfl, hb15⟩
    have hz15 := hb15.size
    have hB15 := Below.step hB14 hb15
    go_wp2
    go_ret
    exact ⟨rfl, hB15⟩
  · go_enter Try.func12, Try.ntmps12
    go_wp2
    go_ret
    exact ⟨rfl, Below.refl _ _⟩
set_option maxRecDepth 100000 in
theorem FnExactTableLines_lifted (os : Os) (started : os.Started) (H : Type) (enc : TypeId × Value → H) :
    ReturnsInHanded {} Try.checked os 12 .any (Rows.fnExactTableLinesSpec.pre6 enc Try.prog Try.f12 Rows.fnExactTableLinesRow.domain false) (Rows.fnExactTableLinesSpec.post enc Try.prog Try.f12 false true false false) := by
  refine returnsInHanded_of_change (C := Try.checked) own started (by kernel_rfl) Try.func12
    (ChangeSpec.witness6 (enc := enc) (C := Try.checked) false ⟨#[], #[.slice none 0 0, .string ⟨#[]⟩, .int .i64 0], []⟩ 8 (by kernel_rfl) (by kernel_rfl) (by kernel_rfl) (by kernel_rfl)) ?_
  intro W base args ds gs before hval0 hW hcnd _
  have hval : ∀ (j : Nat) t v, Try.f12.params[j]? = some t → args[j]? = some v → Value.okWide Try.prog W .any base t v := hval0
  have hW1 := hW
  obtain ⟨p, q, hA0, hV, rfl, hfz, hnd⟩ := hW
  have hA : DataW.TrodAll enc Try.prog W 0 (fun _ => true) true Try.f12.params.toList args.toList ds p := hA0
  rw [Try.params12] at hA hval
  obtain ⟨v0, vs0, d0, ds0, p0, q0, hargs, rfl, rfl, h0, r0⟩ := trodAll_cons hA
  obtain ⟨v1, vs1, d1, ds1, p1, q1, rfl, rfl, rfl, h1, r1⟩ := trodAll_cons r0
  obtain ⟨v2, vs2, d2, ds2, p2, q2, rfl, rfl, rfl, h2, r2⟩ := trodAll_cons r1
  obtain ⟨rfl, rfl, rfl⟩ := trodAll_nil r2
  obtain rfl : args = #[v0, v1, v2] := by cases args; simp_all
  obtain ⟨rfl, rfl⟩ := trodVars_none hV
  have k0 := h0
  have lt0 : ∀ x ∈ p0, x.block < W.heap.size := by obtain ⟨m, hm⟩ := k0; exact DataW.trod_lt m _ _ _ hm
  have o0 := hval 0 43 v0 rfl rfl
  obtain ⟨A0, n0, c0, xs0, rfl, hs0, hw0⟩ := arg_tables o0 h0
  have k1 := h1
  have lt1 : ∀ x ∈ p1, x.block < W.heap.size := by obtain ⟨m, hm⟩ := k1; exact DataW.trod_lt m _ _ _ hm
  have o1 := hval 1 9 v1 rfl rfl
  obtain ⟨s1, rfl, rfl, rfl, hs1⟩ := open_string Try.underlying9 o1 h1
  have k2 := h2
  have lt2 : ∀ x ∈ p2, x.block < W.heap.size := by obtain ⟨m, hm⟩ := k2; exact DataW.trod_lt m _ _ _ hm
  have o2 := hval 2 2 v2 rfl rfl
  obtain ⟨a2, rfl, rfl, rfl, wf2⟩ := open_int Try.underlying2 o2 h2
  clear hA0 hval0
  refine (FnExactTableLines_walk W A0 n0 c0 xs0 hs0 hw0 s1 hs1 a2 (i64_wf wf2)).mono fun e W1 ⟨he, bel⟩ => ?_
  subst he
  exact ⟨_, rfl, _, _, _, [], _, [], hW1, trodAll_mk1 (shut_bool Try.underlying4 _), (trodAll_cons_mk (Below.trod laidOut (by kernel_rfl) (of_decide_eq_true (by kernel_rfl)) k0 bel lt0) (trodAll_cons_mk (Below.trod laidOut (by kernel_rfl) (of_decide_eq_true (by kernel_rfl)) k1 bel lt1) (trodAll_cons_mk (Below.trod laidOut (by kernel_rfl) (of_decide_eq_true (by kernel_rfl)) k2 bel lt2) trodAll_mk0))), rfl, bel.frame _, fun h => by cases h⟩

theorem FnExactTableLines_holds : Rows.FnExactTableLinesSaid :=
  OpenClaim.holds_of_wide 12 Try.f12 rfl rfl rfl rfl rfl rfl rfl ⟨rfl, rfl, rfl, rfl, rfl⟩ rfl rfl rfl rfl rfl (by kernel_rfl) Try.func12 (by kernel_rfl)
    (of_decide_eq_true (by kernel_rfl)) (by unfold Func.isWrapper; rw [if_neg (of_decide_eq_false (by kernel_rfl))]; exact ⟨rfl, rfl⟩)
    (fun os started H enc _ => FnExactTableLines_lifted os started H enc)
end Go.Proofs.Ytanpmjbephelaaa
