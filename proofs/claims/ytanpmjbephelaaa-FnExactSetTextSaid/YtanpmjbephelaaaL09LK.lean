/-
  The law of SetText.
-/
import Derived.Test.YtanpmjbephelaaaL09K
import Derived.Test.YtanpmjbephelaaaArgs
import Derived.Test.YtanpmjbephelaaaInts
import Derived.Test.YtanpmjbephelaaaStrs
import Derived.Test.YtanpmjbephelaaaStrArg
namespace Go.Proofs.Ytanpmjbephelaaa
set_option maxRecDepth 100000
open Go.ChangeShapes Go.WideShapes Go.ChangeAt Go.RowKit Go.Joins
open Go.ChangeMaps (open_string shut_string)

set_option maxHeartbeats 1000000 in
theorem FnExactSetText_walk (w : World) (A0 : Option Addr) (n0 c0 : Nat) (xs0 : List ByteArray) (h0 : Sl Value.string w A0 n0 xs0) (hw0 : ∀ x ∈ xs0, x.size ≤ maxLen) (a1 : Int) (wf1 : -9223372036854775808 ≤ a1 ∧ a1 ≤ 9223372036854775807) (A2 : Option Addr) (n2 c2 : Nat) (xs2 : List Int) (h2 : Sl (Value.int .i64) w A2 n2 xs2) (hw2 : ∀ x ∈ xs2, -9223372036854775808 ≤ x ∧ x ≤ 9223372036854775807) :
    Calls Try.prog 3 #[.slice A0 n0 c0, .int .i64 a1, .slice A2 n2 c2] w fun e w1 => e = .returned (.bool true) ∧ Below w.heap.size w w1 := by
  have mx2 := h2.max
  by_cases hl2 : n2 ≤ 1048576
  · skip
    obtain ⟨z0, hz0e⟩ : ∃ z, z = szStrs 1048576 xs0 := ⟨_, rfl⟩
    by_cases hzl0 : z0 < 0
    · go_enter Try.func3, Try.ntmps3
      go_wp2_with fail
      refine (szStringS_any _ A0 n0 c0 xs0 1048576 h0 hw0 (by omega) (by omega)).mono ?_
      rintro e w1 ⟨rfl, rfl⟩
      rw [← hz0e]
      clear hz0e
      go_wp2
      go_ret
      exact ⟨rfl, by (repeat first | exact Below.refl _ _ | (refine Below.alloc ?_ (by go_size) _) | (refine Below.step ?_ (by assumption)))⟩
    have hq0 := szStrs_le (by rw [← hz0e]; omega : (0 : Int) ≤ szStrs 1048576 xs0)
    obtain ⟨hl0, hu0⟩ := hq0
    rw [h0.len] at hl0
    replace hl0 : n0 ≤ 1048576 := by omega
    replace hw0 := hide hw0
    replace hu0 := hide hu0
    replace wf1 := hide wf1
    replace hw2 := hide hw2
    go_enter Try.func3, Try.ntmps3
    have hB0 := Below.refl w.heap.size w
    go_wp2_with fail
    refine (szStringS_any _ A0 n0 c0 xs0 1048576 h0 hw0.out (by omega) (by omega)).mono ?_
    rintro e w1 ⟨rfl, rfl⟩
    rw [← hz0e]
    clear hz0e
    go_wp2_with fail
    refine (toStringS_any _ A0 n0 c0 xs0 (h0.on hB0) hl0).mono ?_
    rintro e w1 ⟨v1, rfl, hc1⟩
    have hb1 := hc1.below
    have hz1 := hb1.size
    have hB1 := Below.step hB0 hb1
    have hlt1 := hide hc1.own.lt
    obtain ⟨A1_, c1_, rfl, hk1, -, hs1⟩ := Sl.of_coll hc1
    have ho1 := hc1.own
    rw [List.length_map] at ho1
    replace ho1 := hide ho1
    clear hc1
    go_wp2_with fail
    refine (toInt64S_any _ A2 n2 c2 xs2 (h2.on hB1) hl2).mono ?_
    rintro e w2 ⟨v2, rfl, hc2⟩
    have hb2 := hc2.below
    have hz2 := hb2.size
    have hB2 := Below.step hB1 hb2
    have hlt2 := hide hc2.own.lt
    obtain ⟨A2_, c2_, rfl, hk2, -, hs2⟩ := Sl.of_coll hc2
    have ho2 := hc2.own
    rw [List.length_map] at ho2
    replace ho2 := hide ho2
    clear hc2
    go_wp2_with fail
    refine (SetText_S _ A1_ _ c1_ xs0 a1 A2_ _ c2_ xs2 (hs1.on hb2) hk1 hu0.out hs2).mono ?_
    rintro e w3 ⟨v3, rfl, hc3⟩
    have hb3 := hc3.below
    have hz3 := hb3.size
    have hB3 := Below.step hB2 hb3
    have hlt3 := hide hc3.own.lt
    obtain ⟨A3_, c3_, rfl, hk3, -, hs3⟩ := Sl.of_coll hc3
    have ho3 := hc3.own
    rw [List.length_map] at ho3
    replace ho3 := hide ho3
    clear hc3
    go_wp2_with fail
    refine (toStringS_any _ A0 n0 c0 xs0 (h0.on hB3) hl0).mono ?_
    rintro e w4 ⟨v4, rfl, hc4⟩
    have hb4 := hc4.below
    have hz4 := hb4.size
    have hB4 := Below.step hB3 hb4
    have hlt4 := hide hc4.own.lt
    obtain ⟨A4_, c4_, rfl, hk4, -, hs4⟩ := Sl.of_coll hc4
    have ho4 := hc4.own
    rw [List.length_map] at ho4
    replace ho4 := hide ho4
    clear hc4
    go_wp2_with fail
    refine (toInt64S_any _ A2 n2 c2 xs2 (h2.on hB4) hl2).mono ?_
    rintro e w5 ⟨v5, rfl, hc5⟩
    have hb5 := hc5.below
    have hz5 := hb5.size
    have hB5 := Below.step hB4 hb5
    have hlt5 := hide hc5.own.lt
    obtain ⟨A5_, c5_, rfl, hk5, -, hs5⟩ := Sl.of_coll hc5
    have ho5 := hc5.own
    rw [List.length_map] at ho5
    replace ho5 := hide ho5
    clear hc5
    go_wp2_with fail
    refine (SetText_I _ A4_ _ c4_ xs0 a1 A5_ _ c5_ xs2 (hs4.on hb5) hk4 hu0.out hs5).mono ?_
    rintro e w6 ⟨v6, rfl, hc6⟩
    have hb6 := hc6.below
    have hz6 := hb6.size
    have hB6 := Below.step hB5 hb6
    have hlt6 := hide hc6.own.lt
    obtain ⟨A6_, c6_, rfl, hk6, -, hs6⟩ := Sl.of_coll hc6
    have ho6 := hc6.own
    rw [List.length_map] at ho6
    replace ho6 := hide ho6
    clear hc6
    go_wp2_with fail
    refine (eqStringS_same _ _ _ _ _ _ _ hs6 (((hs3.on hb4).on hb5).on hb6)).mono ?_
    rintro e w7 ⟨rfl, hb7⟩
    have hz7 := hb7.size
    have hB7 := Below.step hB6 hb7
    go_wp2_with fail
    refine (toStringS_any _ A0 n0 c0 xs0 (h0.on hB7) hl0).mono ?_
    rintro e w8 ⟨v8, rfl, hc8⟩
    have hb8 := hc8.below
    have hz8 := hb8.size
    have hB8 := Below.step hB7 hb8
    have hlt8 := hide hc8.own.lt
    obtain ⟨A8_, c8_, rfl, hk8, -, hs8⟩ := Sl.of_coll hc8
    have ho8 := hc8.own
    rw [List.length_map] at ho8
    replace ho8 := hide ho8
    clear hc8
    go_wp2_with fail
    refine (eqStringS_same _ _ _ _ _ _ xs0 ((((hs4.on hb5).on hb6).on hb7).on hb8) hs8).mono ?_
    rintro e w9 ⟨rfl, hb9⟩
    have hz9 := hb9.size
    have hB9 := Below.step hB8 hb9
    go_wp2_with fail
    refine (toInt64S_any _ A2 n2 c2 xs2 (h2.on hB9) hl2).mono ?_
    rintro e w10 ⟨v10, rfl, hc10⟩
    have hb10 := hc10.below
    have hz10 := hb10.size
    have hB10 := Below.step hB9 hb10
    have hlt10 := hide hc10.own.lt
    obtain ⟨A10_, c10_, rfl, hk10, -, hs10⟩ := Sl.of_coll hc10
    have ho10 := hc10.own
    rw [List.length_map] at ho10
    replace ho10 := hide ho10
    clear hc10
    go_wp2_with fail
    refine (eqInt64S_same _ _ _ _ _ _ xs2 (((((hs5.on hb6).on hb7).on hb8).on hb9).on hb10) hs10).mono ?_
    rintro e w11 ⟨rfl, hb11⟩
    have hz11 := hb11.size
    have hB11 := Below.step hB10 hb11
    have hom0 := (own_below (own_below (own_below (own_below (own_below (own_below (own_below ho4.out hb5) hb6) hb7) hb8) hb9) hb10) hb11)
    go_wp2_with fail
    refine (markStringS_any _ _ _ _ _ _ _ hom0 (fun u hu => by simp at hu; obtain ⟨z, _, rfl⟩ := hu; exact ⟨_, rfl⟩) (by rw [h0.len]; unfold maxLen; omega) (by omega) (by rw [h0.len]; omega)).mono ?_
    rintro e w12 ⟨rfl, hg12, hom0_⟩
    have hz12 := hg12.size
    have hB12 := below_row hB11 hom0 hB3.size hg12
    replace hg12 := hide hg12
    clear hom0 hom0_
    have hln0 : 0 ≤ (xs0.length : Int) ∧ (xs0.length : Int) ≤ 1048576 := by rw [h0.len]; omega
    have hom2 := (own_kept (own_below (own_below (own_below (own_below (own_below (own_below ho5.out hb6) hb7) hb8) hb9) hb10) hb11) hg12.out (fun g hg he => by have h1 := hlt4.out g hg; have h2 := hlt5.out g he; omega))
    go_wp2_with fail
    refine (markInt64S_any _ _ _ _ _ _ _ hom2 (fun u hu => by simp at hu; obtain ⟨z, _, rfl⟩ := hu; exact ⟨_, rfl⟩) (by rw [h2.len]; unfold maxLen; omega) (by omega) (by rw [h2.len]; omega)).mono ?_
    rintro e w13 ⟨rfl, hg13, hom2_⟩
    have hz13 := hg13.size
    have hB13 := below_row hB12 hom2 hB4.size hg13
    replace hg13 := hide hg13
    clear hom2 hom2_
    have hln2 : 0 ≤ (xs2.length : Int) ∧ (xs2.length : Int) ≤ 1048576 := by rw [h2.len]; omega
    go_wp2_with fail
    refine (eqStringS_same _ _ _ _ _ _ _ (Sl.of_own (own_kept (own_kept (own_below (own_below (own_below (own_below (own_below ho6.out hb7) hb8) hb9) hb10) hb11) hg12.out (fun g hg he => by have h1 := hlt4.out g hg; have h2 := hlt6.out g he; omega)) hg13.out (fun g hg he => by have h1 := hlt5.out g hg; have h2 := hlt6.out g he; omega))) (Sl.of_own (own_kept (own_kept (own_below (own_below (own_below (own_below (own_below (own_below (own_below (own_below ho3.out hb4) hb5) hb6) hb7) hb8) hb9) hb10) hb11) hg12.out (fun g hg he => by have h1 := hlt4.out g hg; have h2 := hlt3.out g he; omega)) hg13.out (fun g hg he => by have h1 := hlt5.out g hg; have h2 := hlt3.out g he; omega)))).mono ?_
    rintro e w14 ⟨rfl, hb14⟩
    have hz14 := hb14.size
    have hB14 := Below.step hB13 hb14
    have homg := (own_below (own_kept (own_kept (own_below (own_below (own_below (own_below (own_below ho6.out hb7) hb8) hb9) hb10) hb11) hg12.out (fun g hg he => by have h1 := hlt4.out g hg; have h2 := hlt6.out g he; omega)) hg13.out (fun g hg he => by have h1 := hlt5.out g hg; have h2 := hlt6.out g he; omega)) hb14)
    have hgl : (setTextR xs0 a1 xs2).1.length ≤ 1073741824 := by have := setTextR_len xs0 a1 xs2; omega
    go_wp2_with fail
    refine (markStringS_any _ _ _ _ _ _ _ homg (fun u hu => by simp at hu; obtain ⟨z, _, rfl⟩ := hu; exact ⟨_, rfl⟩) (by unfold maxLen; omega) (by omega) (by omega)).mono ?_
    rintro e w15 ⟨rfl, hg15, hmg⟩
    have hz15 := hg15.size
    have hB15 := below_row hB14 homg hB5.size hg15
    replace hg15 := hide hg15
    clear homg
    replace hmg := hide hmg
    go_wp2_with fail
    refine (heldStringS_any _ _ _ _ _ _ hmg.out (by unfold maxLen; omega) (by omega) (by omega)).mono ?_
    rintro e w16 ⟨rfl, hb16⟩
    have hz16 := hb16.size
    have hB16 := Below.step hB15 hb16
    go_wp2_with fail
    refine (toStringS_any _ A0 n0 c0 xs0 (h0.on hB16) hl0).mono ?_
    rintro e w17 ⟨v17, rfl, hc17⟩
    have hb17 := hc17.below
    have hz17 := hb17.size
    have hB17 := Below.step hB16 hb17
    have hlt17 := hide hc17.own.lt
    obtain ⟨A17_, c17_, rfl, hk17, -, hs17⟩ := Sl.of_coll hc17
    have ho17 := hc17.own
    rw [List.length_map] at ho17
    replace ho17 := hide ho17
    clear hc17
    go_wp2_with fail
    refine (toInt64S_any _ A2 n2 c2 xs2 (h2.on hB17) hl2).mono ?_
    rintro e w18 ⟨v18, rfl, hc18⟩
    have hb18 := hc18.below
    have hz18 := hb18.size
    have hB18 := Below.step hB17 hb18
    have hlt18 := hide hc18.own.lt
    obtain ⟨A18_, c18_, rfl, hk18, -, hs18⟩ := Sl.of_coll hc18
    have ho18 := hc18.own
    rw [List.length_map] at ho18
    replace ho18 := hide ho18
    clear hc18
    go_wp2_with fail
    refine (SetText_I _ A17_ _ c17_ xs0 a1 A18_ _ c18_ xs2 (hs17.on hb18) hk17 hu0.out hs18).mono ?_
    rintro e w19 ⟨v19, rfl, hc19⟩
    have hb19 := hc19.below
    have hz19 := hb19.size
    have hB19 := Below.step hB18 hb19
    have hlt19 := hide hc19.own.lt
    obtain ⟨A19_, c19_, rfl, hk19, -, hs19⟩ := Sl.of_coll hc19
    have ho19 := hc19.own
    rw [List.length_map] at ho19
    replace ho19 := hide ho19
    clear hc19
    go_wp2_with fail
    refine (eqStringS_same _ _ _ _ _ _ _ hs19 (Sl.of_own (own_below (own_below (own_below (own_below (own_kept (own_below (own_kept (own_kept (own_below (own_below (own_below (own_below (own_below (own_below (own_below (own_below ho3.out hb4) hb5) hb6) hb7) hb8) hb9) hb10) hb11) hg12.out (fun g hg he => by have h1 := hlt4.out g hg; have h2 := hlt3.out g he; omega)) hg13.out (fun g hg he => by have h1 := hlt5.out g hg; have h2 := hlt3.out g he; omega)) hb14) hg15.out (fun g hg he => by have h1 := hlt6.out g hg; have h2 := hlt3.out g he; omega)) hb16) hb17) hb18) hb19))).mono ?_
    rintro e w20 ⟨rfl, hb20⟩
    have hz20 := hb20.size
    have hB20 := Below.step hB19 hb20
    go_wp2_with fail
    refine (heldStringS_any _ _ _ _ _ _ (own_below (own_below (own_below (own_below (own_below hmg.out hb16) hb17) hb18) hb19) hb20) (by unfold maxLen; omega) (by omega) (by omega)).mono ?_
    rintro e w21 ⟨rfl, hb21⟩
    have hz21 := hb21.size
    have hB21 := Below.step hB20 hb21
    go_wp2
    go_ret
    exact ⟨rfl, hB21⟩
  · go_enter Try.func3, Try.ntmps3
    go_wp2
    go_ret
    exact ⟨rfl, Below.refl _ _⟩
set_option maxRecDepth 100000 in
theorem FnExactSetText_lifted (os : Os) (started : os.Started) (H : Type) (enc : TypeId × Value → H) :
    ReturnsInHanded {} Try.checked os 3 .any (Rows.fnExactSetTextSpec.pre6 enc Try.prog Try.f3 Rows.fnExactSetTextRow.domain false) (Rows.fnExactSetTextSpec.post enc Try.prog Try.f3 false true false false) := by
  refine returnsInHanded_of_change (C := Try.checked) own started (by kernel_rfl) Try.func3
    (ChangeSpec.witness6 (enc := enc) (C := Try.checked) false ⟨#[], #[.slice none 0 0, .int .i64 0, .slice none 0 0], []⟩ 8 (by kernel_rfl) (by kernel_rfl) (by kernel_rfl) (by kernel_rfl)) ?_
  intro W base args ds gs before hval0 hW hcnd _
  have hval : ∀ (j : Nat) t v, Try.f3.params[j]? = some t → args[j]? = some v → Value.okWide Try.prog W .any base t v := hval0
  have hW1 := hW
  obtain ⟨p, q, hA0, hV, rfl, hfz, hnd⟩ := hW
  have hA : DataW.TrodAll enc Try.prog W 0 (fun _ => true) true Try.f3.params.toList args.toList ds p := hA0
  rw [Try.params3] at hA hval
  obtain ⟨v0, vs0, d0, ds0, p0, q0, hargs, rfl, rfl, h0, r0⟩ := trodAll_cons hA
  obtain ⟨v1, vs1, d1, ds1, p1, q1, rfl, rfl, rfl, h1, r1⟩ := trodAll_cons r0
  obtain ⟨v2, vs2, d2, ds2, p2, q2, rfl, rfl, rfl, h2, r2⟩ := trodAll_cons r1
  obtain ⟨rfl, rfl, rfl⟩ := trodAll_nil r2
  obtain rfl : args = #[v0, v1, v2] := by cases args; simp_all
  obtain ⟨rfl, rfl⟩ := trodVars_none hV
  have k0 := h0
  have lt0 : ∀ x ∈ p0, x.block < W.heap.size := by obtain ⟨m, hm⟩ := k0; exact DataW.trod_lt m _ _ _ hm
  have o0 := hval 0 22 v0 rfl rfl
  obtain ⟨A0, n0, c0, xs0, rfl, hs0, hw0⟩ := arg_strings o0 h0
  have k1 := h1
  have lt1 : ∀ x ∈ p1, x.block < W.heap.size := by obtain ⟨m, hm⟩ := k1; exact DataW.trod_lt m _ _ _ hm
  have o1 := hval 1 2 v1 rfl rfl
  obtain ⟨a1, rfl, rfl, rfl, wf1⟩ := open_int Try.underlying2 o1 h1
  have k2 := h2
  have lt2 : ∀ x ∈ p2, x.block < W.heap.size := by obtain ⟨m, hm⟩ := k2; exact DataW.trod_lt m _ _ _ hm
  have o2 := hval 2 23 v2 rfl rfl
  obtain ⟨A2, n2, c2, xs2, rfl, hs2, hw2⟩ := arg_ints o2 h2
  clear hA0 hval0
  refine (FnExactSetText_walk W A0 n0 c0 xs0 hs0 hw0 a1 (i64_wf wf1) A2 n2 c2 xs2 hs2 hw2).mono fun e W1 ⟨he, bel⟩ => ?_
  subst he
  exact ⟨_, rfl, _, _, _, [], _, [], hW1, trodAll_mk1 (shut_bool Try.underlying4 _), (trodAll_cons_mk (Below.trod laidOut (by kernel_rfl) (of_decide_eq_true (by kernel_rfl)) k0 bel lt0) (trodAll_cons_mk (Below.trod laidOut (by kernel_rfl) (of_decide_eq_true (by kernel_rfl)) k1 bel lt1) (trodAll_cons_mk (Below.trod laidOut (by kernel_rfl) (of_decide_eq_true (by kernel_rfl)) k2 bel lt2) trodAll_mk0))), rfl, bel.frame _, fun h => by cases h⟩

theorem FnExactSetText_holds : Rows.FnExactSetTextSaid :=
  OpenClaim.holds_of_wide 3 Try.f3 rfl rfl rfl rfl rfl rfl rfl ⟨rfl, rfl, rfl, rfl, rfl⟩ rfl rfl rfl rfl rfl (by kernel_rfl) Try.func3 (by kernel_rfl)
    (of_decide_eq_true (by kernel_rfl)) (by unfold Func.isWrapper; rw [if_neg (of_decide_eq_false (by kernel_rfl))]; exact ⟨rfl, rfl⟩)
    (fun os started H enc _ => FnExactSetText_lifted os started H enc)
end Go.Proofs.Ytanpmjbephelaaa
