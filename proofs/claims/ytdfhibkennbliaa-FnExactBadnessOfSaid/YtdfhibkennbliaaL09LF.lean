/-
  The law of BadnessOf.
-/
import Derived.Test.YtdfhibkennbliaaL09F
import Derived.Test.YtdfhibkennbliaaArgs
import Derived.Test.YtdfhibkennbliaaInts
import Derived.Test.YtdfhibkennbliaaStrs
import Derived.Test.YtdfhibkennbliaaStrArg
namespace Go.Proofs.Ytdfhibkennbliaa
set_option maxRecDepth 100000
open Go.ChangeShapes Go.WideShapes Go.ChangeAt Go.RowKit Go.Joins
open Go.ChangeMaps (open_string shut_string)

set_option maxHeartbeats 1000000 in
theorem FnExactBadnessOf_walk (w : World) (A0 : Option Addr) (n0 c0 : Nat) (xs0 : List ByteArray) (h0 : Sl Value.string w A0 n0 xs0) (hw0 : ∀ x ∈ xs0, x.size ≤ maxLen) (a1 : Int) (wf1 : -9223372036854775808 ≤ a1 ∧ a1 ≤ 9223372036854775807) (A2 : Option Addr) (n2 c2 : Nat) (xs2 : List Int) (h2 : Sl (Value.int .i64) w A2 n2 xs2) (hw2 : ∀ x ∈ xs2, -9223372036854775808 ≤ x ∧ x ≤ 9223372036854775807) :
    Calls Try.prog 11 #[.slice A0 n0 c0, .int .i64 a1, .slice A2 n2 c2] w fun e w1 => e = .returned (.bool true) ∧ Below w.heap.size w w1 := by
  have mx2 := h2.max
  by_cases hl2 : n2 ≤ 1048576
  · skip
    obtain ⟨z0, hz0e⟩ : ∃ z, z = szStrs 1048576 xs0 := ⟨_, rfl⟩
    by_cases hzl0 : z0 < 0
    · go_enter Try.func11, Try.ntmps11
      go_wp2_with fail
      refine (szStringS_any _ A0 n0 c0 xs0 1048576 h0 hw0 (by omega) (by omega)).mono ?_
      rintro e w1 ⟨rfl, rfl⟩
      rw [← hz0e]
      clear hz0e
      go_wp2
      go_ret
      exact ⟨rfl, by (repeat first | exact Below.refl _ _ | (refine Below.alloc ?_ (by go_size) _) | (refine Below.step ?_ (by assumption)))⟩
    have hq0 := szStrs_le (by rw [← hz0e]; omega : (0 : Int) ≤ szStrs 1048576 xs0)
    obtain ⟨hl0, hu0⟩ := hq0
    rw [h0.len] at hl0
    replace hl0 : n0 ≤ 1048576 := by omega
    replace hw0 := hide hw0
    replace hu0 := hide hu0
    replace wf1 := hide wf1
    replace hw2 := hide hw2
    go_enter Try.func11, Try.ntmps11
    have hB0 := Below.refl w.heap.size w
    go_wp2_with fail
    refine (szStringS_any _ A0 n0 c0 xs0 1048576 h0 hw0.out (by omega) (by omega)).mono ?_
    rintro e w1 ⟨rfl, rfl⟩
    rw [← hz0e]
    clear hz0e
    go_wp2_with fail
    refine (toStringS_any _ A0 n0 c0 xs0 (h0.on hB0) hl0).mono ?_
    rintro e w1 ⟨v1, rfl, hc1⟩
    have hb1 := hc1.below
    have hz1 := hb1.size
    have hB1 := Below.step hB0 hb1
    have hlt1 := hide hc1.own.lt
    obtain ⟨A1_, c1_, rfl, hk1, -, hs1⟩ := Sl.of_coll hc1
    have ho1 := hc1.own
    rw [List.length_map] at ho1
    replace ho1 := hide ho1
    clear hc1
    go_wp2_with fail
    refine (toInt64S_any _ A2 n2 c2 xs2 (h2.on hB1) hl2).mono ?_
    rintro e w2 ⟨v2, rfl, hc2⟩
    have hb2 := hc2.below
    have hz2 := hb2.size
    have hB2 := Below.step hB1 hb2
    have hlt2 := hide hc2.own.lt
    obtain ⟨A2_, c2_, rfl, hk2, -, hs2⟩ := Sl.of_coll hc2
    have ho2 := hc2.own
    rw [List.length_map] at ho2
    replace ho2 := hide ho2
    clear hc2
    go_wp2_with fail
    refine (BadnessOf_S _ A1_ _ c1_ xs0 a1 A2_ _ c2_ xs2 (hs1.on hb2) hk1 hu0.out hs2).mono ?_
    rintro e w3 ⟨rfl, hb3⟩
    have hz3 := hb3.size
    have hB3 := Below.step hB2 hb3
    go_wp2_with fail
    refine (toStringS_any _ A0 n0 c0 xs0 (h0.on hB3) hl0).mono ?_
    rintro e w4 ⟨v4, rfl, hc4⟩
    have hb4 := hc4.below
    have hz4 := hb4.size
    have hB4 := Below.step hB3 hb4
    have hlt4 := hide hc4.own.lt
    obtain ⟨A4_, c4_, rfl, hk4, -, hs4⟩ := Sl.of_coll hc4
    have ho4 := hc4.own
    rw [List.length_map] at ho4
    replace ho4 := hide ho4
    clear hc4
    go_wp2_with fail
    refine (toInt64S_any _ A2 n2 c2 xs2 (h2.on hB4) hl2).mono ?_
    rintro e w5 ⟨v5, rfl, hc5⟩
    have hb5 := hc5.below
    have hz5 := hb5.size
    have hB5 := Below.step hB4 hb5
    have hlt5 := hide hc5.own.lt
    obtain ⟨A5_, c5_, rfl, hk5, -, hs5⟩ := Sl.of_coll hc5
    have ho5 := hc5.own
    rw [List.length_map] at ho5
    replace ho5 := hide ho5
    clear hc5
    go_wp2_with fail
    refine (BadnessOf_I _ A4_ _ c4_ xs0 a1 A5_ _ c5_ xs2 (hs4.on hb5) hk4 hu0.out hs5).mono ?_
    rintro e w6 ⟨rfl, hb6⟩
    have hz6 := hb6.size
    have hB6 := Below.step hB5 hb6
    go_wp2_with fail
    refine (toStringS_any _ A0 n0 c0 xs0 (h0.on hB6) hl0).mono ?_
    rintro e w7 ⟨v7, rfl, hc7⟩
    have hb7 := hc7.below
    have hz7 := hb7.size
    have hB7 := Below.step hB6 hb7
    have hlt7 := hide hc7.own.lt
    obtain ⟨A7_, c7_, rfl, hk7, -, hs7⟩ := Sl.of_coll hc7
    have ho7 := hc7.own
    rw [List.length_map] at ho7
    replace ho7 := hide ho7
    clear hc7
    go_wp2_with fail
    refine (eqStringS_same _ _ _ _ _ _ xs0 (((hs4.on hb5).on hb6).on hb7) hs7).mono ?_
    rintro e w8 ⟨rfl, hb8⟩
    have hz8 := hb8.size
    have hB8 := Below.step hB7 hb8
    go_wp2_with fail
    refine (toInt64S_any _ A2 n2 c2 xs2 (h2.on hB8) hl2).mono ?_
    rintro e w9 ⟨v9, rfl, hc9⟩
    have hb9 := hc9.below
    have hz9 := hb9.size
    have hB9 := Below.step hB8 hb9
    have hlt9 := hide hc9.own.lt
    obtain ⟨A9_, c9_, rfl, hk9, -, hs9⟩ := Sl.of_coll hc9
    have ho9 := hc9.own
    rw [List.length_map] at ho9
    replace ho9 := hide ho9
    clear hc9
    go_wp2_with fail
    refine (eqInt64S_same _ _ _ _ _ _ xs2 ((((hs5.on hb6).on hb7).on hb8).on hb9) hs9).mono ?_
    rintro e w10 ⟨rfl, hb10⟩
    have hz10 := hb10.size
    have hB10 := Below.step hB9 hb10
    go_wp2
    go_ret
    exact ⟨rfl, hB10⟩
  · go_enter Try.func11, Try.ntmps11
    go_wp2
    go_ret
    exact ⟨rfl, Below.refl _ _⟩
set_option maxRecDepth 100000 in
theorem FnExactBadnessOf_lifted (os : Os) (started : os.Started) (H : Type) (enc : TypeId × Value → H) :
    ReturnsInHanded {} Try.checked os 11 .any (Rows.fnExactBadnessOfSpec.pre6 enc Try.prog Try.f11 Rows.fnExactBadnessOfRow.domain false) (Rows.fnExactBadnessOfSpec.post enc Try.prog Try.f11 false true false false) := by
  refine returnsInHanded_of_change (C := Try.checked) own started (by kernel_rfl) Try.func11
    (ChangeSpec.witness6 (enc := enc) (C := Try.checked) false ⟨#[], #[.slice none 0 0, .int .i64 0, .slice none 0 0], []⟩ 8 (by kernel_rfl) (by kernel_rfl) (by kernel_rfl) (by kernel_rfl)) ?_
  intro W base args ds gs before hval0 hW hcnd _
  have hval : ∀ (j : Nat) t v, Try.f11.params[j]? = some t → args[j]? = some v → Value.okWide Try.prog W .any base t v := hval0
  have hW1 := hW
  obtain ⟨p, q, hA0, hV, rfl, hfz, hnd⟩ := hW
  have hA : DataW.TrodAll enc Try.prog W 0 (fun _ => true) true Try.f11.params.toList args.toList ds p := hA0
  rw [Try.params11] at hA hval
  obtain ⟨v0, vs0, d0, ds0, p0, q0, hargs, rfl, rfl, h0, r0⟩ := trodAll_cons hA
  obtain ⟨v1, vs1, d1, ds1, p1, q1, rfl, rfl, rfl, h1, r1⟩ := trodAll_cons r0
  obtain ⟨v2, vs2, d2, ds2, p2, q2, rfl, rfl, rfl, h2, r2⟩ := trodAll_cons r1
  obtain ⟨rfl, rfl, rfl⟩ := trodAll_nil r2
  obtain rfl : args = #[v0, v1, v2] := by cases args; simp_all
  obtain ⟨rfl, rfl⟩ := trodVars_none hV
  have k0 := h0
  have lt0 : ∀ x ∈ p0, x.block < W.heap.size := by obtain ⟨m, hm⟩ := k0; exact DataW.trod_lt m _ _ _ hm
  have o0 := hval 0 22 v0 rfl rfl
  obtain ⟨A0, n0, c0, xs0, rfl, hs0, hw0⟩ := arg_strings o0 h0
  have k1 := h1
  have lt1 : ∀ x ∈ p1, x.block < W.heap.size := by obtain ⟨m, hm⟩ := k1; exact DataW.trod_lt m _ _ _ hm
  have o1 := hval 1 2 v1 rfl rfl
  obtain ⟨a1, rfl, rfl, rfl, wf1⟩ := open_int Try.underlying2 o1 h1
  have k2 := h2
  have lt2 : ∀ x ∈ p2, x.block < W.heap.size := by obtain ⟨m, hm⟩ := k2; exact DataW.trod_lt m _ _ _ hm
  have o2 := hval 2 23 v2 rfl rfl
  obtain ⟨A2, n2, c2, xs2, rfl, hs2, hw2⟩ := arg_ints o2 h2
  clear hA0 hval0
  refine (FnExactBadnessOf_walk W A0 n0 c0 xs0 hs0 hw0 a1 (i64_wf wf1) A2 n2 c2 xs2 hs2 hw2).mono fun e W1 ⟨he, bel⟩ => ?_
  subst he
  exact ⟨_, rfl, _, _, _, [], _, [], hW1, trodAll_mk1 (shut_bool Try.underlying4 _), (trodAll_cons_mk (Below.trod laidOut (by kernel_rfl) (of_decide_eq_true (by kernel_rfl)) k0 bel lt0) (trodAll_cons_mk (Below.trod laidOut (by kernel_rfl) (of_decide_eq_true (by kernel_rfl)) k1 bel lt1) (trodAll_cons_mk (Below.trod laidOut (by kernel_rfl) (of_decide_eq_true (by kernel_rfl)) k2 bel lt2) trodAll_mk0))), rfl, bel.frame _, fun h => by cases h⟩

theorem FnExactBadnessOf_holds : Rows.FnExactBadnessOfSaid :=
  OpenClaim.holds_of_wide 11 Try.f11 rfl rfl rfl rfl rfl rfl rfl ⟨rfl, rfl, rfl, rfl, rfl⟩ rfl rfl rfl rfl rfl (by kernel_rfl) Try.func11 (by kernel_rfl)
    (of_decide_eq_true (by kernel_rfl)) (by unfold Func.isWrapper; rw [if_neg (of_decide_eq_false (by kernel_rfl))]; exact ⟨rfl, rfl⟩)
    (fun os started H enc _ => FnExactBadnessOf_lifted os started H enc)
end Go.Proofs.Ytdfhibkennbliaa
