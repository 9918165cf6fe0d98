/-
  The law of ApplyPlan.
-/
import Derived.Test.YtokdbkkjneadgaaL12S
import Derived.Test.YtokdbkkjneadgaaArgsT
namespace Go.Proofs.Ytokdbkkjneadgaa
set_option maxRecDepth 100000
open Go.ChangeShapes Go.WideShapes Go.ChangeAt Go.RowKit Go.Joins
open Go.ChangeMaps (open_string shut_string)

set_option maxHeartbeats 1000000 in
theorem FnExactApplyPlan_walk (w : World) (A0 : Option Addr) (n0 c0 : Nat) (xs0 : List (ByteArray × ByteArray × ByteArray)) (h0 : Sl3 Value.string w A0 n0 xs0) (hw0 : ∀ x ∈ xs0, x.1.size ≤ maxLen ∧ x.2.1.size ≤ maxLen ∧ x.2.2.size ≤ maxLen) (s1 : ByteArray) (ms1 : s1.size ≤ maxLen) (s2 : ByteArray) (ms2 : s2.size ≤ maxLen) (s3 : ByteArray) (ms3 : s3.size ≤ maxLen) :
    Calls Try.prog 14 #[.slice A0 n0 c0, .string s1, .string s2, .string s3] w fun e w1 => e = .returned (.bool true) ∧ Below w.heap.size w w1 := by
  unfold maxLen at ms1
  unfold maxLen at ms2
  unfold maxLen at ms3
  by_cases hl1 : s1.size ≤ 1048576
  · skip
    by_cases hl2 : s2.size ≤ 1048576
    · skip
      by_cases hl3 : s3.size ≤ 1048576
      · skip
        obtain ⟨z0, hz0e⟩ : ∃ z, z = szOvers 1048576 xs0 := ⟨_, rfl⟩
        by_cases hzl0 : z0 < 0
        · go_enter Try.func14, Try.ntmps14
          go_wp2_with fail
          refine (szOverS_any _ A0 n0 c0 xs0 1048576 h0 hw0 (by omega) (by omega)).mono ?_
          rintro e w1 ⟨rfl, hbd⟩
          rw [← hz0e]
          clear hz0e
          go_wp2
          go_ret
          exact ⟨rfl, by (repeat first | exact Below.refl _ _ | (refine Below.alloc ?_ (by go_size) _) | (refine Below.step ?_ (by assumption)))⟩
        have hq0 := szOvers_le (by rw [← hz0e]; omega : (0 : Int) ≤ szOvers 1048576 xs0)
        obtain ⟨hl0, hu0⟩ := hq0
        rw [h0.len] at hl0
        replace hw0 := hide hw0
        replace hu0 := hide hu0
        go_enter Try.func14, Try.ntmps14
        have hB0 := Below.refl w.heap.size w
        go_wp2_with fail
        refine (szOverS_any _ A0 n0 c0 xs0 1048576 (h0.on hB0) hw0.out (by omega) (by omega)).mono ?_
        rintro e w1 ⟨rfl, hb1⟩
        rw [← hz0e]
        have hz1 := hb1.size
        have hB1 := Below.step hB0 hb1
        clear hz0e
        go_wp2_with fail
        refine (toOverS_any _ A0 n0 c0 xs0 (h0.on hB1) hl0 hu0.out).mono ?_
        rintro e w2 ⟨A2_, c2_, rfl, hc2⟩
        have hb2 := hc2.below
        have hz2 := hb2.size
        have hB2 := Below.step hB1 hb2
        go_wp2_with fail
        refine (ApplyPlan_S _ A2_ n0 c2_ xs0 s1 s2 s3 hc2.sl hc2.cap hu0.out hl1 hl2 hl3).mono ?_
        rintro e w3 ⟨rfl, hb3⟩
        have hz3 := hb3.size
        have hB3 := Below.step hB2 hb3
        go_wp2_with fail
        refine (toOverS_any _ A0 n0 c0 xs0 (h0.on hB3) hl0 hu0.out).mono ?_
        rintro e w4 ⟨A4_, c4_, rfl, hc4⟩
        have hb4 := hc4.below
        have hz4 := hb4.size
        have hB4 := Below.step hB3 hb4
        go_wp2_with fail
        refine (ApplyPlan_I _ A4_ n0 c4_ xs0 s1 s2 s3 hc4.sl hc4.cap hu0.out hl1 hl2 hl3).mono ?_
        rintro e w5 ⟨rfl, hb5⟩
        have hz5 := hb5.size
        have hB5 := Below.step hB4 hb5
        go_wp2_with fail
        refine (toOverS_any _ A0 n0 c0 xs0 (h0.on hB5) hl0 hu0.out).mono ?_
        rintro e w6 ⟨A6_, c6_, rfl, hc6⟩
        have hb6 := hc6.below
        have hz6 := hb6.size
        have hB6 := Below.step hB5 hb6
        go_wp2_with fail
        refine (eqOverS_same _ _ _ _ _ _ xs0 ((hc4.sl.on hb5).on hb6) hc6.sl).mono ?_
        rintro e w7 ⟨rfl, hb7⟩
        have hz7 := hb7.size
        have hB7 := Below.step hB6 hb7
        go_wp2
        go_ret
        exact ⟨rfl, hB7⟩
      · go_enter Try.func14, Try.ntmps14
        go_wp2
        go_ret
        exact ⟨rfl, Below.refl _ _⟩
    · go_enter Try.func14, Try.ntmps14
      go_wp2
      go_ret
      exact ⟨rfl, Below.refl _ _⟩
  · go_enter Try.func14, Try.ntmps14
    go_wp2
    go_ret
    exact ⟨rfl, Below.refl _ _⟩
set_option maxRecDepth 100000 in
theorem FnExactApplyPlan_lifted (os : Os) (started : os.Started) (H : Type) (enc : TypeId × Value → H) :
    ReturnsInHanded {} Try.checked os 14 .any (Rows.fnExactApplyPlanSpec.pre6 enc Try.prog Try.f14 Rows.fnExactApplyPlanRow.domain false) (Rows.fnExactApplyPlanSpec.post enc Try.prog Try.f14 false true false false) := by
  refine returnsInHanded_of_change (C := Try.checked) own started (by kernel_rfl) Try.func14
    (ChangeSpec.witness6 (enc := enc) (C := Try.checked) false ⟨#[], #[.slice none 0 0, .string ⟨#[]⟩, .string ⟨#[]⟩, .string ⟨#[]⟩], []⟩ 8 (by kernel_rfl) (by kernel_rfl) (by kernel_rfl) (by kernel_rfl)) ?_
  intro W base args ds gs before hval0 hW hcnd _
  have hval : ∀ (j : Nat) t v, Try.f14.params[j]? = some t → args[j]? = some v → Value.okWide Try.prog W .any base t v := hval0
  have hW1 := hW
  obtain ⟨p, q, hA0, hV, rfl, hfz, hnd⟩ := hW
  have hA : DataW.TrodAll enc Try.prog W 0 (fun _ => true) true Try.f14.params.toList args.toList ds p := hA0
  rw [Try.params14] at hA hval
  obtain ⟨v0, vs0, d0, ds0, p0, q0, hargs, rfl, rfl, h0, r0⟩ := trodAll_cons hA
  obtain ⟨v1, vs1, d1, ds1, p1, q1, rfl, rfl, rfl, h1, r1⟩ := trodAll_cons r0
  obtain ⟨v2, vs2, d2, ds2, p2, q2, rfl, rfl, rfl, h2, r2⟩ := trodAll_cons r1
  obtain ⟨v3, vs3, d3, ds3, p3, q3, rfl, rfl, rfl, h3, r3⟩ := trodAll_cons r2
  obtain ⟨rfl, rfl, rfl⟩ := trodAll_nil r3
  obtain rfl : args = #[v0, v1, v2, v3] := by cases args; simp_all
  obtain ⟨rfl, rfl⟩ := trodVars_none hV
  have k0 := h0
  have lt0 : ∀ x ∈ p0, x.block < W.heap.size := by obtain ⟨m, hm⟩ := k0; exact DataW.trod_lt m _ _ _ hm
  have o0 := hval 0 44 v0 rfl rfl
  obtain ⟨A0, n0, c0, xs0, rfl, hs0, hw0⟩ := arg_overs o0 h0
  have k1 := h1
  have lt1 : ∀ x ∈ p1, x.block < W.heap.size := by obtain ⟨m, hm⟩ := k1; exact DataW.trod_lt m _ _ _ hm
  have o1 := hval 1 9 v1 rfl rfl
  obtain ⟨s1, rfl, rfl, rfl, hs1⟩ := open_string Try.underlying9 o1 h1
  have k2 := h2
  have lt2 : ∀ x ∈ p2, x.block < W.heap.size := by obtain ⟨m, hm⟩ := k2; exact DataW.trod_lt m _ _ _ hm
  have o2 := hval 2 9 v2 rfl rfl
  obtain ⟨s2, rfl, rfl, rfl, hs2⟩ := open_string Try.underlying9 o2 h2
  have k3 := h3
  have lt3 : ∀ x ∈ p3, x.block < W.heap.size := by obtain ⟨m, hm⟩ := k3; exact DataW.trod_lt m _ _ _ hm
  have o3 := hval 3 9 v3 rfl rfl
  obtain ⟨s3, rfl, rfl, rfl, hs3⟩ := open_string Try.underlying9 o3 h3
  clear hA0 hval0
  refine (FnExactApplyPlan_walk W A0 n0 c0 xs0 hs0 hw0 s1 hs1 s2 hs2 s3 hs3).mono fun e W1 ⟨he, bel⟩ => ?_
  subst he
  exact ⟨_, rfl, _, _, _, [], _, [], hW1, trodAll_mk1 (shut_bool Try.underlying4 _), (trodAll_cons_mk (Below.trod laidOut (by kernel_rfl) (of_decide_eq_true (by kernel_rfl)) k0 bel lt0) (trodAll_cons_mk (Below.trod laidOut (by kernel_rfl) (of_decide_eq_true (by kernel_rfl)) k1 bel lt1) (trodAll_cons_mk (Below.trod laidOut (by kernel_rfl) (of_decide_eq_true (by kernel_rfl)) k2 bel lt2) (trodAll_cons_mk (Below.trod laidOut (by kernel_rfl) (of_decide_eq_true (by kernel_rfl)) k3 bel lt3) trodAll_mk0)))), rfl, bel.frame _, fun h => by cases h⟩

theorem FnExactApplyPlan_holds : Rows.FnExactApplyPlanSaid :=
  OpenClaim.holds_of_wide 14 Try.f14 rfl rfl rfl rfl rfl rfl rfl ⟨rfl, rfl, rfl, rfl, rfl⟩ rfl rfl rfl rfl rfl (by kernel_rfl) Try.func14 (by kernel_rfl)
    (of_decide_eq_true (by kernel_rfl)) (by unfold Func.isWrapper; rw [if_neg (of_decide_eq_false (by kernel_rfl))]; exact ⟨rfl, rfl⟩)
    (fun os started H enc _ => FnExactApplyPlan_lifted os started H enc)
end Go.Proofs.Ytokdbkkjneadgaa
