/-
  The laws of StrengthAt and ForceFor.
-/
import Derived.Test.YtogpplaccnlnmaaL13
import Derived.Test.YtogpplaccnlnmaaArgs
namespace Go.Proofs.Ytogpplaccnlnmaa
open Go.ChangeShapes Go.WideShapes Go.ChangeAt Go.RowKit Go.Joins
open Go.ChangeMaps (open_string shut_string)

set_option maxHeartbeats 1000000 in
theorem FnExactStrengthAt_walk (w : World) (x00 : Int) (wf00 : -9223372036854775808 ≤ x00 ∧ x00 ≤ 9223372036854775807) (x01 : Int) (wf01 : -9223372036854775808 ≤ x01 ∧ x01 ≤ 9223372036854775807) (x02 : Int) (wf02 : -9223372036854775808 ≤ x02 ∧ x02 ≤ 9223372036854775807) (a1 : Int) (wf1 : -9223372036854775808 ≤ a1 ∧ a1 ≤ 9223372036854775807) :
    Calls Try.prog 6 #[.agg #[.int .i64 x00, .int .i64 x01, .int .i64 x02], .int .i64 a1] w fun e w1 => e = .returned (.bool true) ∧ Below w.heap.size w w1 := by
  replace wf00 := hide wf00
  replace wf01 := hide wf01
  replace wf02 := hide wf02
  replace wf1 := hide wf1
  go_enter Try.func6, Try.ntmps6
  have hB0 : Below w.heap.size w (w.alloc (.cells #[.int .i64 x00, .int .i64 x01, .int .i64 x02] 23)) := ((Below.refl _ _).alloc (by go_size) _)
  go_wp2_with fail
  refine (toCarbon_any x00 x01 x02 _).mono ?_
  rintro e w1 ⟨rfl, hb1⟩
  have hz1 := hb1.size
  have hB1 := Below.step hB0 hb1
  obtain ⟨hcw1, hfw1⟩ := bcell hb1
  have hq10 : w.heap.size < w1.heap.size := by have := hz1; simp at this; omega
  go_wp2_with fail
  refine (StrengthAt_s x00 x01 x02 a1 _).mono ?_
  rintro e w2 ⟨rfl, hb2⟩
  have hz2 := hb2.size
  have hB2 := Below.step hB1 hb2
  obtain ⟨hcw2, hfw2⟩ := bcell hb2
  have hq20 : w.heap.size < w2.heap.size := Nat.lt_of_lt_of_le hq10 hz2
  go_wp2_with fail
  refine (toCarbon_any x00 x01 x02 _).mono ?_
  rintro e w3 ⟨rfl, hb3⟩
  have hz3 := hb3.size
  have hB3 := Below.step hB2 hb3
  obtain ⟨hcw3, hfw3⟩ := bcell hb3
  have hq30 : w.heap.size < w3.heap.size := Nat.lt_of_lt_of_le hq20 hz3
  go_wp2_with fail
  refine (StrengthAt_i x00 x01 x02 a1 _).mono ?_
  rintro e w4 ⟨rfl, hb4⟩
  have hz4 := hb4.size
  have hB4 := Below.step hB3 hb4
  obtain ⟨hcw4, hfw4⟩ := bcell hb4
  have hq40 : w.heap.size < w4.heap.size := Nat.lt_of_lt_of_le hq30 hz4
  go_wp2
  go_ret
  exact ⟨rfl, hB4⟩
set_option maxRecDepth 100000 in
theorem FnExactStrengthAt_lifted (os : Os) (started : os.Started) (H : Type) (enc : TypeId × Value → H) :
    ReturnsInHanded {} Try.checked os 6 .any (Rows.fnExactStrengthAtSpec.pre6 enc Try.prog Try.f6 Rows.fnExactStrengthAtRow.domain false) (Rows.fnExactStrengthAtSpec.post enc Try.prog Try.f6 false true false false) := by
  refine returnsInHanded_of_change (C := Try.checked) own started (by kernel_rfl) Try.func6
    (ChangeSpec.witness6 (enc := enc) (C := Try.checked) false ⟨#[], #[.agg #[.int .i64 0, .int .i64 0, .int .i64 0], .int .i64 0], []⟩ 8 (by kernel_rfl) (by kernel_rfl) (by kernel_rfl) (by kernel_rfl)) ?_
  intro W base args ds gs before hval0 hW hcnd _
  have hval : ∀ (j : Nat) t v, Try.f6.params[j]? = some t → args[j]? = some v → Value.okWide Try.prog W .any base t v := hval0
  have hW1 := hW
  obtain ⟨p, q, hA0, hV, rfl, hfz, hnd⟩ := hW
  have hA : DataW.TrodAll enc Try.prog W 0 (fun _ => true) true Try.f6.params.toList args.toList ds p := hA0
  rw [Try.params6] at hA hval
  obtain ⟨v0, vs0, d0, ds0, p0, q0, hargs, rfl, rfl, h0, r0⟩ := trodAll_cons hA
  obtain ⟨v1, vs1, d1, ds1, p1, q1, rfl, rfl, rfl, h1, r1⟩ := trodAll_cons r0
  obtain ⟨rfl, rfl, rfl⟩ := trodAll_nil r1
  obtain rfl : args = #[v0, v1] := by cases args; simp_all
  obtain ⟨rfl, rfl⟩ := trodVars_none hV
  have k0 := h0
  have lt0 : ∀ x ∈ p0, x.block < W.heap.size := by obtain ⟨m, hm⟩ := k0; exact DataW.trod_lt m _ _ _ hm
  have o0 := hval 0 23 v0 rfl rfl
  obtain ⟨c00, c01, c02, y00, y01, y02, fu0, rfl, rfl, rfl, hy00, hy01, hy02⟩ := open_agg3 Try.underlying23 (by kernel_rfl) (by kernel_rfl) o0 h0
  obtain ⟨x00, e00, rfl, wf00⟩ := DataW.trod_int Try.underlying2 hy00
  obtain rfl : c00 = _ := by simpa using e00
  obtain ⟨x01, e01, rfl, wf01⟩ := DataW.trod_int Try.underlying2 hy01
  obtain rfl : c01 = _ := by simpa using e01
  obtain ⟨x02, e02, rfl, wf02⟩ := DataW.trod_int Try.underlying2 hy02
  obtain rfl : c02 = _ := by simpa using e02
  have k1 := h1
  have lt1 : ∀ x ∈ p1, x.block < W.heap.size := by obtain ⟨m, hm⟩ := k1; exact DataW.trod_lt m _ _ _ hm
  have o1 := hval 1 2 v1 rfl rfl
  obtain ⟨a1, rfl, rfl, rfl, wf1⟩ := open_int Try.underlying2 o1 h1
  clear hA0 hval0
  refine (FnExactStrengthAt_walk W x00 (i64_wf wf00) x01 (i64_wf wf01) x02 (i64_wf wf02) a1 (i64_wf wf1)).mono fun e W1 ⟨he, bel⟩ => ?_
  subst he
  exact ⟨_, rfl, _, _, _, [], _, [], hW1, trodAll_mk1 (shut_bool Try.underlying4 _), (trodAll_cons_mk (Below.trod laidOut (by kernel_rfl) (of_decide_eq_true (by kernel_rfl)) k0 bel lt0) (trodAll_cons_mk (Below.trod laidOut (by kernel_rfl) (of_decide_eq_true (by kernel_rfl)) k1 bel lt1) trodAll_mk0)), rfl, bel.frame _, fun h => by cases h⟩

theorem FnExactStrengthAt_holds : Rows.FnExactStrengthAtSaid :=
  OpenClaim.holds_of_wide 6 Try.f6 rfl rfl rfl rfl rfl rfl rfl ⟨rfl, rfl, rfl, rfl, rfl⟩ rfl rfl rfl rfl rfl (by kernel_rfl) Try.func6 (by kernel_rfl)
    (of_decide_eq_true (by kernel_rfl)) (by unfold Func.isWrapper; rw [if_neg (of_decide_eq_false (by kernel_rfl))]; exact ⟨rfl, rfl⟩)
    (fun os started H enc _ => FnExactStrengthAt_lifted os started H enc)
set_option maxHeartbeats 1000000 in
theorem FnExactForceFor_walk (w : World) (x00 : Int) (wf00 : -9223372036854775808 ≤ x00 ∧ x00 ≤ 9223372036854775807) (x01 : Int) (wf01 : -9223372036854775808 ≤ x01 ∧ x01 ≤ 9223372036854775807) (x02 : Int) (wf02 : -9223372036854775808 ≤ x02 ∧ x02 ≤ 9223372036854775807) (a1 : Int) (wf1 : -9223372036854775808 ≤ a1 ∧ a1 ≤ 9223372036854775807) :
    Calls Try.prog 7 #[.agg #[.int .i64 x00, .int .i64 x01, .int .i64 x02], .int .i64 a1] w fun e w1 => e = .returned (.bool true) ∧ Below w.heap.size w w1 := by
  replace wf00 := hide wf00
  replace wf01 := hide wf01
  replace wf02 := hide wf02
  replace wf1 := hide wf1
  go_enter Try.func7, Try.ntmps7
  have hB0 : Below w.heap.size w (w.alloc (.cells #[.int .i64 x00, .int .i64 x01, .int .i64 x02] 23)) := ((Below.refl _ _).alloc (by go_size) _)
  go_wp2_with fail
  refine (toCarbon_any x00 x01 x02 _).mono ?_
  rintro e w1 ⟨rfl, hb1⟩
  have hz1 := hb1.size
  have hB1 := Below.step hB0 hb1
  obtain ⟨hcw1, hfw1⟩ := bcell hb1
  have hq10 : w.heap.size < w1.heap.size := by have := hz1; simp at this; omega
  go_wp2_with fail
  refine (ForceFor_s x00 x01 x02 a1 _).mono ?_
  rintro e w2 ⟨rfl, hb2⟩
  have hz2 := hb2.size
  have hB2 := Below.step hB1 hb2
  obtain ⟨hcw2, hfw2⟩ := bcell hb2
  have hq20 : w.heap.size < w2.heap.size := Nat.lt_of_lt_of_le hq10 hz2
  go_wp2_with fail
  refine (toCarbon_any x00 x01 x02 _).mono ?_
  rintro e w3 ⟨rfl, hb3⟩
  have hz3 := hb3.size
  have hB3 := Below.step hB2 hb3
  obtain ⟨hcw3, hfw3⟩ := bcell hb3
  have hq30 : w.heap.size < w3.heap.size := Nat.lt_of_lt_of_le hq20 hz3
  go_wp2_with fail
  refine (ForceFor_i x00 x01 x02 a1 _).mono ?_
  rintro e w4 ⟨rfl, hb4⟩
  have hz4 := hb4.size
  have hB4 := Below.step hB3 hb4
  obtain ⟨hcw4, hfw4⟩ := bcell hb4
  have hq40 : w.heap.size < w4.heap.size := Nat.lt_of_lt_of_le hq30 hz4
  go_wp2
  go_ret
  exact ⟨rfl, hB4⟩
set_option maxRecDepth 100000 in
theorem FnExactForceFor_lifted (os : Os) (started : os.Started) (H : Type) (enc : TypeId × Value → H) :
    ReturnsInHanded {} Try.checked os 7 .any (Rows.fnExactForceForSpec.pre6 enc Try.prog Try.f7 Rows.fnExactForceForRow.domain false) (Rows.fnExactForceForSpec.post enc Try.prog Try.f7 false true false false) := by
  refine returnsInHanded_of_change (C := Try.checked) own started (by kernel_rfl) Try.func7
    (ChangeSpec.witness6 (enc := enc) (C := Try.checked) false ⟨#[], #[.agg #[.int .i64 0, .int .i64 0, .int .i64 0], .int .i64 0], []⟩ 8 (by kernel_rfl) (by kernel_rfl) (by kernel_rfl) (by kernel_rfl)) ?_
  intro W base args ds gs before hval0 hW hcnd _
  have hval : ∀ (j : Nat) t v, Try.f7.params[j]? = some t → args[j]? = some v → Value.okWide Try.prog W .any base t v := hval0
  have hW1 := hW
  obtain ⟨p, q, hA0, hV, rfl, hfz, hnd⟩ := hW
  have hA : DataW.TrodAll enc Try.prog W 0 (fun _ => true) true Try.f7.params.toList args.toList ds p := hA0
  rw [Try.params7] at hA hval
  obtain ⟨v0, vs0, d0, ds0, p0, q0, hargs, rfl, rfl, h0, r0⟩ := trodAll_cons hA
  obtain ⟨v1, vs1, d1, ds1, p1, q1, rfl, rfl, rfl, h1, r1⟩ := trodAll_cons r0
  obtain ⟨rfl, rfl, rfl⟩ := trodAll_nil r1
  obtain rfl : args = #[v0, v1] := by cases args; simp_all
  obtain ⟨rfl, rfl⟩ := trodVars_none hV
  have k0 := h0
  have lt0 : ∀ x ∈ p0, x.block < W.heap.size := by obtain ⟨m, hm⟩ := k0; exact DataW.trod_lt m _ _ _ hm
  have o0 := hval 0 23 v0 rfl rfl
  obtain ⟨c00, c01, c02, y00, y01, y02, fu0, rfl, rfl, rfl, hy00, hy01, hy02⟩ := open_agg3 Try.underlying23 (by kernel_rfl) (by kernel_rfl) o0 h0
  obtain ⟨x00, e00, rfl, wf00⟩ := DataW.trod_int Try.underlying2 hy00
  obtain rfl : c00 = _ := by simpa using e00
  obtain ⟨x01, e01, rfl, wf01⟩ := DataW.trod_int Try.underlying2 hy01
  obtain rfl : c01 = _ := by simpa using e01
  obtain ⟨x02, e02, rfl, wf02⟩ := DataW.trod_int Try.underlying2 hy02
  obtain rfl : c02 = _ := by simpa using e02
  have k1 := h1
  have lt1 : ∀ x ∈ p1, x.block < W.heap.size := by obtain ⟨m, hm⟩ := k1; exact DataW.trod_lt m _ _ _ hm
  have o1 := hval 1 2 v1 rfl rfl
  obtain ⟨a1, rfl, rfl, rfl, wf1⟩ := open_int Try.underlying2 o1 h1
  clear hA0 hval0
  refine (FnExactForceFor_walk W x00 (i64_wf wf00) x01 (i64_wf wf01) x02 (i64_wf wf02) a1 (i64_wf wf1)).mono fun e W1 ⟨he, bel⟩ => ?_
  subst he
  exact ⟨_, rfl, _, _, _, [], _, [], hW1, trodAll_mk1 (shut_bool Try.underlying4 _), (trodAll_cons_mk (Below.trod laidOut (by kernel_rfl) (of_decide_eq_true (by kernel_rfl)) k0 bel lt0) (trodAll_cons_mk (Below.trod laidOut (by kernel_rfl) (of_decide_eq_true (by kernel_rfl)) k1 bel lt1) trodAll_mk0)), rfl, bel.frame _, fun h => by cases h⟩

theorem FnExactForceFor_holds : Rows.FnExactForceForSaid :=
  OpenClaim.holds_of_wide 7 Try.f7 rfl rfl rfl rfl rfl rfl rfl ⟨rfl, rfl, rfl, rfl, rfl⟩ rfl rfl rfl rfl rfl (by kernel_rfl) Try.func7 (by kernel_rfl)
    (of_decide_eq_true (by kernel_rfl)) (by unfold Func.isWrapper; rw [if_neg (of_decide_eq_false (by kernel_rfl))]; exact ⟨rfl, rfl⟩)
    (fun os started H enc _ => FnExactForceFor_lifted os started H enc)
end Go.Proofs.Ytogpplaccnlnmaa
