/-
  The laws of ValidCarbon, ValidWays, GoodCopies.
-/
import Derived.Test.YtogpplaccnlnmaaL13
import Derived.Test.YtogpplaccnlnmaaArgs
namespace Go.Proofs.Ytogpplaccnlnmaa
open Go.ChangeShapes Go.WideShapes Go.ChangeAt Go.RowKit Go.Joins
open Go.ChangeMaps (open_string shut_string)

set_option maxHeartbeats 1000000 in
theorem FnExactValidCarbon_walk (w : World) (x00 : Int) (wf00 : -9223372036854775808 ≤ x00 ∧ x00 ≤ 9223372036854775807) (x01 : Int) (wf01 : -9223372036854775808 ≤ x01 ∧ x01 ≤ 9223372036854775807) (x02 : Int) (wf02 : -9223372036854775808 ≤ x02 ∧ x02 ≤ 9223372036854775807) :
    Calls Try.prog 3 #[.agg #[.int .i64 x00, .int .i64 x01, .int .i64 x02]] w fun e w1 => e = .returned (.bool true) ∧ Below w.heap.size w w1 := by
  replace wf00 := hide wf00
  replace wf01 := hide wf01
  replace wf02 := hide wf02
  go_enter Try.func3, Try.ntmps3
  have hB0 : Below w.heap.size w (w.alloc (.cells #[.int .i64 x00, .int .i64 x01, .int .i64 x02] 23)) := ((Below.refl _ _).alloc (by go_size) _)
  go_wp2_with fail
  refine (toCarbon_any x00 x01 x02 _).mono ?_
  rintro e w1 ⟨rfl, hb1⟩
  have hz1 := hb1.size
  have hB1 := Below.step hB0 hb1
  obtain ⟨hcw1, hfw1⟩ := bcell hb1
  have hq10 : w.heap.size < w1.heap.size := by have := hz1; simp at this; omega
  go_wp2_with fail
  refine (ValidCarbon_s x00 x01 x02 _).mono ?_
  rintro e w2 ⟨rfl, hb2⟩
  have hz2 := hb2.size
  have hB2 := Below.step hB1 hb2
  obtain ⟨hcw2, hfw2⟩ := bcell hb2
  have hq20 : w.heap.size < w2.heap.size := Nat.lt_of_lt_of_le hq10 hz2
  go_wp2_with fail
  refine (toCarbon_any x00 x01 x02 _).mono ?_
  rintro e w3 ⟨rfl, hb3⟩
  have hz3 := hb3.size
  have hB3 := Below.step hB2 hb3
  obtain ⟨hcw3, hfw3⟩ := bcell hb3
  have hq30 : w.heap.size < w3.heap.size := Nat.lt_of_lt_of_le hq20 hz3
  go_wp2_with fail
  refine (ValidCarbon_i x00 x01 x02 _).mono ?_
  rintro e w4 ⟨rfl, hb4⟩
  have hz4 := hb4.size
  have hB4 := Below.step hB3 hb4
  obtain ⟨hcw4, hfw4⟩ := bcell hb4
  have hq40 : w.heap.size < w4.heap.size := Nat.lt_of_lt_of_le hq30 hz4
  go_wp2
  go_ret
  exact ⟨rfl, hB4⟩
set_option maxRecDepth 100000 in
theorem FnExactValidCarbon_lifted (os : Os) (started : os.Started) (H : Type) (enc : TypeId × Value → H) :
    ReturnsInHanded {} Try.checked os 3 .any (Rows.fnExactValidCarbonSpec.pre6 enc Try.prog Try.f3 Rows.fnExactValidCarbonRow.domain false) (Rows.fnExactValidCarbonSpec.post enc Try.prog Try.f3 false true false false) := by
  refine returnsInHanded_of_change (C := Try.checked) own started (by kernel_rfl) Try.func3
    (ChangeSpec.witness6 (enc := enc) (C := Try.checked) false ⟨#[], #[.agg #[.int .i64 0, .int .i64 0, .int .i64 0]], []⟩ 8 (by kernel_rfl) (by kernel_rfl) (by kernel_rfl) (by kernel_rfl)) ?_
  intro W base args ds gs before hval0 hW hcnd _
  have hval : ∀ (j : Nat) t v, Try.f3.params[j]? = some t → args[j]? = some v → Value.okWide Try.prog W .any base t v := hval0
  have hW1 := hW
  obtain ⟨p, q, hA0, hV, rfl, hfz, hnd⟩ := hW
  have hA : DataW.TrodAll enc Try.prog W 0 (fun _ => true) true Try.f3.params.toList args.toList ds p := hA0
  rw [Try.params3] at hA hval
  obtain ⟨v0, vs0, d0, ds0, p0, q0, hargs, rfl, rfl, h0, r0⟩ := trodAll_cons hA
  obtain ⟨rfl, rfl, rfl⟩ := trodAll_nil r0
  obtain rfl : args = #[v0] := by cases args; simp_all
  obtain ⟨rfl, rfl⟩ := trodVars_none hV
  have k0 := h0
  have lt0 : ∀ x ∈ p0, x.block < W.heap.size := by obtain ⟨m, hm⟩ := k0; exact DataW.trod_lt m _ _ _ hm
  have o0 := hval 0 23 v0 rfl rfl
  obtain ⟨c00, c01, c02, y00, y01, y02, fu0, rfl, rfl, rfl, hy00, hy01, hy02⟩ := open_agg3 Try.underlying23 (by kernel_rfl) (by kernel_rfl) o0 h0
  obtain ⟨x00, e00, rfl, wf00⟩ := DataW.trod_int Try.underlying2 hy00
  obtain rfl : c00 = _ := by simpa using e00
  obtain ⟨x01, e01, rfl, wf01⟩ := DataW.trod_int Try.underlying2 hy01
  obtain rfl : c01 = _ := by simpa using e01
  obtain ⟨x02, e02, rfl, wf02⟩ := DataW.trod_int Try.underlying2 hy02
  obtain rfl : c02 = _ := by simpa using e02
  clear hA0 hval0
  refine (FnExactValidCarbon_walk W x00 (i64_wf wf00) x01 (i64_wf wf01) x02 (i64_wf wf02)).mono fun e W1 ⟨he, bel⟩ => ?_
  subst he
  exact ⟨_, rfl, _, _, _, [], _, [], hW1, trodAll_mk1 (shut_bool Try.underlying4 _), (trodAll_cons_mk (Below.trod laidOut (by kernel_rfl) (of_decide_eq_true (by kernel_rfl)) k0 bel lt0) trodAll_mk0), rfl, bel.frame _, fun h => by cases h⟩

theorem FnExactValidCarbon_holds : Rows.FnExactValidCarbonSaid :=
  OpenClaim.holds_of_wide 3 Try.f3 rfl rfl rfl rfl rfl rfl rfl ⟨rfl, rfl, rfl, rfl, rfl⟩ rfl rfl rfl rfl rfl (by kernel_rfl) Try.func3 (by kernel_rfl)
    (of_decide_eq_true (by kernel_rfl)) (by unfold Func.isWrapper; rw [if_neg (of_decide_eq_false (by kernel_rfl))]; exact ⟨rfl, rfl⟩)
    (fun os started H enc _ => FnExactValidCarbon_lifted os started H enc)
set_option maxHeartbeats 1000000 in
theorem FnExactValidWays_walk (w : World) (x00 : Int) (wf00 : -9223372036854775808 ≤ x00 ∧ x00 ≤ 9223372036854775807) (x01 : Int) (wf01 : -9223372036854775808 ≤ x01 ∧ x01 ≤ 9223372036854775807) (x02 : Int) (wf02 : -9223372036854775808 ≤ x02 ∧ x02 ≤ 9223372036854775807) (x03 : Int) (wf03 : -9223372036854775808 ≤ x03 ∧ x03 ≤ 9223372036854775807) :
    Calls Try.prog 4 #[.agg #[.int .i64 x00, .int .i64 x01, .int .i64 x02, .int .i64 x03]] w fun e w1 => e = .returned (.bool true) ∧ Below w.heap.size w w1 := by
  replace wf00 := hide wf00
  replace wf01 := hide wf01
  replace wf02 := hide wf02
  replace wf03 := hide wf03
  go_enter Try.func4, Try.ntmps4
  have hB0 : Below w.heap.size w (w.alloc (.cells #[.int .i64 x00, .int .i64 x01, .int .i64 x02, .int .i64 x03] 29)) := ((Below.refl _ _).alloc (by go_size) _)
  go_wp2_with fail
  refine (toWays_any x00 x01 x02 x03 _).mono ?_
  rintro e w1 ⟨rfl, hb1⟩
  have hz1 := hb1.size
  have hB1 := Below.step hB0 hb1
  obtain ⟨hcw1, hfw1⟩ := bcell hb1
  have hq10 : w.heap.size < w1.heap.size := by have := hz1; simp at this; omega
  go_wp2_with fail
  refine (ValidWays_s x00 x01 x02 x03 _).mono ?_
  rintro e w2 ⟨rfl, hb2⟩
  have hz2 := hb2.size
  have hB2 := Below.step hB1 hb2
  obtain ⟨hcw2, hfw2⟩ := bcell hb2
  have hq20 : w.heap.size < w2.heap.size := Nat.lt_of_lt_of_le hq10 hz2
  go_wp2_with fail
  refine (toWays_any x00 x01 x02 x03 _).mono ?_
  rintro e w3 ⟨rfl, hb3⟩
  have hz3 := hb3.size
  have hB3 := Below.step hB2 hb3
  obtain ⟨hcw3, hfw3⟩ := bcell hb3
  have hq30 : w.heap.size < w3.heap.size := Nat.lt_of_lt_of_le hq20 hz3
  go_wp2_with fail
  refine (ValidWays_i x00 x01 x02 x03 _).mono ?_
  rintro e w4 ⟨rfl, hb4⟩
  have hz4 := hb4.size
  have hB4 := Below.step hB3 hb4
  obtain ⟨hcw4, hfw4⟩ := bcell hb4
  have hq40 : w.heap.size < w4.heap.size := Nat.lt_of_lt_of_le hq30 hz4
  go_wp2
  go_ret
  exact ⟨rfl, hB4⟩
set_option maxRecDepth 100000 in
theorem FnExactValidWays_lifted (os : Os) (started : os.Started) (H : Type) (enc : TypeId × Value → H) :
    ReturnsInHanded {} Try.checked os 4 .any (Rows.fnExactValidWaysSpec.pre6 enc Try.prog Try.f4 Rows.fnExactValidWaysRow.domain false) (Rows.fnExactValidWaysSpec.post enc Try.prog Try.f4 false true false false) := by
  refine returnsInHanded_of_change (C := Try.checked) own started (by kernel_rfl) Try.func4
    (ChangeSpec.witness6 (enc := enc) (C := Try.checked) false ⟨#[], #[.agg #[.int .i64 0, .int .i64 0, .int .i64 0, .int .i64 0]], []⟩ 8 (by kernel_rfl) (by kernel_rfl) (by kernel_rfl) (by kernel_rfl)) ?_
  intro W base args ds gs before hval0 hW hcnd _
  have hval : ∀ (j : Nat) t v, Try.f4.params[j]? = some t → args[j]? = some v → Value.okWide Try.prog W .any base t v := hval0
  have hW1 := hW
  obtain ⟨p, q, hA0, hV, rfl, hfz, hnd⟩ := hW
  have hA : DataW.TrodAll enc Try.prog W 0 (fun _ => true) true Try.f4.params.toList args.toList ds p := hA0
  rw [Try.params4] at hA hval
  obtain ⟨v0, vs0, d0, ds0, p0, q0, hargs, rfl, rfl, h0, r0⟩ := trodAll_cons hA
  obtain ⟨rfl, rfl, rfl⟩ := trodAll_nil r0
  obtain rfl : args = #[v0] := by cases args; simp_all
  obtain ⟨rfl, rfl⟩ := trodVars_none hV
  have k0 := h0
  have lt0 : ∀ x ∈ p0, x.block < W.heap.size := by obtain ⟨m, hm⟩ := k0; exact DataW.trod_lt m _ _ _ hm
  have o0 := hval 0 29 v0 rfl rfl
  obtain ⟨c00, c01, c02, c03, y00, y01, y02, y03, fu0, rfl, rfl, rfl, hy00, hy01, hy02, hy03⟩ := open_agg4 Try.underlying29 (by kernel_rfl) (by kernel_rfl) o0 h0
  obtain ⟨x00, e00, rfl, wf00⟩ := DataW.trod_int Try.underlying2 hy00
  obtain rfl : c00 = _ := by simpa using e00
  obtain ⟨x01, e01, rfl, wf01⟩ := DataW.trod_int Try.underlying2 hy01
  obtain rfl : c01 = _ := by simpa using e01
  obtain ⟨x02, e02, rfl, wf02⟩ := DataW.trod_int Try.underlying2 hy02
  obtain rfl : c02 = _ := by simpa using e02
  obtain ⟨x03, e03, rfl, wf03⟩ := DataW.trod_int Try.underlying2 hy03
  obtain rfl : c03 = _ := by simpa using e03
  clear hA0 hval0
  refine (FnExactValidWays_walk W x00 (i64_wf wf00) x01 (i64_wf wf01) x02 (i64_wf wf02) x03 (i64_wf wf03)).mono fun e W1 ⟨he, bel⟩ => ?_
  subst he
  exact ⟨_, rfl, _, _, _, [], _, [], hW1, trodAll_mk1 (shut_bool Try.underlying4 _), (trodAll_cons_mk (Below.trod laidOut (by kernel_rfl) (of_decide_eq_true (by kernel_rfl)) k0 bel lt0) trodAll_mk0), rfl, bel.frame _, fun h => by cases h⟩

theorem FnExactValidWays_holds : Rows.FnExactValidWaysSaid :=
  OpenClaim.holds_of_wide 4 Try.f4 rfl rfl rfl rfl rfl rfl rfl ⟨rfl, rfl, rfl, rfl, rfl⟩ rfl rfl rfl rfl rfl (by kernel_rfl) Try.func4 (by kernel_rfl)
    (of_decide_eq_true (by kernel_rfl)) (by unfold Func.isWrapper; rw [if_neg (of_decide_eq_false (by kernel_rfl))]; exact ⟨rfl, rfl⟩)
    (fun os started H enc _ => FnExactValidWays_lifted os started H enc)
set_option maxHeartbeats 1000000 in
theorem FnExactGoodCopies_walk (w : World) (x00 : Int) (wf00 : -9223372036854775808 ≤ x00 ∧ x00 ≤ 9223372036854775807) (x01 : Int) (wf01 : -9223372036854775808 ≤ x01 ∧ x01 ≤ 9223372036854775807) (x02 : Int) (wf02 : -9223372036854775808 ≤ x02 ∧ x02 ≤ 9223372036854775807) :
    Calls Try.prog 5 #[.agg #[.int .i64 x00, .int .i64 x01, .int .i64 x02]] w fun e w1 => e = .returned (.bool true) ∧ Below w.heap.size w w1 := by
  replace wf00 := hide wf00
  replace wf01 := hide wf01
  replace wf02 := hide wf02
  go_enter Try.func5, Try.ntmps5
  have hB0 : Below w.heap.size w (w.alloc (.cells #[.int .i64 x00, .int .i64 x01, .int .i64 x02] 23)) := ((Below.refl _ _).alloc (by go_size) _)
  go_wp2_with fail
  refine (toCarbon_any x00 x01 x02 _).mono ?_
  rintro e w1 ⟨rfl, hb1⟩
  have hz1 := hb1.size
  have hB1 := Below.step hB0 hb1
  obtain ⟨hcw1, hfw1⟩ := bcell hb1
  have hq10 : w.heap.size < w1.heap.size := by have := hz1; simp at this; omega
  go_wp2_with fail
  refine (GoodCopies_s x00 x01 x02 _).mono ?_
  rintro e w2 ⟨rfl, hb2⟩
  have hz2 := hb2.size
  have hB2 := Below.step hB1 hb2
  obtain ⟨hcw2, hfw2⟩ := bcell hb2
  have hq20 : w.heap.size < w2.heap.size := Nat.lt_of_lt_of_le hq10 hz2
  go_wp2_with fail
  refine (toCarbon_any x00 x01 x02 _).mono ?_
  rintro e w3 ⟨rfl, hb3⟩
  have hz3 := hb3.size
  have hB3 := Below.step hB2 hb3
  obtain ⟨hcw3, hfw3⟩ := bcell hb3
  have hq30 : w.heap.size < w3.heap.size := Nat.lt_of_lt_of_le hq20 hz3
  go_wp2_with fail
  refine (GoodCopies_i x00 x01 x02 _).mono ?_
  rintro e w4 ⟨rfl, hb4⟩
  have hz4 := hb4.size
  have hB4 := Below.step hB3 hb4
  obtain ⟨hcw4, hfw4⟩ := bcell hb4
  have hq40 : w.heap.size < w4.heap.size := Nat.lt_of_lt_of_le hq30 hz4
  go_wp2
  go_ret
  exact ⟨rfl, hB4⟩
set_option maxRecDepth 100000 in
theorem FnExactGoodCopies_lifted (os : Os) (started : os.Started) (H : Type) (enc : TypeId × Value → H) :
    ReturnsInHanded {} Try.checked os 5 .any (Rows.fnExactGoodCopiesSpec.pre6 enc Try.prog Try.f5 Rows.fnExactGoodCopiesRow.domain false) (Rows.fnExactGoodCopiesSpec.post enc Try.prog Try.f5 false true false false) := by
  refine returnsInHanded_of_change (C := Try.checked) own started (by kernel_rfl) Try.func5
    (ChangeSpec.witness6 (enc := enc) (C := Try.checked) false ⟨#[], #[.agg #[.int .i64 0, .int .i64 0, .int .i64 0]], []⟩ 8 (by kernel_rfl) (by kernel_rfl) (by kernel_rfl) (by kernel_rfl)) ?_
  intro W base args ds gs before hval0 hW hcnd _
  have hval : ∀ (j : Nat) t v, Try.f5.params[j]? = some t → args[j]? = some v → Value.okWide Try.prog W .any base t v := hval0
  have hW1 := hW
  obtain ⟨p, q, hA0, hV, rfl, hfz, hnd⟩ := hW
  have hA : DataW.TrodAll enc Try.prog W 0 (fun _ => true) true Try.f5.params.toList args.toList ds p := hA0
  rw [Try.params5] at hA hval
  obtain ⟨v0, vs0, d0, ds0, p0, q0, hargs, rfl, rfl, h0, r0⟩ := trodAll_cons hA
  obtain ⟨rfl, rfl, rfl⟩ := trodAll_nil r0
  obtain rfl : args = #[v0] := by cases args; simp_all
  obtain ⟨rfl, rfl⟩ := trodVars_none hV
  have k0 := h0
  have lt0 : ∀ x ∈ p0, x.block < W.heap.size := by obtain ⟨m, hm⟩ := k0; exact DataW.trod_lt m _ _ _ hm
  have o0 := hval 0 23 v0 rfl rfl
  obtain ⟨c00, c01, c02, y00, y01, y02, fu0, rfl, rfl, rfl, hy00, hy01, hy02⟩ := open_agg3 Try.underlying23 (by kernel_rfl) (by kernel_rfl) o0 h0
  obtain ⟨x00, e00, rfl, wf00⟩ := DataW.trod_int Try.underlying2 hy00
  obtain rfl : c00 = _ := by simpa using e00
  obtain ⟨x01, e01, rfl, wf01⟩ := DataW.trod_int Try.underlying2 hy01
  obtain rfl : c01 = _ := by simpa using e01
  obtain ⟨x02, e02, rfl, wf02⟩ := DataW.trod_int Try.underlying2 hy02
  obtain rfl : c02 = _ := by simpa using e02
  clear hA0 hval0
  refine (FnExactGoodCopies_walk W x00 (i64_wf wf00) x01 (i64_wf wf01) x02 (i64_wf wf02)).mono fun e W1 ⟨he, bel⟩ => ?_
  subst he
  exact ⟨_, rfl, _, _, _, [], _, [], hW1, trodAll_mk1 (shut_bool Try.underlying4 _), (trodAll_cons_mk (Below.trod laidOut (by kernel_rfl) (of_decide_eq_true (by kernel_rfl)) k0 bel lt0) trodAll_mk0), rfl, bel.frame _, fun h => by cases h⟩

theorem FnExactGoodCopies_holds : Rows.FnExactGoodCopiesSaid :=
  OpenClaim.holds_of_wide 5 Try.f5 rfl rfl rfl rfl rfl rfl rfl ⟨rfl, rfl, rfl, rfl, rfl⟩ rfl rfl rfl rfl rfl (by kernel_rfl) Try.func5 (by kernel_rfl)
    (of_decide_eq_true (by kernel_rfl)) (by unfold Func.isWrapper; rw [if_neg (of_decide_eq_false (by kernel_rfl))]; exact ⟨rfl, rfl⟩)
    (fun os started H enc _ => FnExactGoodCopies_lifted os started H enc)
end Go.Proofs.Ytogpplaccnlnmaa
