/-
  The law of OverText.
-/
import Derived.Test.YtokdbkkjneadgaaL12E
import Derived.Test.YtokdbkkjneadgaaArgs
namespace Go.Proofs.Ytokdbkkjneadgaa
set_option maxRecDepth 100000
open Go.ChangeShapes Go.WideShapes Go.ChangeAt Go.RowKit Go.Joins
open Go.ChangeMaps (open_string shut_string)

set_option maxHeartbeats 1000000 in
theorem FnExactOverText_walk (w : World) (x00 : ByteArray) (wf00 : x00.size ≤ maxLen) (x01 : ByteArray) (wf01 : x01.size ≤ maxLen) (x02 : ByteArray) (wf02 : x02.size ≤ maxLen) :
    Calls Try.prog 5 #[.agg #[.string x00, .string x01, .string x02]] w fun e w1 => e = .returned (.bool true) ∧ Below w.heap.size w w1 := by
  unfold maxLen at wf00 wf01 wf02
  obtain ⟨z0, hz0e⟩ : ∃ z, z = szOver3 1048576 x00 x01 x02 := ⟨_, rfl⟩
  by_cases hzl0 : z0 < 0
  · go_enter Try.func5, Try.ntmps5
    go_wp2_with fail
    refine (szOver_any _ x00 x01 x02 1048576 (by omega) (by omega) (by omega) (by omega) (by omega)).mono ?_
    rintro e w1 ⟨rfl, hbd⟩
    rw [← hz0e]
    clear hz0e
    go_wp2
    go_ret
    exact ⟨rfl, by (repeat first | exact Below.refl _ _ | (refine Below.alloc ?_ (by go_size) _) | (refine Below.step ?_ (by assumption)))⟩
  have hq0 := szOver3_le (by rw [← hz0e]; omega : (0 : Int) ≤ szOver3 1048576 x00 x01 x02)
  obtain ⟨hl00, hl01, hl02⟩ := hq0
  go_enter Try.func5, Try.ntmps5
  have hB0 : Below w.heap.size w (w.alloc (.cells #[.string x00, .string x01, .string x02] 30)) := ((Below.refl _ _).alloc (by go_size) _)
  go_wp2_with fail
  refine (szOver_any _ x00 x01 x02 1048576 (by omega) (by omega) (by omega) (by omega) (by omega)).mono ?_
  rintro e w1 ⟨rfl, hb1⟩
  rw [← hz0e]
  have hz1 := hb1.size
  have hB1 := Below.step hB0 hb1
  obtain ⟨hcw1, hfw1⟩ := bcell hb1
  have hq10 : w.heap.size < w1.heap.size := by have := hz1; simp at this; omega
  clear hz0e
  go_wp2_with fail
  refine (toOver_any x00 x01 x02 _).mono ?_
  rintro e w2 ⟨rfl, hb2⟩
  have hz2 := hb2.size
  have hB2 := Below.step hB1 hb2
  obtain ⟨hcw2, hfw2⟩ := bcell hb2
  have hq20 : w.heap.size < w2.heap.size := Nat.lt_of_lt_of_le hq10 hz2
  go_wp2_with fail
  refine (OverText_S _ x00 x01 x02 (by omega) (by omega) (by omega)).mono ?_
  rintro e w3 ⟨rfl, hb3⟩
  have hz3 := hb3.size
  have hB3 := Below.step hB2 hb3
  obtain ⟨hcw3, hfw3⟩ := bcell hb3
  have hq30 : w.heap.size < w3.heap.size := Nat.lt_of_lt_of_le hq20 hz3
  go_wp2_with fail
  refine (toOver_any x00 x01 x02 _).mono ?_
  rintro e w4 ⟨rfl, hb4⟩
  have hz4 := hb4.size
  have hB4 := Below.step hB3 hb4
  obtain ⟨hcw4, hfw4⟩ := bcell hb4
  have hq40 : w.heap.size < w4.heap.size := Nat.lt_of_lt_of_le hq30 hz4
  go_wp2_with fail
  refine (OverText_I _ x00 x01 x02 (by omega) (by omega) (by omega)).mono ?_
  rintro e w5 ⟨rfl, hb5⟩
  have hz5 := hb5.size
  have hB5 := Below.step hB4 hb5
  obtain ⟨hcw5, hfw5⟩ := bcell hb5
  have hq50 : w.heap.size < w5.heap.size := Nat.lt_of_lt_of_le hq40 hz5
  go_wp2
  go_ret
  exact ⟨rfl, hB5⟩
set_option maxRecDepth 100000 in
theorem FnExactOverText_lifted (os : Os) (started : os.Started) (H : Type) (enc : TypeId × Value → H) :
    ReturnsInHanded {} Try.checked os 5 .any (Rows.fnExactOverTextSpec.pre6 enc Try.prog Try.f5 Rows.fnExactOverTextRow.domain false) (Rows.fnExactOverTextSpec.post enc Try.prog Try.f5 false true false false) := by
  refine returnsInHanded_of_change (C := Try.checked) own started (by kernel_rfl) Try.func5
    (ChangeSpec.witness6 (enc := enc) (C := Try.checked) false ⟨#[], #[.agg #[.string ⟨#[]⟩, .string ⟨#[]⟩, .string ⟨#[]⟩]], []⟩ 8 (by kernel_rfl) (by kernel_rfl) (by kernel_rfl) (by kernel_rfl)) ?_
  intro W base args ds gs before hval0 hW hcnd _
  have hval : ∀ (j : Nat) t v, Try.f5.params[j]? = some t → args[j]? = some v → Value.okWide Try.prog W .any base t v := hval0
  have hW1 := hW
  obtain ⟨p, q, hA0, hV, rfl, hfz, hnd⟩ := hW
  have hA : DataW.TrodAll enc Try.prog W 0 (fun _ => true) true Try.f5.params.toList args.toList ds p := hA0
  rw [Try.params5] at hA hval
  obtain ⟨v0, vs0, d0, ds0, p0, q0, hargs, rfl, rfl, h0, r0⟩ := trodAll_cons hA
  obtain ⟨rfl, rfl, rfl⟩ := trodAll_nil r0
  obtain rfl : args = #[v0] := by cases args; simp_all
  obtain ⟨rfl, rfl⟩ := trodVars_none hV
  have k0 := h0
  have lt0 : ∀ x ∈ p0, x.block < W.heap.size := by obtain ⟨m, hm⟩ := k0; exact DataW.trod_lt m _ _ _ hm
  have o0 := hval 0 30 v0 rfl rfl
  obtain ⟨c00, c01, c02, y00, y01, y02, fu0, rfl, rfl, rfl, hy00, hy01, hy02⟩ := open_agg3 Try.underlying30 (by kernel_rfl) (by kernel_rfl) o0 h0
  obtain ⟨x00, e00, rfl, wf00⟩ := DataW.trod_string Try.underlying9 hy00
  obtain rfl : c00 = _ := by simpa using e00
  obtain ⟨x01, e01, rfl, wf01⟩ := DataW.trod_string Try.underlying9 hy01
  obtain rfl : c01 = _ := by simpa using e01
  obtain ⟨x02, e02, rfl, wf02⟩ := DataW.trod_string Try.underlying9 hy02
  obtain rfl : c02 = _ := by simpa using e02
  clear hA0 hval0
  refine (FnExactOverText_walk W x00 wf00 x01 wf01 x02 wf02).mono fun e W1 ⟨he, bel⟩ => ?_
  subst he
  exact ⟨_, rfl, _, _, _, [], _, [], hW1, trodAll_mk1 (shut_bool Try.underlying4 _), (trodAll_cons_mk (Below.trod laidOut (by kernel_rfl) (of_decide_eq_true (by kernel_rfl)) k0 bel lt0) trodAll_mk0), rfl, bel.frame _, fun h => by cases h⟩

theorem FnExactOverText_holds : Rows.FnExactOverTextSaid :=
  OpenClaim.holds_of_wide 5 Try.f5 rfl rfl rfl rfl rfl rfl rfl ⟨rfl, rfl, rfl, rfl, rfl⟩ rfl rfl rfl rfl rfl (by kernel_rfl) Try.func5 (by kernel_rfl)
    (of_decide_eq_true (by kernel_rfl)) (by unfold Func.isWrapper; rw [if_neg (of_decide_eq_false (by kernel_rfl))]; exact ⟨rfl, rfl⟩)
    (fun os started H enc _ => FnExactOverText_lifted os started H enc)
set_option maxHeartbeats 1000000 in
theorem FnExactReadOver_walk (w : World) (s0 : ByteArray) (ms0 : s0.size ≤ maxLen) :
    Calls Try.prog 4 #[.string s0] w fun e w1 => e = .returned (.bool true) ∧ Below w.heap.size w w1 := by
  unfold maxLen at ms0
  by_cases hl0 : s0.size ≤ 1048576
  · obtain ⟨r, hr⟩ : ∃ r, rovOk s0 = r := ⟨_, rfl⟩
    go_enter Try.func4, Try.ntmps4
    go_wp2_with fail
    refine (ReadOver_S _ s0 hl0).mono ?_
    rintro e w1 ⟨rfl, hb1⟩
    rw [hr]
    go_wp2_with fail
    refine (ReadOver_I _ s0 hl0).mono ?_
    rintro e w2 ⟨rfl, hb2⟩
    rw [hr]
    have hz1 := hb1.size
    have hz2 := hb2.size
    have hB1 : Below w.heap.size w (w1.alloc (.cells #[.string (readOver s0).1, .string (readOver s0).2.1, .string (readOver s0).2.2] 26)) := hb1.alloc hb1.size _
    have hB2 := Below.step hB1 hb2
    obtain ⟨hcw, hfw⟩ := bcell hb2
    have hq : w1.heap.size < w2.heap.size := by simp at hz2; omega
    clear hr
    go_wp2_with fail
    refine (eqOver_same _ _ _ _).mono ?_
    rintro e w3 ⟨rfl, hb3⟩
    cases r
    all_goals
      go_wp2
      go_ret
      exact ⟨rfl, Below.step (hB2.alloc hB2.size _) hb3⟩
  · go_enter Try.func4, Try.ntmps4
    go_wp2
    go_ret
    exact ⟨rfl, Below.refl _ _⟩
set_option maxRecDepth 100000 in
theorem FnExactReadOver_lifted (os : Os) (started : os.Started) (H : Type) (enc : TypeId × Value → H) :
    ReturnsInHanded {} Try.checked os 4 .any (Rows.fnExactReadOverSpec.pre6 enc Try.prog Try.f4 Rows.fnExactReadOverRow.domain false) (Rows.fnExactReadOverSpec.post enc Try.prog Try.f4 false true false false) := by
  refine returnsInHanded_of_change (C := Try.checked) own started (by kernel_rfl) Try.func4
    (ChangeSpec.witness6 (enc := enc) (C := Try.checked) false ⟨#[], #[.string ⟨#[]⟩], []⟩ 8 (by kernel_rfl) (by kernel_rfl) (by kernel_rfl) (by kernel_rfl)) ?_
  intro W base args ds gs before hval0 hW hcnd _
  have hval : ∀ (j : Nat) t v, Try.f4.params[j]? = some t → args[j]? = some v → Value.okWide Try.prog W .any base t v := hval0
  have hW1 := hW
  obtain ⟨p, q, hA0, hV, rfl, hfz, hnd⟩ := hW
  have hA : DataW.TrodAll enc Try.prog W 0 (fun _ => true) true Try.f4.params.toList args.toList ds p := hA0
  rw [Try.params4] at hA hval
  obtain ⟨v0, vs0, d0, ds0, p0, q0, hargs, rfl, rfl, h0, r0⟩ := trodAll_cons hA
  obtain ⟨rfl, rfl, rfl⟩ := trodAll_nil r0
  obtain rfl : args = #[v0] := by cases args; simp_all
  obtain ⟨rfl, rfl⟩ := trodVars_none hV
  have k0 := h0
  have lt0 : ∀ x ∈ p0, x.block < W.heap.size := by obtain ⟨m, hm⟩ := k0; exact DataW.trod_lt m _ _ _ hm
  have o0 := hval 0 9 v0 rfl rfl
  obtain ⟨s0, rfl, rfl, rfl, hs0⟩ := open_string Try.underlying9 o0 h0
  clear hA0 hval0
  refine (FnExactReadOver_walk W s0 hs0).mono fun e W1 ⟨he, bel⟩ => ?_
  subst he
  exact ⟨_, rfl, _, _, _, [], _, [], hW1, trodAll_mk1 (shut_bool Try.underlying4 _), (trodAll_cons_mk (Below.trod laidOut (by kernel_rfl) (of_decide_eq_true (by kernel_rfl)) k0 bel lt0) trodAll_mk0), rfl, bel.frame _, fun h => by cases h⟩

theorem FnExactReadOver_holds : Rows.FnExactReadOverSaid :=
  OpenClaim.holds_of_wide 4 Try.f4 rfl rfl rfl rfl rfl rfl rfl ⟨rfl, rfl, rfl, rfl, rfl⟩ rfl rfl rfl rfl rfl (by kernel_rfl) Try.func4 (by kernel_rfl)
    (of_decide_eq_true (by kernel_rfl)) (by unfold Func.isWrapper; rw [if_neg (of_decide_eq_false (by kernel_rfl))]; exact ⟨rfl, rfl⟩)
    (fun os started H enc _ => FnExactReadOver_lifted os started H enc)
end Go.Proofs.Ytokdbkkjneadgaa
