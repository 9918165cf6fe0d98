/-
  The law of WrongPlaces.
-/
import Derived.Test.YtokdbkkjneadgaaL12F
import Derived.Test.YtokdbkkjneadgaaArgs
namespace Go.Proofs.Ytokdbkkjneadgaa
set_option maxRecDepth 100000
open Go.ChangeShapes Go.WideShapes Go.ChangeAt Go.RowKit Go.Joins
open Go.ChangeMaps (open_string shut_string)

set_option maxHeartbeats 1000000 in
theorem FnExactWrongPlaces_walk (w : World) (s0 : ByteArray) (ms0 : s0.size ≤ maxLen) (s1 : ByteArray) (ms1 : s1.size ≤ maxLen) :
    Calls Try.prog 7 #[.string s0, .string s1] w fun e w1 => e = .returned (.bool true) ∧ Below w.heap.size w w1 := by
  unfold maxLen at ms0
  unfold maxLen at ms1
  by_cases hl0 : s0.size ≤ 1048576
  · skip
    by_cases hl1 : s1.size ≤ 1048576
    · skip
      go_enter Try.func7, Try.ntmps7
      have hB0 := Below.refl w.heap.size w
      go_wp2_with fail
      refine (WrongPlaces_S _ s0 s1 hl0 hl1).mono ?_
      rintro e w1 ⟨v1, rfl, hc1⟩
      have hb1 := hc1.below
      have hz1 := hb1.size
      have hB1 := Below.step hB0 hb1
      have hlt1 := hide hc1.own.lt
      obtain ⟨A1_, c1_, rfl, hk1, -, hs1⟩ := Sl.of_coll hc1
      have ho1 := hc1.own
      rw [List.length_map] at ho1
      replace ho1 := hide ho1
      clear hc1
      go_wp2_with fail
      refine (WrongPlaces_I _ s0 s1 hl0 hl1).mono ?_
      rintro e w2 ⟨v2, rfl, hc2⟩
      have hb2 := hc2.below
      have hz2 := hb2.size
      have hB2 := Below.step hB1 hb2
      have hlt2 := hide hc2.own.lt
      obtain ⟨A2_, c2_, rfl, hk2, -, hs2⟩ := Sl.of_coll hc2
      have ho2 := hc2.own
      rw [List.length_map] at ho2
      replace ho2 := hide ho2
      clear hc2
      go_wp2_with fail
      refine (eqInt64S_same _ _ _ _ _ _ _ hs2 (hs1.on hb2)).mono ?_
      rintro e w3 ⟨rfl, hb3⟩
      have hz3 := hb3.size
      have hB3 := Below.step hB2 hb3
      have homg := (own_below ho2.out hb3)
      have hgl : (wrongPlaces s0 s1).1.length ≤ 1073741824 := by have := wrongPlaces_len s0 s1; omega
      go_wp2_with fail
      refine (markInt64S_any _ _ _ _ _ _ _ homg (fun u hu => by simp at hu; obtain ⟨z, _, rfl⟩ := hu; exact ⟨_, rfl⟩) (by unfold maxLen; omega) (by omega) (by omega)).mono ?_
      rintro e w4 ⟨rfl, hg4, hmg⟩
      have hz4 := hg4.size
      have hB4 := below_row hB3 homg hB1.size hg4
      replace hg4 := hide hg4
      clear homg
      replace hmg := hide hmg
      go_wp2_with fail
      refine (heldInt64S_any _ _ _ _ _ _ hmg.out (by unfold maxLen; omega) (by omega) (by omega)).mono ?_
      rintro e w5 ⟨rfl, hb5⟩
      have hz5 := hb5.size
      have hB5 := Below.step hB4 hb5
      go_wp2_with fail
      refine (WrongPlaces_I _ s0 s1 hl0 hl1).mono ?_
      rintro e w6 ⟨v6, rfl, hc6⟩
      have hb6 := hc6.below
      have hz6 := hb6.size
      have hB6 := Below.step hB5 hb6
      have hlt6 := hide hc6.own.lt
      obtain ⟨A6_, c6_, rfl, hk6, -, hs6⟩ := Sl.of_coll hc6
      have ho6 := hc6.own
      rw [List.length_map] at ho6
      replace ho6 := hide ho6
      clear hc6
      go_wp2_with fail
      refine (eqInt64S_same _ _ _ _ _ _ _ hs6 (Sl.of_own (own_below (own_below (own_kept (own_below (own_below ho1.out hb2) hb3) hg4.out (fun g hg he => by have h1 := hlt2.out g hg; have h2 := hlt1.out g he; omega)) hb5) hb6))).mono ?_
      rintro e w7 ⟨rfl, hb7⟩
      have hz7 := hb7.size
      have hB7 := Below.step hB6 hb7
      go_wp2_with fail
      refine (heldInt64S_any _ _ _ _ _ _ (own_below (own_below (own_below hmg.out hb5) hb6) hb7) (by unfold maxLen; omega) (by omega) (by omega)).mono ?_
      rintro e w8 ⟨rfl, hb8⟩
      have hz8 := hb8.size
      have hB8 := Below.step hB7 hb8
      go_wp2
      go_ret
      exact ⟨rfl, hB8⟩
    · go_enter Try.func7, Try.ntmps7
      go_wp2
      go_ret
      exact ⟨rfl, Below.refl _ _⟩
  · go_enter Try.func7, Try.ntmps7
    go_wp2
    go_ret
    exact ⟨rfl, Below.refl _ _⟩
set_option maxRecDepth 100000 in
theorem FnExactWrongPlaces_lifted (os : Os) (started : os.Started) (H : Type) (enc : TypeId × Value → H) :
    ReturnsInHanded {} Try.checked os 7 .any (Rows.fnExactWrongPlacesSpec.pre6 enc Try.prog Try.f7 Rows.fnExactWrongPlacesRow.domain false) (Rows.fnExactWrongPlacesSpec.post enc Try.prog Try.f7 false true false false) := by
  refine returnsInHanded_of_change (C := Try.checked) own started (by kernel_rfl) Try.func7
    (ChangeSpec.witness6 (enc := enc) (C := Try.checked) false ⟨#[], #[.string ⟨#[]⟩, .string ⟨#[]⟩], []⟩ 8 (by kernel_rfl) (by kernel_rfl) (by kernel_rfl) (by kernel_rfl)) ?_
  intro W base args ds gs before hval0 hW hcnd _
  have hval : ∀ (j : Nat) t v, Try.f7.params[j]? = some t → args[j]? = some v → Value.okWide Try.prog W .any base t v := hval0
  have hW1 := hW
  obtain ⟨p, q, hA0, hV, rfl, hfz, hnd⟩ := hW
  have hA : DataW.TrodAll enc Try.prog W 0 (fun _ => true) true Try.f7.params.toList args.toList ds p := hA0
  rw [Try.params7] at hA hval
  obtain ⟨v0, vs0, d0, ds0, p0, q0, hargs, rfl, rfl, h0, r0⟩ := trodAll_cons hA
  obtain ⟨v1, vs1, d1, ds1, p1, q1, rfl, rfl, rfl, h1, r1⟩ := trodAll_cons r0
  obtain ⟨rfl, rfl, rfl⟩ := trodAll_nil r1
  obtain rfl : args = #[v0, v1] := by cases args; simp_all
  obtain ⟨rfl, rfl⟩ := trodVars_none hV
  have k0 := h0
  have lt0 : ∀ x ∈ p0, x.block < W.heap.size := by obtain ⟨m, hm⟩ := k0; exact DataW.trod_lt m _ _ _ hm
  have o0 := hval 0 9 v0 rfl rfl
  obtain ⟨s0, rfl, rfl, rfl, hs0⟩ := open_string Try.underlying9 o0 h0
  have k1 := h1
  have lt1 : ∀ x ∈ p1, x.block < W.heap.size := by obtain ⟨m, hm⟩ := k1; exact DataW.trod_lt m _ _ _ hm
  have o1 := hval 1 9 v1 rfl rfl
  obtain ⟨s1, rfl, rfl, rfl, hs1⟩ := open_string Try.underlying9 o1 h1
  clear hA0 hval0
  refine (FnExactWrongPlaces_walk W s0 hs0 s1 hs1).mono fun e W1 ⟨he, bel⟩ => ?_
  subst he
  exact ⟨_, rfl, _, _, _, [], _, [], hW1, trodAll_mk1 (shut_bool Try.underlying4 _), (trodAll_cons_mk (Below.trod laidOut (by kernel_rfl) (of_decide_eq_true (by kernel_rfl)) k0 bel lt0) (trodAll_cons_mk (Below.trod laidOut (by kernel_rfl) (of_decide_eq_true (by kernel_rfl)) k1 bel lt1) trodAll_mk0)), rfl, bel.frame _, fun h => by cases h⟩

theorem FnExactWrongPlaces_holds : Rows.FnExactWrongPlacesSaid :=
  OpenClaim.holds_of_wide 7 Try.f7 rfl rfl rfl rfl rfl rfl rfl ⟨rfl, rfl, rfl, rfl, rfl⟩ rfl rfl rfl rfl rfl (by kernel_rfl) Try.func7 (by kernel_rfl)
    (of_decide_eq_true (by kernel_rfl)) (by unfold Func.isWrapper; rw [if_neg (of_decide_eq_false (by kernel_rfl))]; exact ⟨rfl, rfl⟩)
    (fun os started H enc _ => FnExactWrongPlaces_lifted os started H enc)
end Go.Proofs.Ytokdbkkjneadgaa
