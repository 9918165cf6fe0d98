/-
  The law of BestLayout.
-/
import Derived.Test.YtcgjgelapjdihaaL07X
import Derived.Test.YtcgjgelapjdihaaArgsT
namespace Go.Proofs.Ytcgjgelapjdihaa
set_option maxRecDepth 100000
open Go.ChangeShapes Go.WideShapes Go.ChangeAt Go.RowKit Go.Joins
open Go.ChangeMaps (open_string shut_string)

set_option maxHeartbeats 1000000 in
theorem FnExactBestLayout_walk (w : World) (A0 : Option Addr) (n0 c0 : Nat) (xs0 : List (Int × Int × Int)) (h0 : Sl3 (Value.int .i64) w A0 n0 xs0) (hw0 : True) (s1 : ByteArray) (ms1 : s1.size ≤ maxLen) (s2 : ByteArray) (ms2 : s2.size ≤ maxLen) :
    Calls Try.prog 3 #[.slice A0 n0 c0, .string s1, .string s2] w fun e w1 => e = .returned (.bool true) ∧ Below w.heap.size w w1 := by
  unfold maxLen at ms1
  unfold maxLen at ms2
  by_cases hl1 : s1.size ≤ 1048576
  · skip
    by_cases hl2 : s2.size ≤ 1048576
    · skip
      obtain ⟨z0, hz0e⟩ : ∃ z, z = szPlaceS 1048576 xs0 := ⟨_, rfl⟩
      by_cases hzl0 : z0 < 0
      · go_enter Try.func3, Try.ntmps3
        go_wp2_with fail
        refine (szPlaceS_any _ A0 n0 c0 xs0 1048576 h0 (by omega) (by omega)).mono ?_
        rintro e w1 ⟨rfl, rfl⟩
        rw [← hz0e]
        clear hz0e
        go_wp2
        go_ret
        exact ⟨rfl, by (repeat first | exact Below.refl _ _ | (refine Below.alloc ?_ (by go_size) _) | (refine Below.step ?_ (by assumption)))⟩
      have hq0 := szPlaceS_le (by rw [← hz0e]; omega : (0 : Int) ≤ szPlaceS 1048576 xs0)
      obtain ⟨hl0, hu0⟩ := hq0
      rw [h0.len] at hl0
      replace hw0 := hide hw0
      replace hu0 := hide hu0
      go_enter Try.func3, Try.ntmps3
      have hB0 := Below.refl w.heap.size w
      go_wp2_with fail
      refine (szPlaceS_any _ A0 n0 c0 xs0 1048576 h0 (by omega) (by omega)).mono ?_
      rintro e w1 ⟨rfl, rfl⟩
      rw [← hz0e]
      clear hz0e
      go_wp2_with fail
      refine (toPlaceS_any _ A0 n0 c0 xs0 (h0.on hB0) hl0 hu0.out).mono ?_
      rintro e w1 ⟨A1_, c1_, rfl, hc1⟩
      have hb1 := hc1.below
      have hz1 := hb1.size
      have hB1 := Below.step hB0 hb1
      go_wp2_with fail
      refine (BestLayout_S _ A1_ n0 c1_ xs0 s1 s2 hc1.sl hl1 hl2).mono ?_
      rintro e w2 ⟨rfl, hb2⟩
      have hz2 := hb2.size
      have hB2 := Below.step hB1 hb2
      go_wp2_with fail
      refine (toPlaceS_any _ A0 n0 c0 xs0 (h0.on hB2) hl0 hu0.out).mono ?_
      rintro e w3 ⟨A3_, c3_, rfl, hc3⟩
      have hb3 := hc3.below
      have hz3 := hb3.size
      have hB3 := Below.step hB2 hb3
      go_wp2_with fail
      refine (BestLayout_I _ A3_ n0 c3_ xs0 s1 s2 hc3.sl hl1 hl2).mono ?_
      rintro e w4 ⟨rfl, hb4⟩
      have hz4 := hb4.size
      have hB4 := Below.step hB3 hb4
      go_wp2_with fail
      refine (toPlaceS_any _ A0 n0 c0 xs0 (h0.on hB4) hl0 hu0.out).mono ?_
      rintro e w5 ⟨A5_, c5_, rfl, hc5⟩
      have hb5 := hc5.below
      have hz5 := hb5.size
      have hB5 := Below.step hB4 hb5
      go_wp2_with fail
      refine (eqPlaceS_same _ _ _ _ _ _ xs0 ((hc3.sl.on hb4).on hb5) hc5.sl).mono ?_
      rintro e w6 ⟨rfl, hb6⟩
      have hz6 := hb6.size
      have hB6 := Below.step hB5 hb6
      go_wp2
      go_ret
      exact ⟨rfl, hB6⟩
    · go_enter Try.func3, Try.ntmps3
      go_wp2
      go_ret
      exact ⟨rfl, Below.refl _ _⟩
  · go_enter Try.func3, Try.ntmps3
    go_wp2
    go_ret
    exact ⟨rfl, Below.refl _ _⟩
set_option maxRecDepth 100000 in
theorem FnExactBestLayout_lifted (os : Os) (started : os.Started) (H : Type) (enc : TypeId × Value → H) :
    ReturnsInHanded {} Try.checked os 3 .any (Rows.fnExactBestLayoutSpec.pre6 enc Try.prog Try.f3 Rows.fnExactBestLayoutRow.domain false) (Rows.fnExactBestLayoutSpec.post enc Try.prog Try.f3 false true false false) := by
  refine returnsInHanded_of_change (C := Try.checked) own started (by kernel_rfl) Try.func3
    (ChangeSpec.witness6 (enc := enc) (C := Try.checked) false ⟨#[], #[.slice none 0 0, .string ⟨#[]⟩, .string ⟨#[]⟩], []⟩ 8 (by kernel_rfl) (by kernel_rfl) (by kernel_rfl) (by kernel_rfl)) ?_
  intro W base args ds gs before hval0 hW hcnd _
  have hval : ∀ (j : Nat) t v, Try.f3.params[j]? = some t → args[j]? = some v → Value.okWide Try.prog W .any base t v := hval0
  have hW1 := hW
  obtain ⟨p, q, hA0, hV, rfl, hfz, hnd⟩ := hW
  have hA : DataW.TrodAll enc Try.prog W 0 (fun _ => true) true Try.f3.params.toList args.toList ds p := hA0
  rw [Try.params3] at hA hval
  obtain ⟨v0, vs0, d0, ds0, p0, q0, hargs, rfl, rfl, h0, r0⟩ := trodAll_cons hA
  obtain ⟨v1, vs1, d1, ds1, p1, q1, rfl, rfl, rfl, h1, r1⟩ := trodAll_cons r0
  obtain ⟨v2, vs2, d2, ds2, p2, q2, rfl, rfl, rfl, h2, r2⟩ := trodAll_cons r1
  obtain ⟨rfl, rfl, rfl⟩ := trodAll_nil r2
  obtain rfl : args = #[v0, v1, v2] := by cases args; simp_all
  obtain ⟨rfl, rfl⟩ := trodVars_none hV
  have k0 := h0
  have lt0 : ∀ x ∈ p0, x.block < W.heap.size := by obtain ⟨m, hm⟩ := k0; exact DataW.trod_lt m _ _ _ hm
  have o0 := hval 0 22 v0 rfl rfl
  obtain ⟨A0, n0, c0, xs0, rfl, hs0, hw0⟩ := arg_places o0 h0
  have k1 := h1
  have lt1 : ∀ x ∈ p1, x.block < W.heap.size := by obtain ⟨m, hm⟩ := k1; exact DataW.trod_lt m _ _ _ hm
  have o1 := hval 1 9 v1 rfl rfl
  obtain ⟨s1, rfl, rfl, rfl, hs1⟩ := open_string Try.underlying9 o1 h1
  have k2 := h2
  have lt2 : ∀ x ∈ p2, x.block < W.heap.size := by obtain ⟨m, hm⟩ := k2; exact DataW.trod_lt m _ _ _ hm
  have o2 := hval 2 9 v2 rfl rfl
  obtain ⟨s2, rfl, rfl, rfl, hs2⟩ := open_string Try.underlying9 o2 h2
  clear hA0 hval0
  refine (FnExactBestLayout_walk W A0 n0 c0 xs0 hs0 hw0 s1 hs1 s2 hs2).mono fun e W1 ⟨he, bel⟩ => ?_
  subst he
  exact ⟨_, rfl, _, _, _, [], _, [], hW1, trodAll_mk1 (shut_bool Try.underlying4 _), (trodAll_cons_mk (Below.trod laidOut (by kernel_rfl) (of_decide_eq_true (by kernel_rfl)) k0 bel lt0) (trodAll_cons_mk (Below.trod laidOut (by kernel_rfl) (of_decide_eq_true (by kernel_rfl)) k1 bel lt1) (trodAll_cons_mk (Below.trod laidOut (by kernel_rfl) (of_decide_eq_true (by kernel_rfl)) k2 bel lt2) trodAll_mk0))), rfl, bel.frame _, fun h => by cases h⟩

theorem FnExactBestLayout_holds : Rows.FnExactBestLayoutSaid :=
  OpenClaim.holds_of_wide 3 Try.f3 rfl rfl rfl rfl rfl rfl rfl ⟨rfl, rfl, rfl, rfl, rfl⟩ rfl rfl rfl rfl rfl (by kernel_rfl) Try.func3 (by kernel_rfl)
    (of_decide_eq_true (by kernel_rfl)) (by unfold Func.isWrapper; rw [if_neg (of_decide_eq_false (by kernel_rfl))]; exact ⟨rfl, rfl⟩)
    (fun os started H enc _ => FnExactBestLayout_lifted os started H enc)
end Go.Proofs.Ytcgjgelapjdihaa
