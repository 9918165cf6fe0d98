/-
  The law of SetLine.
-/
import Derived.Test.YtanpmjbephelaaaL09H
import Derived.Test.YtanpmjbephelaaaArgs
import Derived.Test.YtanpmjbephelaaaInts
import Derived.Test.YtanpmjbephelaaaStrs
import Derived.Test.YtanpmjbephelaaaStrArg
namespace Go.Proofs.Ytanpmjbephelaaa
set_option maxRecDepth 100000
open Go.ChangeShapes Go.WideShapes Go.ChangeAt Go.RowKit Go.Joins
open Go.ChangeMaps (open_string shut_string)

set_option maxHeartbeats 1000000 in
theorem FnExactSetLine_walk (w : World) (A0 : Option Addr) (n0 c0 : Nat) (xs0 : List ByteArray) (h0 : Sl Value.string w A0 n0 xs0) (hw0 : ∀ x ∈ xs0, x.size ≤ maxLen) (a1 : Int) (wf1 : -9223372036854775808 ≤ a1 ∧ a1 ≤ 9223372036854775807) :
    Calls Try.prog 5 #[.slice A0 n0 c0, .int .i64 a1] w fun e w1 => e = .returned (.bool true) ∧ Below w.heap.size w w1 := by
  obtain ⟨z0, hz0e⟩ : ∃ z, z = szStrs 1048576 xs0 := ⟨_, rfl⟩
  by_cases hzl0 : z0 < 0
  · go_enter Try.func5, Try.ntmps5
    go_wp2_with fail
    refine (szStringS_any _ A0 n0 c0 xs0 1048576 h0 hw0 (by omega) (by omega)).mono ?_
    rintro e w1 ⟨rfl, rfl⟩
    rw [← hz0e]
    clear hz0e
    go_wp2
    go_ret
    exact ⟨rfl, by (repeat first | exact Below.refl _ _ | (refine Below.alloc ?_ (by go_size) _) | (refine Below.step ?_ (by assumption)))⟩
  have hq0 := szStrs_le (by rw [← hz0e]; omega : (0 : Int) ≤ szStrs 1048576 xs0)
  obtain ⟨hl0, hu0⟩ := hq0
  rw [h0.len] at hl0
  replace hl0 : n0 ≤ 1048576 := by omega
  replace hw0 := hide hw0
  replace hu0 := hide hu0
  replace wf1 := hide wf1
  go_enter Try.func5, Try.ntmps5
  have hB0 := Below.refl w.heap.size w
  go_wp2_with fail
  refine (szStringS_any _ A0 n0 c0 xs0 1048576 h0 hw0.out (by omega) (by omega)).mono ?_
  rintro e w1 ⟨rfl, rfl⟩
  rw [← hz0e]
  clear hz0e
  go_wp2_with fail
  refine (toStringS_any _ A0 n0 c0 xs0 (h0.on hB0) hl0).mono ?_
  rintro e w1 ⟨v1, rfl, hc1⟩
  have hb1 := hc1.below
  have hz1 := hb1.size
  have hB1 := Below.step hB0 hb1
  have hlt1 := hide hc1.own.lt
  obtain ⟨A1_, c1_, rfl, hk1, -, hs1⟩ := Sl.of_coll hc1
  have ho1 := hc1.own
  rw [List.length_map] at ho1
  replace ho1 := hide ho1
  clear hc1
  go_wp2_with fail
  refine (SetLine_S _ A1_ _ c1_ xs0 a1 hs1 hk1 hu0.out).mono ?_
  rintro e w2 ⟨rfl, hb2⟩
  have hz2 := hb2.size
  have hB2 := Below.step hB1 hb2
  go_wp2_with fail
  refine (toStringS_any _ A0 n0 c0 xs0 (h0.on hB2) hl0).mono ?_
  rintro e w3 ⟨v3, rfl, hc3⟩
  have hb3 := hc3.below
  have hz3 := hb3.size
  have hB3 := Below.step hB2 hb3
  have hlt3 := hide hc3.own.lt
  obtain ⟨A3_, c3_, rfl, hk3, -, hs3⟩ := Sl.of_coll hc3
  have ho3 := hc3.own
  rw [List.length_map] at ho3
  replace ho3 := hide ho3
  clear hc3
  go_wp2_with fail
  refine (SetLine_I _ A3_ _ c3_ xs0 a1 hs3 hk3 hu0.out).mono ?_
  rintro e w4 ⟨rfl, hb4⟩
  have hz4 := hb4.size
  have hB4 := Below.step hB3 hb4
  go_wp2_with fail
  refine (toStringS_any _ A0 n0 c0 xs0 (h0.on hB4) hl0).mono ?_
  rintro e w5 ⟨v5, rfl, hc5⟩
  have hb5 := hc5.below
  have hz5 := hb5.size
  have hB5 := Below.step hB4 hb5
  have hlt5 := hide hc5.own.lt
  obtain ⟨A5_, c5_, rfl, hk5, -, hs5⟩ := Sl.of_coll hc5
  have ho5 := hc5.own
  rw [List.length_map] at ho5
  replace ho5 := hide ho5
  clear hc5
  go_wp2_with fail
  refine (eqStringS_same _ _ _ _ _ _ xs0 ((hs3.on hb4).on hb5) hs5).mono ?_
  rintro e w6 ⟨rfl, hb6⟩
  have hz6 := hb6.size
  have hB6 := Below.step hB5 hb6
  go_wp2
  go_ret
  exact ⟨rfl, hB6⟩
set_option maxRecDepth 100000 in
theorem FnExactSetLine_lifted (os : Os) (started : os.Started) (H : Type) (enc : TypeId × Value → H) :
    ReturnsInHanded {} Try.checked os 5 .any (Rows.fnExactSetLineSpec.pre6 enc Try.prog Try.f5 Rows.fnExactSetLineRow.domain false) (Rows.fnExactSetLineSpec.post enc Try.prog Try.f5 false true false false) := by
  refine returnsInHanded_of_change (C := Try.checked) own started (by kernel_rfl) Try.func5
    (ChangeSpec.witness6 (enc := enc) (C := Try.checked) false ⟨#[], #[.slice none 0 0, .int .i64 0], []⟩ 8 (by kernel_rfl) (by kernel_rfl) (by kernel_rfl) (by kernel_rfl)) ?_
  intro W base args ds gs before hval0 hW hcnd _
  have hval : ∀ (j : Nat) t v, Try.f5.params[j]? = some t → args[j]? = some v → Value.okWide Try.prog W .any base t v := hval0
  have hW1 := hW
  obtain ⟨p, q, hA0, hV, rfl, hfz, hnd⟩ := hW
  have hA : DataW.TrodAll enc Try.prog W 0 (fun _ => true) true Try.f5.params.toList args.toList ds p := hA0
  rw [Try.params5] at hA hval
  obtain ⟨v0, vs0, d0, ds0, p0, q0, hargs, rfl, rfl, h0, r0⟩ := trodAll_cons hA
  obtain ⟨v1, vs1, d1, ds1, p1, q1, rfl, rfl, rfl, h1, r1⟩ := trodAll_cons r0
  obtain ⟨rfl, rfl, rfl⟩ := trodAll_nil r1
  obtain rfl : args = #[v0, v1] := by cases args; simp_all
  obtain ⟨rfl, rfl⟩ := trodVars_none hV
  have k0 := h0
  have lt0 : ∀ x ∈ p0, x.block < W.heap.size := by obtain ⟨m, hm⟩ := k0; exact DataW.trod_lt m _ _ _ hm
  have o0 := hval 0 22 v0 rfl rfl
  obtain ⟨A0, n0, c0, xs0, rfl, hs0, hw0⟩ := arg_strings o0 h0
  have k1 := h1
  have lt1 : ∀ x ∈ p1, x.block < W.heap.size := by obtain ⟨m, hm⟩ := k1; exact DataW.trod_lt m _ _ _ hm
  have o1 := hval 1 2 v1 rfl rfl
  obtain ⟨a1, rfl, rfl, rfl, wf1⟩ := open_int Try.underlying2 o1 h1
  clear hA0 hval0
  refine (FnExactSetLine_walk W A0 n0 c0 xs0 hs0 hw0 a1 (i64_wf wf1)).mono fun e W1 ⟨he, bel⟩ => ?_
  subst he
  exact ⟨_, rfl, _, _, _, [], _, [], hW1, trodAll_mk1 (shut_bool Try.underlying4 _), (trodAll_cons_mk (Below.trod laidOut (by kernel_rfl) (of_decide_eq_true (by kernel_rfl)) k0 bel lt0) (trodAll_cons_mk (Below.trod laidOut (by kernel_rfl) (of_decide_eq_true (by kernel_rfl)) k1 bel lt1) trodAll_mk0)), rfl, bel.frame _, fun h => by cases h⟩

theorem FnExactSetLine_holds : Rows.FnExactSetLineSaid :=
  OpenClaim.holds_of_wide 5 Try.f5 rfl rfl rfl rfl rfl rfl rfl ⟨rfl, rfl, rfl, rfl, rfl⟩ rfl rfl rfl rfl rfl (by kernel_rfl) Try.func5 (by kernel_rfl)
    (of_decide_eq_true (by kernel_rfl)) (by unfold Func.isWrapper; rw [if_neg (of_decide_eq_false (by kernel_rfl))]; exact ⟨rfl, rfl⟩)
    (fun os started H enc _ => FnExactSetLine_lifted os started H enc)
end Go.Proofs.Ytanpmjbephelaaa
