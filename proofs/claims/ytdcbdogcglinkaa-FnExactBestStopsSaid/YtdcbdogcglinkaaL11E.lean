/-
  The reference's least numbers of moves: the walk of l11Far.
-/
import Derived.Test.YtdcbdogcglinkaaL11D
namespace Go.Proofs.Ytdcbdogcglinkaa
set_option maxRecDepth 100000
open Go.RowKit

/-- The slice at block g, of 31 numbers of the call's own. -/
def Own31 (base : Nat) (w : World) (g : Nat) (f : Nat → Nat) : Prop := w.ownsRow base 2 1 (.slice (some ⟨g, 0, none⟩) 31 31) 31 (numF f)
theorem Own31.get {base : Nat} {w : World} {g : Nat} {f : Nat → Nat} (h : Own31 base w g f) {q : Nat} (hq : q < 31) : w.cell? ⟨g, q, none⟩ = some (.int .i64 (f q : Int)) := by
  have := h.cellAt q (by omega)
  rw [this, numF_get f hq]
theorem Own31.put {base : Nat} {w : World} {g : Nat} {f : Nat → Nat} (h : Own31 base w g f) {q : Nat} (hq : q < 31) (v : Nat) : Own31 base (w.setCell ⟨g, q, none⟩ (.int .i64 (v : Int))) g (fun r => if r = q then v else f r) ∧ w.grownBy (w.setCell ⟨g, q, none⟩ (.int .i64 (v : Int))) (some g) := by
  have := h.stored q (.int .i64 (v : Int))
  rw [numF_set f hq] at this
  exact this

theorem moves_byte (j : Nat) (hj : j < 3) (W : World) : (Instr.index 9 (.string ⟨#[35, 60, 62]⟩) (.int .i64 (j : Int))).run Try.prog W = .ok (.int .u8 ((mvB j).toNat : Int)) W := by
  refine run_byte (s := ⟨#[35, 60, 62]⟩) (k := j) (b := mvB j) ?_ W
  rcases (by omega : j = 0 ∨ j = 1 ∨ j = 2) with rfl | rfl | rfl <;> rfl

def FarW (xs : List Int) (to S : Nat) (base : Nat) (W : World) (g : Nat) (c j : Nat) (b : Value) (w : World) : Prop :=
  ∃ (f : Nat → Nat) (bb : Bool), b = .bool bb ∧ Own31 base w g f ∧ Below W.heap.size W w ∧ Scan xs to S bb f c j

set_option maxHeartbeats 1000000 in
theorem l11Far_any (w : World) (A : Option Addr) (n c : Nat) (xs : List Int) (to : Nat) (h : Sl (Value.int .i64) w A n xs) (hx : ∀ x ∈ xs, 1 ≤ x ∧ x ≤ 30) (hto : to ≤ 30) :
    Calls Try.prog 49 #[.slice A n c, .int .i64 to] w fun e w' => ∃ f, e = .returned (.slice (some ⟨w.heap.size, 0, none⟩) 31 31) ∧ Own31 w.heap.size w' w.heap.size f ∧ Below w.heap.size w w' ∧ Far xs to f := by
  obtain ⟨i0, hi, hz0, hz1, hz2⟩ := info_parts int64_info
  have HX := hide hx
  clear hx
  go_enter Try.func49, Try.ntmps49
  go_wp2_with (at_make; refine wpList_make_full _ rfl _ _ 24 rfl w.heap.size 2 i0 (.int .i64 0) 1 Try.underlying24 hi hz0 hz1 .i64 .i64 _ _ 31 rfl rfl rfl rfl (by rw [hz2]; omega) (by simp only [maxLen]; omega) (Nat.le_refl _) ?_; intro w1 hown1 hg1)
  have hb1 : Below w.heap.size w w1 := (Below.refl _ _).grown hg1 (Nat.le_refl _) (by simp)
  simp only [Value.cells, Nat.mul_one, toList_madeCells_one] at hown1
  rw [numF_zero] at hown1
  have hO1 : Hid (Own31 w.heap.size w1 w.heap.size (fun _ => 0)) := hown1
  clear hown1 hg1
  go_loopw [6] (fun i wr => ∃ (k : Nat) (f : Nat → Nat), k ≤ 31 ∧ i = .int .i64 k ∧ Own31 w.heap.size wr w.heap.size f ∧ Below w.heap.size w wr ∧ f = fun q => if q < k then 31 else 0) (fun i _ => 31 - (intOf i).toNat)
  case atStart => exact ⟨0, _, Nat.zero_le _, rfl, hO1.out, hb1, by funext q; simp⟩
  case round =>
    clear hO1 hb1
    obtain ⟨k, f, hk, rfl, hO, hb, hf⟩ := hrel
    replace hf := hide hf
    by_cases hlt : k < 31
    · have hcell := hO.get hlt
      have hfr := hO.frozenAt k
      have HP := hide (hO.put hlt 31)
      have HF : Hid ((fun r => if r = k then 31 else f r) = fun q => if q < k + 1 then 31 else 0) := by
        unfold Hid
        funext r
        rw [hf.out]
        by_cases h1 : r = k
        · rw [if_pos h1, if_pos (by omega)]
        · rw [if_neg h1]
          by_cases h2 : r < k
          · simp only; rw [if_pos h2, if_pos (by omega)]
          · simp only; rw [if_neg h2, if_neg (by omega)]
      have HO := hide hO
      clear hO
      go_wp2
      go_roundw
      case rel => exact ⟨k + 1, _, by omega, by go_num, HP.out.1, hb.grown HP.out.2 hb.size (fun g hg => by cases hg; exact Nat.le_refl _), HF.out⟩
      case measure => simp [intOf]; omega
    · have hcell := hO.get (show to < 31 by omega)
      have hfr := hO.frozenAt to
      have HP := hide (hO.put (show to < 31 by omega) 0)
      have hk31 : k = 31 := by omega
      have HS : Hid (Relax xs to (fun r => if r = to then 0 else f r) ∧ sumTo (fun r => if r = to then 0 else f r) 31 ≤ 31 * 31) := by
        have hv : ∀ c, c ≤ 30 → (if c = to then 0 else f c) = if c = to then 0 else 31 := fun c hc => by
          rw [hf.out]; simp only; rw [if_pos (show c < k by omega)]
        refine ⟨⟨by simp, fun c hc => ?_, fun c hc hne => Or.inl ?_⟩, sumTo_le 31 fun q hq => ?_⟩
        · rw [hv c hc]; split <;> omega
        · rw [hv c hc, if_neg hne]
        · rw [hv q (by omega)]; split <;> omega
      have HB := hide hb
      clear hO hb hk31
      go_wp2
      go_loopg [7] (31 * 31 + 1) (fun g b wr => ∃ (f : Nat → Nat) (bb : Bool), b = .bool bb ∧ Own31 w.heap.size wr w.heap.size f ∧ Below w.heap.size w wr ∧ Relax xs to f ∧ (bb = false → ∀ c t : Nat, c ≤ 30 → Edge xs c t → f c ≤ f t + 1) ∧ sumTo f 31 + (if bb = true then 1 else 0) ≤ g)
      case atStart => exact ⟨_, true, rfl, HP.out.1, HB.out.grown HP.out.2 HB.out.size (fun g hg => by cases hg; exact Nat.le_refl _), HS.out.1, (fun e => by cases e), by have := HS.out.2; rw [if_pos rfl]; omega⟩
      case round =>
        clear HP HS HB hcell hfr
        obtain ⟨f, bb, rfl, hO, hb, hR, hst, hsum⟩ := hrel
        cases bb with
        | false =>
          have HE := hide (hR.done hto (hst rfl))
          have HO := hide hO
          clear hst hR hO
          go_wp2
          go_ret
          exact ⟨f, rfl, HO.out, hb, HE.out⟩
        | true =>
          rw [if_pos rfl] at hsum
          obtain ⟨S, hS⟩ : ∃ S, sumTo f 31 = S := ⟨_, rfl⟩
          have H0 : Hid (Scan xs to S false f 0 0) := ⟨hR, fun _ => ⟨fun c' t hc => absurd hc (Nat.not_lt_zero _), fun i t hi => absurd hi (Nat.not_lt_zero _)⟩, by rw [hS]; simp⟩
          have hSg : S < gk := by omega
          have HO := hide hO
          clear hst hR hsum hS hO
          go_wp2
          go_loopw [7, 8] (fun b i wr => ∃ c : Nat, c ≤ 31 ∧ i = .int .i64 c ∧ FarW xs to S w.heap.size w w.heap.size c 0 b wr) (fun _ i _ => 31 - (intOf i).toNat)
          case atStart => exact ⟨0, Nat.zero_le _, rfl, f, false, rfl, HO.out, hb, H0.out⟩
          case round =>
            clear H0 HO hb
            obtain ⟨q, hq, rfl, hF⟩ := hrel
            by_cases hlt2 : (q : Int) ≤ 30
            · go_wp2
              go_loopw [7, 9] (fun b i wr => ∃ j : Nat, j ≤ 3 ∧ i = .int .i64 j ∧ FarW xs to S w.heap.size w w.heap.size q j b wr) (fun _ i _ => 3 - (intOf i).toNat)
              case atStart => exact ⟨0, Nat.zero_le _, rfl, hF⟩
              case round =>
                clear hF
                obtain ⟨j, hj, rfl, f, bb, rfl, hO, hb, hSc⟩ := hrel
                have HSc := hide hSc
                clear hSc
                by_cases hlt3 : j < 3
                · have hmb := moves_byte j hlt3
                  have cq := hO.get (show q < 31 by omega)
                  have hfr := hO.frozenAt q
                  have hfb := HSc.out.relax.top q (by omega)
                  obtain ⟨m, hm⟩ : ∃ m, mvTo xs q (mvB j) = m := ⟨_, rfl⟩
                  cases m with
                  | none =>
                    have HN := hide (HSc.out.miss (fun t ht => by rw [hm] at ht; cases ht))
                    replace hm := hide hm
                    replace hO := hide hO
                    go_wp2_with fail
                    refine (l11Next_any _ _ _ _ xs q (mvB j) (h.on hb) HX.out (by omega)).mono ?_
                    rintro e w2 ⟨rfl, rfl⟩
                    rw [hm.out]
                    go_wp2
                    go_quiet (fail)
                    go_wp2
                    go_roundw
                    case rel => exact ⟨j + 1, by omega, by go_num, f, bb, rfl, hO.out, below_drewN hb _, HN.out⟩
                    case measure => simp [intOf]; omega
                  | some t =>
                    have htb := mvTo_bd HX.out (c := (q : Int)) (by omega) hm
                    obtain ⟨tn, rfl⟩ : ∃ tn : Nat, t = tn := ⟨t.toNat, by omega⟩
                    have ct := hO.get (show tn < 31 by omega)
                    have hft := HSc.out.relax.top tn (by omega)
                    have i1 : (0 : Int) ≤ (tn : Int) := by omega
                    have i2 : (tn : Int) < 31 := by omega
                    have i3 : (0 : Int) ≤ (q : Int) := by omega
                    have i4 : (q : Int) < 31 := by omega
                    by_cases hless : (f tn : Int) + 1 < (f q : Int)
                    · have HN := hide (HSc.out.hit (by omega) hm (by omega) (j + 1))
                      have HP := hide (fun m => Own31.put (w := wr.drewN m) (base := w.heap.size) (g := w.heap.size) (f := f) hO (show q < 31 by omega) (f tn + 1))
                      replace hm := hide hm
                      replace hO := hide hO
                      go_wp2_with fail
                      refine (l11Next_any _ _ _ _ xs q (mvB j) (h.on hb) HX.out (by omega)).mono ?_
                      rintro e w2 ⟨rfl, rfl⟩
                      rw [hm.out]
                      go_wp2
                      go_quiet (fail)
                      go_wp2
                      go_roundw
                      case rel => exact ⟨j + 1, by omega, by go_num, _, true, rfl, (HP.out nq).1, (below_drewN hb nq).grown (HP.out nq).2 hb.size (fun g hg => by cases hg; exact Nat.le_refl _), HN.out⟩
                      case measure => simp [intOf]; omega
                    · have HN := hide (HSc.out.miss (fun t ht => by rw [hm] at ht; cases ht; omega))
                      replace hm := hide hm
                      replace hO := hide hO
                      go_wp2_with fail
                      refine (l11Next_any _ _ _ _ xs q (mvB j) (h.on hb) HX.out (by omega)).mono ?_
                      rintro e w2 ⟨rfl, rfl⟩
                      rw [hm.out]
                      go_wp2
                      go_quiet (fail)
                      go_wp2
                      go_roundw
                      case rel => exact ⟨j + 1, by omega, by go_num, f, bb, rfl, hO.out, below_drewN hb _, HN.out⟩
                      case measure => simp [intOf]; omega
                · have hj3 : j = 3 := by omega
                  subst hj3
                  have HN := hide HSc.out.col
                  replace hO := hide hO
                  go_wp2
                  go_roundw
                  case rel => exact ⟨q + 1, by omega, by go_num, f, bb, rfl, hO.out, hb, HN.out⟩
                  case measure => simp [intOf]; omega
            · obtain ⟨f, bb, rfl, hO, hb, hSc⟩ := hF
              have hq31 : q = 31 := by omega
              subst hq31
              have HSc := hide hSc
              replace hO := hide hO
              clear hSc
              go_wp2
              go_roundg S
              case rel => exact ⟨f, bb, rfl, hO.out, hb, HSc.out.relax, fun e c t hc he => (HSc.out.seen e).1 c t (by omega) he, HSc.out.sum⟩
              case measure => exact hSg
end Go.Proofs.Ytdcbdogcglinkaa
