/-
  The moves of a page, by the reference.
-/
import Derived.Test.YtdcbdogcglinkaaL11O
namespace Go.Proofs.Ytdcbdogcglinkaa
set_option maxRecDepth 100000
open Go.RowKit

theorem ints_info : (Try.prog.info? 24).map (fun i => (i.zero, i.size, i.bytes)) = some (some (.slice none 0 0), 1, 24) := by kernel_rfl
/-- A row of distances that has been made, or none yet. -/
def fV : Option Nat → Value
  | none => .slice none 0 0
  | some b => .slice (some ⟨b, 0, none⟩) 31 31
def farL (st : Nat → Option Nat) : List Value := (List.range 31).map fun q => fV (st q)
theorem farL_len (st : Nat → Option Nat) : (farL st).length = 31 := by simp [farL]
theorem farL_get (st : Nat → Option Nat) {q : Nat} (h : q < 31) : (farL st)[q]? = some (fV (st q)) := by
  unfold farL; rw [List.getElem?_map, List.getElem?_range h]; rfl
theorem farL_set (st : Nat → Option Nat) {q : Nat} (hq : q < 31) (b : Nat) : (farL st).set q (fV (some b)) = farL (fun r => if r = q then some b else st r) := by
  apply List.ext_getElem?
  intro r
  rw [List.getElem?_set]
  by_cases hr : q = r
  · subst hr
    rw [if_pos rfl, farL_len, if_pos hq, farL_get _ hq]; simp
  · rw [if_neg hr]
    by_cases hr2 : r < 31
    · rw [farL_get st hr2, farL_get _ hr2, if_neg (fun e => hr e.symm)]
    · rw [List.getElem?_eq_none (by rw [farL_len]; omega), List.getElem?_eq_none (by rw [farL_len]; omega)]
theorem farL_zero : List.replicate 31 (Value.slice none 0 0) = farL (fun _ => none) := by
  apply List.ext_getElem?
  intro r
  by_cases h : r < 31
  · rw [farL_get _ h, List.getElem?_replicate, if_pos h]; rfl
  · rw [List.getElem?_eq_none (by simp; omega), List.getElem?_eq_none (by rw [farL_len]; omega)]
/-- The rows of distances that the call keeps. -/
structure FarC (xs : List Int) (W : World) (g : Nat) (w : World) (st : Nat → Option Nat) : Prop where
  own : w.ownsRow W.heap.size 24 1 (.slice (some ⟨g, 0, none⟩) 31 31) 31 (farL st)
  far : ∀ q b, q < 31 → st q = some b → b ≠ g ∧ FarAt w b (dist xs q)
  below : Below W.heap.size W w
section
variable {xs : List Int} {W w w1 : World} {g : Nat} {st : Nat → Option Nat}
theorem FarC.on (h : FarC xs W g w st) (hb : Below w.heap.size w w1) : FarC xs W g w1 st :=
  ⟨own_below h.own hb, fun q b hq he => ⟨(h.far q b hq he).1, (h.far q b hq he).2.on hb⟩, Below.step h.below hb⟩
theorem FarC.get (h : FarC xs W g w st) {q : Nat} (hq : q < 31) : w.cell? ⟨g, q, none⟩ = some (fV (st q)) := by
  rw [h.own.cellAt q (by omega), farL_get st hq]
theorem FarC.lt (h : FarC xs W g w st) : g < w.heap.size := (h.own.lt g rfl).2
theorem cell_set_other {b o b' o' : Nat} (hne : b ≠ b') (v : Value) : (w.setCell ⟨b, o, none⟩ v).cell? ⟨b', o', none⟩ = w.cell? ⟨b', o', none⟩ := by
  simp [World.setCell, World.cell?, Array.getElem?_modify, hne]
theorem FarC.put (h : FarC xs W g w st) {q b : Nat} (hq : q < 31) (hb : b ≠ g) (hf : FarAt w b (dist xs q)) : FarC xs W g (w.setCell ⟨g, q, none⟩ (fV (some b))) (fun r => if r = q then some b else st r) := by
  have hst := h.own.stored q (fV (some b))
  rw [farL_set st hq] at hst
  have hgW : W.heap.size ≤ g := (h.own.lt g rfl).1
  refine ⟨hst.1, fun r b' hr he => ?_, h.below.setCell hgW _⟩
  have key : ∀ b'' r', b'' ≠ g → FarAt w b'' (dist xs r') → FarAt (w.setCell ⟨g, q, none⟩ (fV (some b))) b'' (dist xs r') := fun b'' r' hne hf' =>
    ⟨by rw [World.size_setCell]; exact hf'.1, fun p hp => by rw [cell_set_other (Ne.symm hne)]; exact hf'.2 p hp⟩
  by_cases e : r = q
  · rw [if_pos e] at he
    cases he
    exact ⟨hb, key b r hb (e ▸ hf)⟩
  · rw [if_neg e] at he
    have := h.far r b' hr he
    exact ⟨this.1, key b' r this.1 this.2⟩
end

set_option maxHeartbeats 1000000 in
theorem l11Page_any (w : World) (A : Option Addr) (n c : Nat) (xs : List Int) (A2 : Option Addr) (n2 c2 : Nat) (ss : List ByteArray) (h : Sl (Value.int .i64) w A n xs) (hx : ∀ x ∈ xs, 1 ≤ x ∧ x ≤ 30) (h2 : Sl Value.string w A2 n2 ss) (hl : n2 ≤ 12) (hs : ∀ s ∈ ss, s.size ≤ 30) :
    Calls Try.prog 61 #[.slice A n c, .slice A2 n2 c2] w fun e w' => e = .returned (.int .i64 (pageM xs ss : Int)) ∧ Below w.heap.size w w' := by
  obtain ⟨i0, hi, hz0, hz1, hz2⟩ := info_parts ints_info
  have HX := hide hx
  have HS := hide hs
  clear hx hs
  go_enter Try.func61, Try.ntmps61
  go_wp2_with (at_make; refine wpList_make_full _ rfl _ _ 54 rfl w.heap.size 24 i0 (.slice none 0 0) 1 Try.underlying54 hi hz0 hz1 .i64 .i64 _ _ 31 rfl rfl rfl rfl (by rw [hz2]; omega) (by simp only [maxLen]; omega) (Nat.le_refl _) ?_; intro w1 hown1 hg1)
  have hb1 : Below w.heap.size w w1 := (Below.refl _ _).grown hg1 (Nat.le_refl _) (by simp)
  simp only [Value.cells, Nat.mul_one, toList_madeCells_one] at hown1
  rw [farL_zero] at hown1
  have hF0 : Hid (FarC xs w w.heap.size w1 (fun _ => none)) := ⟨hown1, (fun q b _ he => by cases he), hb1⟩
  clear hown1 hg1 hb1
  go_loopw [6, 7] (fun m i wr => ∃ (k : Nat) (st : Nat → Option Nat), k ≤ n2 ∧ i = .int .i64 k ∧ m = .int .i64 (pageM xs (ss.take k) : Int) ∧ FarC xs w w.heap.size wr st) (fun _ i _ => n2 - (intOf i).toNat)
  case atStart => exact ⟨0, _, Nat.zero_le _, rfl, by simp [pageM], hF0.out⟩
  case round =>
    clear hF0
    obtain ⟨k, st, hk, rfl, rfl, hC⟩ := hrel
    have hb := hC.below
    by_cases hlt : k < n2
    · obtain ⟨b, o, s, rfl, hxk, hc⟩ := h2.at_ hb hlt
      have hltd : decide ((k : Int) < (n2 : Int)) = true := by rw [decide_eq_true_eq]; omega
      have hs30 := HS.out _ (List.mem_of_getElem? hxk)
      have hp1 := pageM_le HX.out (ss := ss.take k) (fun s hs => HS.out s (List.mem_of_mem_take hs))
      have hp2 : (ss.take k).length ≤ k := List.length_take_le _ _
      have HT := hide (pageM_take (xs := xs) hxk)
      obtain ⟨P, hP⟩ : ∃ P, pageM xs (ss.take k) = P := ⟨_, rfl⟩
      rw [hP] at hp1 HT ⊢
      have HK := hide hxk
      clear hxk hP
      go_wp2
      go_loopw [6, 8, 9] (fun m a i wr => ∃ (j cn mn : Nat) (acc : List UInt8) (st : Nat → Option Nat), j ≤ s.size ∧ i = .int .i64 j ∧ a = .int .i64 cn ∧ m = .int .i64 ((P + mn : Nat) : Int) ∧ RowAt xs s j cn acc mn ∧ FarC xs w w.heap.size wr st) (fun _ _ i _ => s.size - (intOf i).toNat)
      case atStart => exact ⟨0, 0, 0, [], st, Nat.zero_le _, rfl, rfl, rfl, RowAt.start _ _, hC⟩
      case round =>
        clear hC hc hb
        obtain ⟨j, cn, mn, acc, st, hj, rfl, rfl, rfl, hR, hC⟩ := hrel
        have hb := hC.below
        have HR := hide hR
        have hcn := hR.at_
        have hmn := hR.mle
        clear hR
        have hc := h2.cell hb HK.out
        by_cases hlt2 : j < s.size
        · have hxj := by_get hlt2
          obtain ⟨d, hd⟩ : ∃ d, s[j] = d := ⟨_, rfl⟩
          rw [hd] at hxj
          have hrun := run_byte hxj
          have hlt2d : decide ((j : Int) < (s.size : Int)) = true := by rw [decide_eq_true_eq]; omega
          by_cases h32 : d = 32
          · have HN := hide (HR.out.blank (h32 ▸ hxj))
            have hcb : ((d.toNat : Int) == 32) = true := b_eq (c := 32) h32
            replace hC := hide hC
            clear hd h32 hxj
            go_wp2
            go_roundw
            case rel => exact ⟨j + 1, cn, mn, acc, st, by omega, by go_num, rfl, rfl, HN.out, hC.out⟩
            case measure => simp [intOf]; omega
          · have HN := hide (HR.out.letter HX.out (by omega) hxj h32)
            have hcb : ((d.toNat : Int) == 32) = false := b_ne (c := 32) h32
            have hj30 : j ≤ 30 := by omega
            have hcn30 : cn ≤ 30 := by omega
            have hpl := planOf_len HX.out hj30 hcn30
            have hpl2 := dist_le30 HX.out hj30 hcn30
            clear hd h32 hxj
            by_cases hjc : j = cn
            · have hz := (dist_zero HX.out hj30 hcn30).2 hjc.symm
              rw [hpl, hz] at HN
              have hne : ((j : Int) != (cn : Int)) = false := by simp [hjc]
              replace hC := hide hC
              clear hjc hpl hz hpl2
              go_wp2
              go_roundw
              case rel => exact ⟨j + 1, j + 1, mn, _, st, by omega, by go_num, by go_num, rfl, HN.out, hC.out⟩
              case measure => simp [intOf]; omega
            · have hne : ((j : Int) != (cn : Int)) = true := by simp; omega
              rw [hpl] at HN
              have hcell := hC.get (show j < 31 by omega)
              have hfr := hC.own.frozenAt j
              obtain ⟨sv, hsv⟩ : ∃ sv, st j = sv := ⟨_, rfl⟩
              rw [hsv] at hcell
              have i1 : (0 : Int) ≤ (cn : Int) := by omega
              have i2 : (cn : Int) < 31 := by omega
              cases sv with
              | some bk =>
                have hfar := (hC.far j bk (by omega) hsv).2.2 cn (by omega)
                replace hC := hide hC
                simp only [fV] at hcell
                clear hjc hpl hsv
                go_wp2
                go_roundw
                case rel => exact ⟨j + 1, j + 1, mn + dist xs j cn, _, st, by omega, by go_num, by go_num, by go_num, HN.out, hC.out⟩
                case measure => simp [intOf]; omega
              | none =>
                simp only [fV] at hcell
                clear hjc hpl hsv
                go_wp2_with fail
                refine (l11Far_dist _ _ _ _ xs j (h.on hb) HX.out hj30).mono ?_
                rintro e w2 ⟨rfl, hO, hb2⟩
                have hC2 := hC.on hb2
                have hlt5 := hC.lt
                have hP2 := hC2.put (q := j) (by omega) (by omega : wr.heap.size ≠ w.heap.size) hO.far
                have hcell2 := hC2.get (show j < 31 by omega)
                have hfr2 := hC2.own.frozenAt j
                have hcell3 := hP2.get (show j < 31 by omega)
                have hfar := (hP2.far j wr.heap.size (by omega) (by simp)).2.2 cn (by omega)
                simp only [if_true, fV] at hcell3 hfar hP2
                have hcell4 : w2.cell? ⟨w.heap.size, j, none⟩ = some (.slice none 0 0) := (hb2.cell (p := ⟨w.heap.size, j, none⟩) hlt5).trans hcell
                have HP2 := hide hP2
                clear hcell2 hcell hO hC hC2 hP2 hb2 hlt5
                go_wp2
                go_roundw
                case rel => exact ⟨j + 1, j + 1, mn + dist xs j cn, _, _, by omega, by go_num, by go_num, by go_num, HN.out, HP2.out⟩
                case measure => simp [intOf]; omega
        · have HD := hide (HR.out.done hlt2)
          have HE : Hid (P + mn = pageM xs (ss.take (k + 1))) := by unfold Hid; rw [HT.out, HD.out.2]; rfl
          replace hC := hide hC
          go_wp2
          go_roundw
          case rel => exact ⟨k + 1, st, by omega, by go_num, by rw [HE.out], hC.out⟩
          case measure => simp [intOf]; omega
    · have HE : Hid (pageM xs (ss.take k) = pageM xs ss) := by unfold Hid; rw [List.take_of_length_le (by rw [h2.len]; omega)]
      go_wp2
      go_ret
      exact ⟨ret_int (by rw [HE.out]), hb⟩
end Go.Proofs.Ytdcbdogcglinkaa
