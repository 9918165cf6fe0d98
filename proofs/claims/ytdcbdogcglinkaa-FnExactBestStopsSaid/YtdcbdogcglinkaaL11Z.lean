/-
  BestStops: what it returns by the reference.
-/
import Derived.Test.YtdcbdogcglinkaaL11X
import Derived.Test.YtdcbdogcglinkaaArrs
namespace Go.Proofs.Ytdcbdogcglinkaa
set_option maxRecDepth 100000
open Go.RowKit

/-- What the reference's search has found, at block g. -/
def WSt (W w : World) (g : Nat) (rv : Value) (st : Option (List Int × Nat)) : Prop := ∃ vb, Arr w g 51 [rv, vb, .int .i64 (leastV st)] ∧ OwnI W w vb (bestL st)
theorem grow_set (w : World) (g o : Nat) (v : Value) : w.grownBy (w.setCell ⟨g, o, none⟩ v) (some g) :=
  ⟨rfl, rfl, rfl, by simp, fun k _ hk => by
    have : ¬ g = k := fun e => hk (by rw [e])
    simp [World.setCell, Array.getElem?_modify, this]⟩
theorem grow_below {w w1 : World} {r : Option Nat} (hb : Below w.heap.size w w1) : w.grownBy w1 r := ⟨hb.os, hb.tape, hb.output, hb.size, fun i hi _ => hb.block i hi⟩
theorem own_arr {W w : World} {u : Value} {l : List Int} {g : Nat} {T : TypeId} {cs : List Value} (h : OwnI W w u l) (hA : Arr w g T cs) (hne : T ≠ 2) : u.ownBlock ≠ some g := by
  intro hg
  rcases h.2 with ⟨rfl, _⟩ | ⟨g1, c1, cur1, rfl, _, h1, _⟩
  · cases hg
  · simp [Value.ownBlock] at hg
    subst hg
    unfold Arr at hA
    rw [h1] at hA
    simp at hA
    exact hne hA.2.symm
theorem OwnI.grown {W w w1 : World} {u : Value} {l : List Int} {g : Nat} {T : TypeId} {cs : List Value} (h : OwnI W w u l) (hA : Arr w g T cs) (hne : T ≠ 2) (hg : w.grownBy w1 (some g)) : OwnI W w1 u l :=
  h.kept hg (.inr (own_arr h hA hne))
theorem WSt.on {W w w1 : World} {g : Nat} {rv : Value} {st : Option (List Int × Nat)} (h : WSt W w g rv st) (hb : Below w.heap.size w w1) : WSt W w1 g rv st := by
  obtain ⟨vb, hA, ho⟩ := h
  exact ⟨vb, hA.on hb, own_below ho hb⟩

set_option maxHeartbeats 1000000 in
theorem walk_any (ss : List ByteArray) (n2 : Nat) (hl : n2 ≤ 12) (hs : ∀ s ∈ ss, s.size ≤ 30) (W : World) (A2 : Option Addr) (c2 : Nat) (h2 : Sl Value.string W A2 n2 ss) (g : Nat) (hgW : W.heap.size ≤ g) : ∀ (m : Nat) (w : World) (A : Option Addr) (n c : Nat) (xs : List Int) (fr : Nat) (st : Option (List Int × Nat)),
    m ≤ 2 → Below W.heap.size W w → OwnI W w (.slice A n c) xs → n = xs.length → (∀ x ∈ xs, 1 ≤ x ∧ x ≤ 30) → xs.length + m ≤ 100 → WSt W w g (.slice A2 n2 c2) st → 1 ≤ fr → fr ≤ 31 →
    Calls Try.prog 40 #[.pointer (some ⟨g, 0, none⟩), .slice A n c, .int .i64 fr, .int .i64 m] w fun e w' => e = .returned (.tuple #[]) ∧ WSt W w' g (.slice A2 n2 c2) ((wl m xs fr).foldl (upd ss) st) ∧ w.grownBy w' (some g) := by
  have HS := hide hs
  clear hs
  intro m
  induction m with
  | zero =>
    intro w A n c xs fr st hm hW h hnx hx hlen hst hf1 hf2
    obtain ⟨vb, hA, ho⟩ := hst
    have HX := hide hx
    clear hx
    have hcell0 : w.cell? ⟨g, 0, none⟩ = some (.slice A2 n2 c2) := hA.cell 0
    subst hnx
    have hsl : Sl (Value.int .i64) w A xs.length xs := Sl.of_own h
    have hpm := pageM_le HX.out HS.out
    rw [h2.len] at hpm
    obtain ⟨P, hP⟩ : ∃ P, pageM xs ss = P := ⟨_, rfl⟩
    rw [hP] at hpm
    obtain ⟨q, hq⟩ : ∃ q, leastV st = q := ⟨_, rfl⟩
    rw [hq] at hA
    go_enter Try.func40, Try.ntmps40
    go_wp2_with fail
    refine (l11Page_any _ _ _ _ xs _ _ _ ss hsl HX.out (h2.on hW) hl HS.out).mono ?_
    rintro e w2 ⟨rfl, hb2⟩
    rw [hP]
    have hA2 := hA.on hb2
    have hc0 : w2.cell? ⟨g, 1, none⟩ = some vb := hA2.cell 1
    have hc1 : w2.cell? ⟨g, 2, none⟩ = some (.int .i64 q) := hA2.cell 2
    have hf1' := hA2.open_ 1
    have hf2' := hA2.open_ 2
    have hA3 := hA2.set_ 1 (.slice A xs.length c)
    have hc2 : (w2.setCell ⟨g, 1, none⟩ (.slice A xs.length c)).cell? ⟨g, 2, none⟩ = some (.int .i64 q) := hA3.cell 2
    have hf3' := hA3.open_ 2
    clear hA3 hcell0 hsl
    by_cases h1 : q < 0
    · have hU := upd_yes (ss := ss) (st := st) (l := xs) (.inl (by rw [hq]; exact h1))
      generalize hnn : xs.length = n at *
      have HNEW : Hid (WSt W ((w2.setCell ⟨g, 1, none⟩ (.slice A n c)).setCell ⟨g, 2, none⟩ (.int .i64 (P : Int))) g (.slice A2 n2 c2) ((wl 0 xs fr).foldl (upd ss) st)) := by
        have e : (wl 0 xs fr).foldl (upd ss) st = some (xs, P) := by rw [wl, List.foldl_cons, List.foldl_nil, hU, hP]
        unfold Hid
        rw [e]
        exact ⟨.slice A n c, (hA2.set_ 1 (.slice A n c)).set_ 2 (.int .i64 (P : Int)), OwnI.grown (OwnI.grown (own_below h hb2) hA2 (by decide) (grow_set _ _ _ _)) (hA2.set_ 1 (.slice A n c)) (by decide) (grow_set _ _ _ _)⟩
      have HGR : Hid (w.grownBy ((w2.setCell ⟨g, 1, none⟩ (.slice A n c)).setCell ⟨g, 2, none⟩ (.int .i64 (P : Int))) (some g)) := grow_trans (grow_below hb2) (grow_trans (grow_set _ _ _ _) (grow_set _ _ _ _))
      clear hA hA2 ho h hb2 hU hP h2 hW hq
      go_wp2
      go_returns
      exact ⟨rfl, HNEW.out, HGR.out⟩
    · by_cases h3 : (P : Int) < q
      · have hU := upd_yes (ss := ss) (st := st) (l := xs) (.inr (by rw [hq, hP]; exact h3))
        generalize hnn : xs.length = n at *
        have HNEW : Hid (WSt W ((w2.setCell ⟨g, 1, none⟩ (.slice A n c)).setCell ⟨g, 2, none⟩ (.int .i64 (P : Int))) g (.slice A2 n2 c2) ((wl 0 xs fr).foldl (upd ss) st)) := by
          have e : (wl 0 xs fr).foldl (upd ss) st = some (xs, P) := by rw [wl, List.foldl_cons, List.foldl_nil, hU, hP]
          unfold Hid
          rw [e]
          exact ⟨.slice A n c, (hA2.set_ 1 (.slice A n c)).set_ 2 (.int .i64 (P : Int)), OwnI.grown (OwnI.grown (own_below h hb2) hA2 (by decide) (grow_set _ _ _ _)) (hA2.set_ 1 (.slice A n c)) (by decide) (grow_set _ _ _ _)⟩
        have HGR : Hid (w.grownBy ((w2.setCell ⟨g, 1, none⟩ (.slice A n c)).setCell ⟨g, 2, none⟩ (.int .i64 (P : Int))) (some g)) := grow_trans (grow_below hb2) (grow_trans (grow_set _ _ _ _) (grow_set _ _ _ _))
        clear hA hA2 ho h hb2 hU hP h2 hW hq
        go_wp2
        go_returns
        exact ⟨rfl, HNEW.out, HGR.out⟩
      · have hU := upd_no (ss := ss) (st := st) (l := xs) (by rw [hq]; exact h1) (by rw [hq, hP]; exact h3)
        have HNEW : Hid (WSt W w2 g (.slice A2 n2 c2) ((wl 0 xs fr).foldl (upd ss) st)) := by
          have e : (wl 0 xs fr).foldl (upd ss) st = st := by rw [wl, List.foldl_cons, List.foldl_nil, hU]
          unfold Hid
          rw [e]
          exact ⟨vb, by rw [hq]; exact hA2, own_below ho hb2⟩
        have HGR : Hid (w.grownBy w2 (some g)) := grow_below hb2
        clear hA hA2 ho h hb2 hU hP h2 hW hq
        go_wp2
        go_returns
        exact ⟨rfl, HNEW.out, HGR.out⟩
  | succ m ih =>
    intro w A n c xs fr st hm hW h hnx hx hlen hst hf1 hf2
    have HX := hide hx
    have HH := hide h
    have HW := hide hW
    have HST := hide hst
    rw [show ((m + 1 : Nat) : Int) = (m : Int) + 1 from by omega]
    have hz2 : ((m : Int) + 1 == 0) = false := beq_eq_false_iff_ne.2 (by omega)
    clear hx h hW hst
    subst hnx
    go_enter Try.func40, Try.ntmps40
    go_wp2
    go_loopw [9] (fun i wr => ∃ (k : Nat) (st' : Option (List Int × Nat)), 1 ≤ k ∧ k ≤ 31 ∧ i = .int .i64 k ∧ WSt W wr g (.slice A2 n2 c2) st' ∧ w.grownBy wr (some g) ∧ (restW m xs k).foldl (upd ss) st' = (wl (m + 1) xs fr).foldl (upd ss) st) (fun i _ => 31 - (intOf i).toNat)
    case atStart => exact ⟨fr, st, hf1, hf2, rfl, HST.out, World.grownBy.refl _ _, by rw [wl_succ]⟩
    case round =>
      obtain ⟨k, st', hk1, hk, rfl, hws, hgr, hF⟩ := hrel
      by_cases hlt : (k : Int) ≤ 30
      · obtain ⟨vb0, hA0, -⟩ := HST.out
        have hown := HH.out.grown hA0 (by decide) hgr
        have hsl : Sl (Value.int .i64) wr A xs.length xs := Sl.of_own hown
        have hWr : Below W.heap.size W wr := HW.out.grown hgr HW.out.size (fun q hq => by cases hq; exact hgW)
        rw [restW_step (by omega), List.foldl_append] at hF
        have HF := hide hF
        have HWS := hide hws
        have HGR := hide hgr
        clear hF hws hgr hown hA0
        go_wp2_with fail
        refine (l00Own_any _ _ _ _ xs hsl (by omega)).mono ?_
        rintro e w2 ⟨v2, rfl, hc2⟩
        go_wp2_with (at_builtin; refine Coll.push Try.underlying24 int64_info rfl (by decide) hc2 rfl (by rw [List.length_map]; omega) rfl _ _ rfl rfl rfl ?_; intro v3 w3 hc3 hg3)
        have hB3 := hc3.below
        have hcW := hc3.since hWr
        have hv3 := hcW.form
        rw [← List.map_singleton (f := Value.int .i64), ← List.map_append] at hcW hv3
        rw [List.length_map, List.length_append, List.length_singleton] at hv3
        obtain ⟨A3, c3, rfl, -, -, -⟩ := hv3
        have hown3 : OwnI W w3 (.slice A3 (xs.length + 1) c3) (xs ++ [(k : Int)]) := by
          have := hcW.own
          rw [List.length_map] at this
          exact this
        have hrec := ih w3 A3 (xs.length + 1) c3 (xs ++ [(k : Int)]) (k + 1) st' (by omega) hcW.below hown3 (by simp) (fun x hx => by
          rcases List.mem_append.1 hx with hx | hx
          · exact HX.out x hx
          · rw [List.mem_singleton] at hx; omega) (by rw [List.length_append, List.length_singleton]; omega) (HWS.out.on hB3) (by omega) (by omega)
        rw [show ((k + 1 : Nat) : Int) = (k : Int) + 1 from by omega] at hrec
        have HB3 := hide hB3
        clear hcW hown3 hc3 hg3 hB3 hWr hsl hc2
        refine hrec.mono ?_
        rintro e w4 ⟨rfl, hws4, hgr4⟩
        have HWS4 := hide hws4
        have HGR4 := hide hgr4
        clear hrec hws4 hgr4
        go_wp2
        go_roundw
        case rel => exact ⟨k + 1, _, by omega, by omega, by go_num, HWS4.out, grow_trans (grow_trans HGR.out (grow_below HB3.out)) HGR4.out, HF.out⟩
        case measure => simp [intOf]; omega
      · rw [restW_end (by omega), List.foldl_nil] at hF
        have HF := hide hF
        clear hF
        go_wp2
        go_returns
        exact ⟨rfl, by rw [← HF.out]; exact hws, hgr⟩

set_option maxHeartbeats 1000000 in
theorem BestStops_S (w : World) (A : Option Addr) (n c : Nat) (ss : List ByteArray) (many : Int) (h : Sl Value.string w A n ss) (hu : ∀ s ∈ ss, (s.size : Int) ≤ 1048576) :
    Calls Try.prog 13 #[.slice A n c, .int .i64 many] w fun e w' => ∃ v, e = .returned (.tuple #[v, .int .i64 (bestStops ss many).2.1, .int .i64 (bestStops ss many).2.2]) ∧ Coll w w' 2 v ((bestStops ss many).1.map (Value.int .i64)) := by
  have hn := h.max
  replace hu := hide hu
  have hnil : Coll w w 2 (.slice none 0 0) [] := Coll.nil_ (Below.refl _ _)
  by_cases h0 : rowsC ss = 0
  · obtain ⟨q1, q2, q3⟩ := rowsC_ok h0
    rw [h.len] at q1
    by_cases hm : inB many 0 2 = true
    · have HR := hide (bestStops_ok h0 hm)
      have HS := hide q2
      have hmb := inB_iff.1 hm
      obtain ⟨m, rfl⟩ : ∃ m : Nat, many = m := ⟨many.toNat, by omega⟩
      clear q2 h0
      go_enter Try.func13, Try.ntmps13
      go_wp2_with (first
        | (go_at_call 38; refine (l11Rows_any _ _ _ _ ss h hu.out).mono ?_; rintro e w2 ⟨rfl, rfl⟩)
        | (go_at_call 39; refine (l00In_any _ _ _ _).mono ?_; rintro e w1 ⟨rfl, rfl⟩))
      have hba : Below w.heap.size w (w.alloc (.cells #[.slice A n c, .slice none 0 0, .int .i64 (-1)] 51)) := (Below.refl _ _).alloc (Nat.le_refl _) _
      have hbb : Below w.heap.size w ((w.alloc (.cells #[.slice A n c, .slice none 0 0, .int .i64 (-1)] 51)).alloc (.cells #[] 2)) := hba.alloc hba.size _
      have hown : OwnI w ((w.alloc (.cells #[.slice A n c, .slice none 0 0, .int .i64 (-1)] 51)).alloc (.cells #[] 2)) (.slice (some ⟨w.heap.size + 1, 0, none⟩) 0 0) [] := by simpa using own_lit _ hba [] (by simp)
      have hst : WSt w ((w.alloc (.cells #[.slice A n c, .slice none 0 0, .int .i64 (-1)] 51)).alloc (.cells #[] 2)) w.heap.size (.slice A n c) none := ⟨.slice none 0 0, (Arr.new_ w 51 [.slice A n c, .slice none 0 0, .int .i64 (-1)]).lay _, World.ownsRow_nil _ _ _ _⟩
      have hwk := walk_any ss n q1 HS.out w A c h w.heap.size (Nat.le_refl _) m _ _ 0 0 [] 1 none (by omega) hbb hown rfl (by simp) (by simp; omega) hst (by omega) (by omega)
      rw [show ((1 : Nat) : Int) = 1 from rfl] at hwk
      have HBB := hide hbb
      have HBR : Hid ((wl m [] 1).foldl (upd ss) none = bestR ss (m : Int)) := by unfold Hid bestR; rw [Int.toNat_natCast]
      clear hba hbb hown hst hnil
      refine hwk.mono ?_
      rintro e w4 ⟨rfl, hws, hgr⟩
      rw [HBR.out] at hws
      obtain ⟨vb, hA, ho⟩ := hws
      have hc1 : w4.cell? ⟨w.heap.size, 1, none⟩ = some vb := hA.cell 1
      have hc2 : w4.cell? ⟨w.heap.size, 2, none⟩ = some (.int .i64 (leastV (bestR ss (m : Int)))) := hA.cell 2
      have HC : Hid (Coll w w4 2 vb ((bestL (bestR ss (m : Int))).map (Value.int .i64))) := by
        refine ⟨by rw [List.length_map]; exact ho, ?_⟩
        exact HBB.out.grown hgr HBB.out.size (fun q hq => by cases hq; exact Nat.le_refl _)
      clear hwk hgr hA ho
      go_wp2
      go_quiet (fail)
      go_wp2
      go_ret3
      exact ⟨_, by rw [HR.out]; rfl, by rw [HR.out]; exact HC.out.draw _⟩
    · have HR := hide (bestStops_many h0 (by simpa using hm))
      replace hm : inB many 0 2 = false := by simpa using hm
      clear h0
      go_enter Try.func13, Try.ntmps13
      go_wp2_with (first
        | (go_at_call 38; refine (l11Rows_any _ _ _ _ ss h hu.out).mono ?_; rintro e w2 ⟨rfl, rfl⟩)
        | (go_at_call 39; refine (l00In_any _ _ _ _).mono ?_; rintro e w1 ⟨rfl, rfl⟩))
      go_ret3
      exact ⟨_, by rw [HR.out]; rfl, by rw [HR.out]; exact hnil⟩
  · rcases rowsC_bad h0 with ⟨k0, k1⟩ | ⟨k0, k1, k2⟩
    all_goals
      rw [h.len] at k1
      have HR := hide (bestStops_bad (many := many) k0 (by decide))
      clear h0 k0
      go_enter Try.func13, Try.ntmps13
      go_wp2_with (first
        | (go_at_call 38; refine (l11Rows_any _ _ _ _ ss h hu.out).mono ?_; rintro e w2 ⟨rfl, rfl⟩)
        | (go_at_call 39; refine (l00In_any _ _ _ _).mono ?_; rintro e w1 ⟨rfl, rfl⟩))
      go_ret3
      exact ⟨_, by rw [HR.out]; rfl, by rw [HR.out]; exact hnil⟩
end Go.Proofs.Ytdcbdogcglinkaa
