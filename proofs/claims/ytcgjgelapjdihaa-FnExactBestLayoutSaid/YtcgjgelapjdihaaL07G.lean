/-
  DearestPair: what it returns, for all arguments.
-/
import Derived.Test.YtcgjgelapjdihaaL07F
import Derived.Test.YtcgjgelapjdihaaL07E
import Derived.Deep.RegionLaw
namespace Go.Proofs.Ytcgjgelapjdihaa
set_option maxRecDepth 100000
open Go.RowKit

theorem strokeCost_any (w : World) (A : Option Addr) (n c : Nat) (xs : List Pl) (i j : Nat) (h : Sl3 (Value.int .i64) w A n xs) (hi : i < n) (hj : j < n) (ho : ∀ x ∈ xs, OkP x) :
    Calls Try.prog 31 #[.slice A n c, .int .i64 i, .int .i64 j] w fun e w' => e = .returned (.int .i64 (costAt xs i j)) ∧ Below w.heap.size w w' := by
  have hil : i < xs.length := by rw [h.len]; exact hi
  have hjl : j < xs.length := by rw [h.len]; exact hj
  have hxi : xs[i]? = some xs[i] := List.getElem?_eq_getElem hil
  have hxj : xs[j]? = some xs[j] := List.getElem?_eq_getElem hjl
  rw [costAt_eq hxi hxj]
  by_cases hij : i = j
  · subst hij
    have e : costOf xs[i] xs[i] (i == i) = xs[i].2.2 := by unfold costOf; rw [if_pos (by simp)]
    rw [e]
    exact strokeCost_same w A n c xs i _ h hi hxi (ho _ (List.getElem_mem _))
  · have e : (i == j) = false := beq_eq_false_iff_ne.2 hij
    rw [e]
    exact strokeCost_diff w A n c xs i j _ _ h hi hj hij hxi hxj (ho _ (List.getElem_mem _)) (ho _ (List.getElem_mem _))
def bestGo : Nat → Nat → Int → List Int → Nat
  | _, b, _, [] => b
  | i, b, m, c :: cs => if m < c then bestGo (i + 1) i c cs else bestGo (i + 1) b m cs
def dearR (xs : List Pl) (s t : ByteArray) : Int × Int :=
  if codeB xs s t = 0 then (if t.size < 2 then (0, 3) else ((bestGo 1 1 (-1) ((costsGo xs none (psOf s t)).drop 1) : Int), 0)) else (0, codeB xs s t)
theorem costsGo_len (xs : List Pl) (ps : List Nat) : ∀ o, (costsGo xs o ps).length = ps.length := by
  induction ps with
  | nil => intro o; cases o <;> rfl
  | cons p ps ih => intro o; cases o <;> simp [costsGo, ih]
theorem costsGo_some {xs : List Pl} {ps : List Nat} : ∀ {k i p q : Nat}, (if k = 0 then some i else ps[k - 1]?) = some p → ps[k]? = some q → (costsGo xs (some i) ps)[k]? = some (costAt xs p q) := by
  induction ps with
  | nil => intro k i p q _ h; simp at h
  | cons a ps ih =>
    intro k i p q h1 h2
    rw [costsGo]
    cases k with
    | zero => simp at h1 h2; subst h1; subst h2; rfl
    | succ k =>
      rw [if_neg (by omega), Nat.add_sub_cancel] at h1
      simp only [List.getElem?_cons_succ] at h2 ⊢
      refine ih ?_ h2
      cases k with
      | zero => rw [if_pos rfl]; simpa using h1
      | succ k => rw [if_neg (by omega), Nat.add_sub_cancel]; simpa using h1
theorem costsGo_get {xs : List Pl} {ps : List Nat} {k p q : Nat} (hk : 0 < k) (h1 : ps[k - 1]? = some p) (h2 : ps[k]? = some q) : (costsGo xs none ps)[k]? = some (costAt xs p q) := by
  cases ps with
  | nil => simp at h2
  | cons a ps =>
    rw [costsGo]
    obtain ⟨k, rfl⟩ : ∃ j, k = j + 1 := ⟨k - 1, by omega⟩
    simp only [List.getElem?_cons_succ] at h2 ⊢
    rw [Nat.add_sub_cancel] at h1
    refine costsGo_some ?_ h2
    cases k with
    | zero => rw [if_pos rfl]; simpa using h1
    | succ k => rw [if_neg (by omega), Nat.add_sub_cancel]; simpa using h1
structure Asked (xs : List Pl) (n : Nat) (s t : ByteArray) : Prop where
  ok : ∀ x ∈ xs, OkP x
  len : xs.length = n
  n6 : n ≤ 6
  lay : s.size = n
  t400 : t.size ≤ 400
  nd : (by_ s).Nodup
  ps : ∀ k, k < t.size → ∃ q, (psOf s t)[k]? = some q ∧ q < n
  pl : placesL (by_ s) (by_ t) = (psOf s t).map fun q : Nat => (q : Int)
theorem asked {xs : List Pl} {n : Nat} {s t : ByteArray} (hn : xs.length = n) (h : codeB xs s t = 0) : Asked xs n s t := by
  obtain ⟨k1, k2, k3, k4⟩ := codeB_ok h
  obtain ⟨l1, l2, l3⟩ := okLay_facts k2
  have hin := allIn_all k3
  obtain ⟨o1, o2, o3⟩ := okBoard_facts k1
  refine ⟨o1, hn, by omega, by omega, k4, l3, fun k hk => ?_, ?_⟩
  · have hx := by_get hk
    obtain ⟨q, hq⟩ := hin _ (List.mem_of_getElem? hx)
    refine ⟨q, ?_, ?_⟩
    · unfold psOf; rw [List.getElem?_map, hx]; simp [hq]
    · have := (idx_lt hq).1; rw [by_len] at this; omega
  · unfold placesL psOf
    rw [List.map_map]
    apply List.map_congr_left
    intro c hc
    obtain ⟨q, hq⟩ := hin c hc
    simp [hq, idV]
def strokesR (xs : List Pl) (s t : ByteArray) : List Int := if codeB xs s t = 0 then placesL (by_ s) (by_ t) else []
set_option maxHeartbeats 1600000 in
theorem strokesOf_any (w : World) (A : Option Addr) (n c : Nat) (xs : List Pl) (s t : ByteArray) (h : Sl3 (Value.int .i64) w A n xs) (hs : s.size ≤ 1048576) (ht : t.size ≤ 1048576) :
    Calls Try.prog 12 #[.slice A n c, .string s, .string t] w fun e w' => ∃ v, e = .returned (.tuple #[v, .int .i64 (codeB xs s t)]) ∧ Coll w w' 2 v ((strokesR xs s t).map (Value.int .i64)) := by
  have HL := hide h.len
  by_cases h1 : okBoard xs = true
  · by_cases h2 : okLay s n = true
    · have hnd := (okLay_facts h2).2.2
      by_cases h3 : allIn (by_ s) (by_ t) = true
      · have HP : Hid (placesR s t = (placesL (by_ s) (by_ t), decide ((t.size : Int) ≤ 400))) := by unfold Hid placesR; rw [if_pos h3]
        by_cases h4 : t.size ≤ 400
        · have HC : Hid (codeB xs s t = 0) := by unfold Hid codeB; rw [if_pos h1, HL.out, if_pos ⟨h2, h3, h4⟩]
          have HS : Hid (strokesR xs s t = placesL (by_ s) (by_ t)) := by unfold Hid strokesR; rw [if_pos HC.out]
          have h4d : decide ((t.size : Int) ≤ 400) = true := by rw [decide_eq_true_eq]; omega
          replace h1 := hide h1
          replace h2 := hide h2
          replace hnd := hide hnd
          clear h3
          go_enter Try.func12, Try.ntmps12
          go_wp2_with (first
            | (go_at_call 24; refine (ValidBoard_any _ _ _ _ xs h).mono ?_; rintro e w1 ⟨rfl, hb1⟩; rw [h1.out])
            | (go_at_call 25; refine (isBoardLayout_any _ _ _ _ s hs).mono ?_; rintro e w2 ⟨rfl, hb2⟩; rw [h2.out]))
          refine (placesOf_any _ s t hs ht hnd.out).mono ?_
          rintro e w3 ⟨v3, rfl, hc3⟩
          rw [HP.out] at hc3 ⊢
          have HC3 := hide ((hc3.since hb2).since hb1)
          clear hc3
          go_wp2
          go_ret2
          exact ⟨_, by rw [HC.out]; rfl, by rw [HS.out]; exact HC3.out⟩
        · have HC : Hid (codeB xs s t = 2) := by unfold Hid codeB; rw [if_pos h1, HL.out, if_neg (fun e => h4 e.2.2)]
          have HS : Hid (strokesR xs s t = []) := by unfold Hid strokesR; rw [if_neg (by rw [HC.out]; decide)]
          have h4d : decide ((t.size : Int) ≤ 400) = false := by rw [decide_eq_false_iff_not]; omega
          replace h1 := hide h1
          replace h2 := hide h2
          replace hnd := hide hnd
          clear h3
          go_enter Try.func12, Try.ntmps12
          go_wp2_with (first
            | (go_at_call 24; refine (ValidBoard_any _ _ _ _ xs h).mono ?_; rintro e w1 ⟨rfl, hb1⟩; rw [h1.out])
            | (go_at_call 25; refine (isBoardLayout_any _ _ _ _ s hs).mono ?_; rintro e w2 ⟨rfl, hb2⟩; rw [h2.out]))
          refine (placesOf_any _ s t hs ht hnd.out).mono ?_
          rintro e w3 ⟨v3, rfl, hc3⟩
          have hB3 := hide (Below.step (Below.step hb1 hb2) hc3.below)
          rw [HP.out]
          clear hc3
          go_wp2
          go_ret2
          exact ⟨_, by rw [HC.out]; rfl, by rw [HS.out]; exact Coll.nil_ hB3.out⟩
      · have HP : Hid (placesR s t = ([], false)) := by unfold Hid placesR; rw [if_neg h3]
        have HC : Hid (codeB xs s t = 2) := by unfold Hid codeB; rw [if_pos h1, HL.out, if_neg (fun e => h3 e.2.1)]
        have HS : Hid (strokesR xs s t = []) := by unfold Hid strokesR; rw [if_neg (by rw [HC.out]; decide)]
        replace h1 := hide h1
        replace h2 := hide h2
        replace hnd := hide hnd
        clear h3
        go_enter Try.func12, Try.ntmps12
        go_wp2_with (first
          | (go_at_call 24; refine (ValidBoard_any _ _ _ _ xs h).mono ?_; rintro e w1 ⟨rfl, hb1⟩; rw [h1.out])
          | (go_at_call 25; refine (isBoardLayout_any _ _ _ _ s hs).mono ?_; rintro e w2 ⟨rfl, hb2⟩; rw [h2.out]))
        refine (placesOf_any _ s t hs ht hnd.out).mono ?_
        rintro e w3 ⟨v3, rfl, hc3⟩
        have hB3 := hide (Below.step (Below.step hb1 hb2) hc3.below)
        rw [HP.out]
        clear hc3
        go_wp2
        go_ret2
        exact ⟨_, by rw [HC.out]; rfl, by rw [HS.out]; exact Coll.nil_ hB3.out⟩
    · have HC : Hid (codeB xs s t = 2) := by unfold Hid codeB; rw [if_pos h1, HL.out, if_neg (fun e => h2 e.1)]
      have HS : Hid (strokesR xs s t = []) := by unfold Hid strokesR; rw [if_neg (by rw [HC.out]; decide)]
      replace h1 := hide h1
      replace h2 : Hid (okLay s n = false) := by unfold Hid; simpa using h2
      go_enter Try.func12, Try.ntmps12
      go_wp2_with (first
        | (go_at_call 24; refine (ValidBoard_any _ _ _ _ xs h).mono ?_; rintro e w1 ⟨rfl, hb1⟩; rw [h1.out])
        | (go_at_call 25; refine (isBoardLayout_any _ _ _ _ s hs).mono ?_; rintro e w2 ⟨rfl, hb2⟩; rw [h2.out]))
      go_ret2
      exact ⟨_, by rw [HC.out]; rfl, by rw [HS.out]; exact Coll.nil_ (Below.step hb1 hb2)⟩
  · have HC : Hid (codeB xs s t = 1) := by unfold Hid codeB; rw [if_neg h1]
    have HS : Hid (strokesR xs s t = []) := by unfold Hid strokesR; rw [if_neg (by rw [HC.out]; decide)]
    replace h1 : Hid (okBoard xs = false) := by unfold Hid; simpa using h1
    go_enter Try.func12, Try.ntmps12
    go_wp2_with (go_at_call 24; refine (ValidBoard_any _ _ _ _ xs h).mono ?_; rintro e w1 ⟨rfl, hb1⟩; rw [h1.out])
    go_ret2
    exact ⟨_, by rw [HC.out]; rfl, by rw [HS.out]; exact Coll.nil_ hb1⟩
end Go.Proofs.Ytcgjgelapjdihaa
