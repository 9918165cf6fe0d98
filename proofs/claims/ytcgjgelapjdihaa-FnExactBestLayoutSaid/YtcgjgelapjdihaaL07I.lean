/-
  The sum of costs by the reference; the cost of strokes at places by the program.
-/
import Derived.Test.YtcgjgelapjdihaaL07G
namespace Go.Proofs.Ytcgjgelapjdihaa
set_option maxRecDepth 100000
open Go.RowKit

def sumC (l : List Int) : Int := l.foldl (· + ·) 0
theorem foldl_add (l : List Int) : ∀ a, l.foldl (· + ·) a = a + sumC l := by
  unfold sumC
  induction l with
  | nil => intro a; simp
  | cons x l ih => intro a; rw [List.foldl_cons, List.foldl_cons, ih, ih (0 + x)]; omega
theorem sumC_snoc (l : List Int) (x : Int) : sumC (l ++ [x]) = sumC l + x := by unfold sumC; rw [List.foldl_append]; rfl
theorem sumC_cons (l : List Int) (x : Int) : sumC (x :: l) = x + sumC l := by
  have := foldl_add l (0 + x)
  unfold sumC at this ⊢
  rw [List.foldl_cons, this]; omega
theorem sumC_take {l : List Int} {k : Nat} {x : Int} (h : l[k]? = some x) : sumC (l.take k) + x = sumC (l.take (k + 1)) := by
  obtain ⟨h1, h2⟩ := List.getElem?_eq_some_iff.1 h
  rw [List.take_succ_eq_append_getElem h1, sumC_snoc, h2]
theorem sumC_bd {l : List Int} (h : ∀ x ∈ l, 0 ≤ x ∧ x ≤ 75) : 0 ≤ sumC l ∧ sumC l ≤ 75 * (l.length : Int) := by
  induction l with
  | nil => exact ⟨by decide, by decide⟩
  | cons x l ih =>
    have h1 := ih fun y hy => h y (List.mem_cons_of_mem _ hy)
    have h2 := h x List.mem_cons_self
    rw [sumC_cons, List.length_cons]
    omega
theorem sumC_bdt {l : List Int} (h : ∀ x ∈ l, 0 ≤ x ∧ x ≤ 75) {k : Nat} (hk : k ≤ 400) : 0 ≤ sumC (l.take k) ∧ sumC (l.take k) ≤ 30000 := by
  have := sumC_bd (l := l.take k) fun x hx => h x (List.mem_of_mem_take hx)
  have hl : (l.take k).length ≤ k := by rw [List.length_take]; omega
  omega
set_option maxHeartbeats 400000 in
theorem l00Sum_any (w : World) (A : Option Addr) (n c : Nat) (xs : List Int) (h : Sl (Value.int .i64) w A n xs) (hb : ∀ x ∈ xs, 0 ≤ x ∧ x ≤ 75) (hl : n ≤ 400) :
    Calls Try.prog 22 #[.slice A n c] w fun e w' => e = .returned (.int .i64 (sumC xs)) ∧ w = w' := by
  have HB := hide hb
  clear hb
  go_enter Try.func22, Try.ntmps22
  go_wp2
  go_loop [3, 4] (fun sv i => ∃ k : Nat, k ≤ n ∧ i = .int .i64 k ∧ sv = .int .i64 (sumC (xs.take k))) (fun _ i => n - (intOf i).toNat)
  case atStart => exact ⟨0, Nat.zero_le _, rfl, by simp [sumC]⟩
  case round =>
    obtain ⟨k, hk, rfl, rfl⟩ := hrel
    have hbd := sumC_bdt HB.out (show k ≤ 400 by omega)
    by_cases hlt : k < n
    · obtain ⟨b, o, x, rfl, hx, hc⟩ := h.at_ (Below.refl _ _) hlt
      have hxb := HB.out x (List.mem_of_getElem? hx)
      have H2 := hide (sumC_take hx)
      clear hx
      go_wp2
      go_round
      case rel => exact ⟨k + 1, by omega, by go_num, by rw [H2.out]⟩
      case measure => simp [intOf]; omega
    · have H2 : Hid (sumC (xs.take k) = sumC xs) := by unfold Hid; rw [List.take_of_length_le (by have := h.len; omega)]
      go_wp2
      go_ret
      exact ⟨ret_int H2.out, rfl⟩

theorem costsGo_all {xs : List Pl} (ho : ∀ x ∈ xs, OkP x) : ∀ {ps : List Nat} {o : Option Nat}, (∀ q ∈ ps, q < xs.length) → (∀ p, o = some p → p < xs.length) → ∀ z ∈ costsGo xs o ps, 0 ≤ z ∧ z ≤ 75 := by
  intro ps
  induction ps with
  | nil => intro o _ _ z hz; cases o <;> simp [costsGo] at hz
  | cons p ps ih =>
    intro o h1 h2 z hz
    have hp := h1 p List.mem_cons_self
    have h3 : ∀ q ∈ ps, q < xs.length := fun q hq => h1 q (List.mem_cons_of_mem _ hq)
    cases o with
    | none =>
      rw [costsGo] at hz
      rcases List.mem_cons.1 hz with rfl | hz
      · rw [getD_of (List.getElem?_eq_getElem hp)]
        have := (ho _ (List.getElem_mem hp)).2.2
        omega
      · exact ih h3 (fun q hq => by cases hq; exact hp) z hz
    | some a =>
      rw [costsGo] at hz
      rcases List.mem_cons.1 hz with rfl | hz
      · exact costAt_bd (h2 a rfl) hp ho
      · exact ih h3 (fun q hq => by cases hq; exact hp) z hz

set_option maxHeartbeats 1600000 in
theorem placesCost_any (w : World) (A A2 : Option Addr) (n c c2 m : Nat) (xs : List Pl) (ps : List Nat) (h : Sl3 (Value.int .i64) w A n xs) (h2 : Sl (Value.int .i64) w A2 m (ps.map fun q : Nat => (q : Int)))
    (hp : ∀ q ∈ ps, q < n) (hl : m ≤ 400) (ho : ∀ x ∈ xs, OkP x) :
    Calls Try.prog 16 #[.slice A n c, .slice A2 m c2] w fun e w' => e = .returned (.int .i64 (sumC (costsGo xs none ps))) ∧ Below w.heap.size w w' := by
  have hml : ps.length = m := by have := h2.len; rwa [List.length_map] at this
  obtain ⟨cs, hcs⟩ : ∃ cs, costsGo xs none ps = cs := ⟨_, rfl⟩
  have hcl : cs.length = m := by rw [← hcs, costsGo_len, hml]
  have HB : Hid (∀ z ∈ cs, 0 ≤ z ∧ z ≤ 75) := by
    unfold Hid
    rw [← hcs]
    exact costsGo_all ho (fun q hq => by rw [h.len]; exact hp q hq) (fun p hp => by cases hp)
  have HO := hide ho
  have HP := hide hp
  have HCS := hide hcs
  have HCL := hide hcl
  have HML := hide hml
  rw [hcs]
  clear ho hp hcs hcl hml
  go_enter Try.func16, Try.ntmps16
  go_wp2
  go_loopw [5, 10] (fun sv i wr => ∃ k : Nat, k ≤ m ∧ i = .int .i64 k ∧ sv = .int .i64 (sumC (cs.take k)) ∧ Below w.heap.size w wr) (fun _ i _ => m - (intOf i).toNat)
  case atStart => exact ⟨0, Nat.zero_le _, rfl, by simp [sumC], Below.refl _ _⟩
  case round =>
    obtain ⟨k, hk, rfl, rfl, hb⟩ := hrel
    have hbd := sumC_bdt HB.out (show k ≤ 400 by omega)
    by_cases hlt : k < m
    · have hk2 : k < ps.length := by rw [HML.out]; exact hlt
      have hq : ps[k]? = some ps[k] := List.getElem?_eq_getElem hk2
      obtain ⟨q, hqe⟩ : ∃ q, ps[k] = q := ⟨_, rfl⟩
      rw [hqe] at hq
      have hqn := HP.out q (List.mem_of_getElem? hq)
      obtain ⟨b4, o4, x4, rfl, hx4, hc4⟩ := h2.at_ hb hlt
      have hx4' : x4 = (q : Int) := by rw [List.getElem?_map, hq] at hx4; simpa using hx4.symm
      subst hx4'
      by_cases hk0 : k = 0
      · have hkd : ((k : Int) == 0) = true := by simp [hk0]
        obtain ⟨b, o, x, y, z, rfl, hbl, hx, c0, c1, c2⟩ := h.at_ hb hqn
        have hy : cs[k]? = some z := by
          rw [← HCS.out]
          subst hk0
          cases ps with
          | nil => simp at hq
          | cons a l =>
            simp at hq
            subst hq
            rw [costsGo, getD_of hx]; rfl
        have hzb := HB.out z (List.mem_of_getElem? hy)
        have H2 := hide (sumC_take hy)
        clear hy hx hq hqe hx4 hk0
        go_wp2
        go_roundw
        case rel => exact ⟨k + 1, by omega, by go_num, by rw [H2.out], hb⟩
        case measure => simp [intOf]; omega
      · have hkd : ((k : Int) == 0) = false := beq_eq_false_iff_ne.2 (by omega)
        have hk3 : k - 1 < ps.length := by omega
        have hp1 : ps[k - 1]? = some ps[k - 1] := List.getElem?_eq_getElem hk3
        obtain ⟨p, hpe⟩ : ∃ q, ps[k - 1] = q := ⟨_, rfl⟩
        rw [hpe] at hp1
        have hpn := HP.out p (List.mem_of_getElem? hp1)
        have hc5 := h2.cell hb (k := k - 1) (x := (p : Int)) (by rw [List.getElem?_map, hp1]; rfl)
        have hy : cs[k]? = some (costAt xs p q) := by rw [← HCS.out]; exact costsGo_get (by omega) hp1 hq
        obtain ⟨y, hye⟩ : ∃ y, costAt xs p q = y := ⟨_, rfl⟩
        rw [hye] at hy
        have HY := hide hye
        have hyb := HB.out y (List.mem_of_getElem? hy)
        have H2 := hide (sumC_take hy)
        have hki : ((k : Int) - 1).toNat = k - 1 := by omega
        have hk0i : (0 : Int) ≤ (k : Int) - 1 := by omega
        have hk1i : (k : Int) - 1 < (m : Int) := by omega
        have HW1 := hide (h.on hb)
        clear hy hp1 hpe hq hqe hx4 hye
        go_wp2_with (go_at_call 31; refine (strokeCost_any _ _ _ _ xs p q HW1.out hpn hqn HO.out).mono ?_; rintro e w5 ⟨rfl, hb5⟩; rw [HY.out])
        go_roundw
        case rel => exact ⟨k + 1, by omega, by go_num, by rw [H2.out], Below.step hb hb5⟩
        case measure => simp [intOf]; omega
    · have H2 : Hid (sumC (cs.take k) = sumC cs) := by unfold Hid; rw [List.take_of_length_le (by rw [HCL.out]; omega)]
      go_wp2
      go_ret
      exact ⟨ret_int H2.out, hb⟩
end Go.Proofs.Ytcgjgelapjdihaa
