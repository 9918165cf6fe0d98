/-
  The least numbers of moves, reckoned; the least moves; plain law.
-/
import Derived.Test.YtdcbdogcglinkaaL11P
namespace Go.Proofs.Ytdcbdogcglinkaa
set_option maxRecDepth 100000
open Go.RowKit

/-- Is column `to` at most d moves behind column c? -/
def within (xs : List Int) (to : Nat) : Nat → Nat → Bool
  | 0, c => c == to
  | d + 1, c => c == to || ([35, 60, 62] : List UInt8).any fun m => match mvTo xs c m with
      | some t => within xs to d t.toNat
      | none => false
theorem within_step {xs : List Int} (hx : ∀ x ∈ xs, 1 ≤ x ∧ x ≤ 30) {to d c : Nat} (hc : c ≤ 30) : within xs to (d + 1) c = true ↔ c = to ∨ ∃ t : Nat, Edge xs c t ∧ within xs to d t = true := by
  have key : ∀ m : UInt8, ((match mvTo xs c m with
      | some t => within xs to d t.toNat
      | none => false) = true) ↔ ∃ t : Nat, mvTo xs c m = some (t : Int) ∧ within xs to d t = true := by
    intro m
    cases h : mvTo xs c m with
    | none => simp
    | some t =>
      have hb := mvTo_bd hx ⟨by omega, by omega⟩ h
      obtain ⟨tn, rfl⟩ : ∃ tn : Nat, t = tn := ⟨t.toNat, by omega⟩
      simp only [Int.toNat_natCast]
      constructor
      · intro h1; exact ⟨tn, rfl, h1⟩
      · rintro ⟨t2, h1, h2⟩
        have e : tn = t2 := by simp at h1; omega
        rw [e]; exact h2
  rw [within, Bool.or_eq_true, beq_iff_eq, List.any_cons, List.any_cons, List.any_cons, List.any_nil, Bool.or_false, Bool.or_eq_true, Bool.or_eq_true, key, key, key]
  unfold Edge
  constructor
  · rintro (h | ⟨t, h1, h2⟩ | ⟨t, h1, h2⟩ | ⟨t, h1, h2⟩)
    · exact .inl h
    · exact .inr ⟨t, .inl h1, h2⟩
    · exact .inr ⟨t, .inr (.inl h1), h2⟩
    · exact .inr ⟨t, .inr (.inr h1), h2⟩
  · rintro (h | ⟨t, h1 | h1 | h1, h2⟩)
    · exact .inl h
    · exact .inr (.inl ⟨t, h1, h2⟩)
    · exact .inr (.inr (.inl ⟨t, h1, h2⟩))
    · exact .inr (.inr (.inr ⟨t, h1, h2⟩))
def leastW (xs : List Int) (to c : Nat) : Nat → Nat → Nat
  | 0, d => d
  | n + 1, d => if within xs to d c = true then d else leastW xs to c n (d + 1)
theorem leastW_le {xs : List Int} {to c d0 : Nat} (h : within xs to d0 c = true) : ∀ n d, d ≤ d0 → leastW xs to c n d ≤ d0 := by
  intro n
  induction n with
  | zero => intro d hd; exact hd
  | succ n ih =>
    intro d hd
    rw [leastW]
    by_cases hw : within xs to d c = true
    · rw [if_pos hw]; exact hd
    · rw [if_neg hw]
      refine ih (d + 1) ?_
      have : d ≠ d0 := fun e => hw (e ▸ h)
      omega
theorem leastW_hit {xs : List Int} {to c d0 : Nat} (h : within xs to d0 c = true) : ∀ n d, d ≤ d0 → d0 < d + n → within xs to (leastW xs to c n d) c = true := by
  intro n
  induction n with
  | zero => intro d h1 h2; omega
  | succ n ih =>
    intro d hd hn
    rw [leastW]
    by_cases hw : within xs to d c = true
    · rw [if_pos hw]; exact hw
    · rw [if_neg hw]
      have : d ≠ d0 := fun e => hw (e ▸ h)
      exact ih (d + 1) (by omega) (by omega)
/-- The least number of moves from column c to column `to`. -/
def dist (xs : List Int) (to c : Nat) : Nat := leastW xs to c 31 0
theorem within_near {xs : List Int} (hx : ∀ x ∈ xs, 1 ≤ x ∧ x ≤ 30) {to : Nat} (hto : to ≤ 30) : ∀ e c, c ≤ 30 → (c + e = to ∨ to + e = c) → within xs to e c = true := by
  intro e
  induction e with
  | zero =>
    intro c hc h
    have : c = to := by omega
    rw [within, beq_iff_eq]; exact this
  | succ e ih =>
    intro c hc h
    rw [within_step hx hc]
    right
    rcases h with h | h
    · exact ⟨c + 1, edge_up (by omega), ih (c + 1) (by omega) (by omega)⟩
    · exact ⟨c - 1, edge_down (by omega), ih (c - 1) (by omega) (by omega)⟩
theorem dist_hit {xs : List Int} (hx : ∀ x ∈ xs, 1 ≤ x ∧ x ≤ 30) {to c : Nat} (hto : to ≤ 30) (hc : c ≤ 30) : within xs to (dist xs to c) c = true := by
  by_cases hcc : c ≤ to
  · exact leastW_hit (within_near hx hto (to - c) c hc (by omega)) 31 0 (by omega) (by omega)
  · exact leastW_hit (within_near hx hto (c - to) c hc (by omega)) 31 0 (by omega) (by omega)
theorem dist_far {xs : List Int} (hx : ∀ x ∈ xs, 1 ≤ x ∧ x ≤ 30) {to : Nat} (hto : to ≤ 30) : Far xs to (dist xs to) := by
  have hle : ∀ c t, c ≤ 30 → Edge xs c t → dist xs to c ≤ dist xs to t + 1 := fun c t hc he =>
    leastW_le ((within_step hx hc).2 (.inr ⟨t, he, dist_hit hx hto (edge_lt hx hc he)⟩)) 31 0 (Nat.zero_le _)
  refine ⟨?_, hle, fun c hc hne => ?_⟩
  · have h0 : within xs to 0 to = true := by rw [within, beq_iff_eq]
    have := leastW_le h0 31 0 (Nat.zero_le _)
    unfold dist; omega
  · have h := dist_hit hx hto hc
    cases hd : dist xs to c with
    | zero => rw [hd, within, beq_iff_eq] at h; exact absurd h hne
    | succ d =>
      rw [hd, within_step hx hc] at h
      rcases h with h | ⟨t, he, ht⟩
      · exact absurd h hne
      · refine ⟨t, he, ?_⟩
        have h1 : dist xs to t ≤ d := leastW_le ht 31 0 (Nat.zero_le _)
        have h2 := hle c t hc he
        omega

/-! ### the moves -/
/-- The column behind move m, if it is one nearer. -/
def tryMv (xs : List Int) (F : Nat → Nat) (c : Nat) (m : UInt8) : Option Nat := match mvTo xs c m with
  | some t => if F t.toNat + 1 = F c then some t.toNat else none
  | none => none
theorem tryMv_none {xs : List Int} {F : Nat → Nat} {c : Nat} {m : UInt8} (h : mvTo xs c m = none) : tryMv xs F c m = none := by unfold tryMv; rw [h]
theorem tryMv_yes {xs : List Int} {F : Nat → Nat} {c t : Nat} {m : UInt8} (h : mvTo xs c m = some (t : Int)) (hf : F t + 1 = F c) : tryMv xs F c m = some t := by unfold tryMv; rw [h]; simp [hf]
theorem tryMv_no {xs : List Int} {F : Nat → Nat} {c t : Nat} {m : UInt8} (h : mvTo xs c m = some (t : Int)) (hf : ¬ F t + 1 = F c) : tryMv xs F c m = none := by unfold tryMv; rw [h]; simp [hf]
theorem tryMv_form {xs : List Int} (hx : ∀ x ∈ xs, 1 ≤ x ∧ x ≤ 30) {F : Nat → Nat} {c t : Nat} {m : UInt8} (hc : c ≤ 30) (h : tryMv xs F c m = some t) : mvTo xs c m = some (t : Int) ∧ F t + 1 = F c ∧ t ≤ 30 := by
  unfold tryMv at h
  cases hm : mvTo xs c m with
  | none => rw [hm] at h; cases h
  | some z =>
    have hb := mvTo_bd hx ⟨by omega, by omega⟩ hm
    rw [hm] at h
    simp only at h
    by_cases hf : F z.toNat + 1 = F c
    · rw [if_pos hf] at h
      cases h
      exact ⟨by congr 1; omega, hf, by omega⟩
    · rw [if_neg hf] at h; cases h
/-- The first of the three moves, from the j-th on, that is one nearer. -/
def nextMv (xs : List Int) (F : Nat → Nat) (c : Nat) : List UInt8 → Option (UInt8 × Nat)
  | [] => none
  | m :: ms => match tryMv xs F c m with
    | some t => some (m, t)
    | none => nextMv xs F c ms
/-- The least moves from column c. -/
def planN (xs : List Int) (F : Nat → Nat) : Nat → Nat → List UInt8
  | 0, _ => []
  | d + 1, c => match nextMv xs F c [35, 60, 62] with
    | some (m, t) => m :: planN xs F d t
    | none => []
def planOf (xs : List Int) (to c : Nat) : List UInt8 := planN xs (dist xs to) (dist xs to c) c
theorem nextMv_form {xs : List Int} (hx : ∀ x ∈ xs, 1 ≤ x ∧ x ≤ 30) {F : Nat → Nat} {c t : Nat} {m : UInt8} (hc : c ≤ 30) : ∀ ms, nextMv xs F c ms = some (m, t) → m ∈ ms ∧ mvTo xs c m = some (t : Int) ∧ F t + 1 = F c ∧ t ≤ 30 := by
  intro ms
  induction ms with
  | nil => intro h; cases h
  | cons a as' ih =>
    intro h
    rw [nextMv] at h
    cases ht : tryMv xs F c a with
    | some z =>
      rw [ht] at h
      cases h
      exact ⟨List.mem_cons_self .., tryMv_form hx hc ht⟩
    | none =>
      rw [ht] at h
      have := ih h
      exact ⟨List.mem_cons_of_mem _ this.1, this.2⟩
theorem nextMv_none {xs : List Int} {F : Nat → Nat} {c : Nat} : ∀ ms, nextMv xs F c ms = none → ∀ m ∈ ms, tryMv xs F c m = none := by
  intro ms
  induction ms with
  | nil => intro _ m hm; cases hm
  | cons a as' ih =>
    intro h
    rw [nextMv] at h
    cases ht : tryMv xs F c a with
    | some z => rw [ht] at h; cases h
    | none =>
      rw [ht] at h
      intro m hm
      rcases List.mem_cons.1 hm with rfl | hm
      · exact ht
      · exact ih h m hm
theorem nextMv_some {xs : List Int} {to : Nat} {F : Nat → Nat} (hF : Far xs to F) {c : Nat} (hc : c ≤ 30) (h0 : 0 < F c) : ∃ m t, nextMv xs F c [35, 60, 62] = some (m, t) := by
  cases h : nextMv xs F c [35, 60, 62] with
  | some p => exact ⟨p.1, p.2, rfl⟩
  | none =>
    exfalso
    have hn := nextMv_none _ h
    have hne : c ≠ to := fun e => by rw [e, hF.zero] at h0; omega
    obtain ⟨t, he, hf⟩ := hF.has c hc hne
    rcases he with e | e | e
    · have := hn 35 (by simp); rw [tryMv_yes e hf.symm] at this; cases this
    · have := hn 60 (by simp); rw [tryMv_yes e hf.symm] at this; cases this
    · have := hn 62 (by simp); rw [tryMv_yes e hf.symm] at this; cases this
/-- One step of the plan. -/
theorem planN_step {xs : List Int} (hx : ∀ x ∈ xs, 1 ≤ x ∧ x ≤ 30) {F : Nat → Nat} {c t : Nat} {m : UInt8} (hc : c ≤ 30) (h : nextMv xs F c [35, 60, 62] = some (m, t)) : planN xs F (F c) c = m :: planN xs F (F t) t := by
  obtain ⟨_, _, hf, _⟩ := nextMv_form hx hc _ h
  rw [← hf, planN, h]
theorem planN_len {xs : List Int} (hx : ∀ x ∈ xs, 1 ≤ x ∧ x ≤ 30) {to : Nat} {F : Nat → Nat} (hF : Far xs to F) : ∀ d c, c ≤ 30 → F c = d → (planN xs F d c).length = d := by
  intro d
  induction d with
  | zero => intro c _ _; rfl
  | succ d ih =>
    intro c hc hd
    obtain ⟨m, t, h⟩ := nextMv_some hF hc (by omega)
    obtain ⟨_, _, hf, ht⟩ := nextMv_form hx hc _ h
    rw [planN, h]
    simp only [List.length_cons]
    rw [ih t ht (by omega)]
theorem planOf_len {xs : List Int} (hx : ∀ x ∈ xs, 1 ≤ x ∧ x ≤ 30) {to c : Nat} (hto : to ≤ 30) (hc : c ≤ 30) : (planOf xs to c).length = dist xs to c := planN_len hx (dist_far hx hto) _ c hc rfl
theorem dist_le30 {xs : List Int} (hx : ∀ x ∈ xs, 1 ≤ x ∧ x ≤ 30) {to c : Nat} (hto : to ≤ 30) (hc : c ≤ 30) : dist xs to c ≤ 30 := (dist_far hx hto).le30 hto hc
theorem dist_zero {xs : List Int} (hx : ∀ x ∈ xs, 1 ≤ x ∧ x ≤ 30) {to c : Nat} (hto : to ≤ 30) (hc : c ≤ 30) : dist xs to c = 0 ↔ c = to := by
  constructor
  · intro h
    by_cases e : c = to
    · exact e
    · obtain ⟨t, _, h2⟩ := (dist_far hx hto).has c hc e; omega
  · intro e; rw [e]; exact (dist_far hx hto).zero
end Go.Proofs.Ytdcbdogcglinkaa
