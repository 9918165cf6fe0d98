/-
  Plain law of layouts: the depth-first walk over letters in ascending order visits what the chain of next permutations visits, in its order.
-/
import Derived.Test.YtcgjgelapjdihaaL07P
import Derived.Test.YtcgjgelapjdihaaTexts
namespace Go.Proofs.Ytcgjgelapjdihaa
set_option maxRecDepth 100000

/-- The depth-first walk of the reference. -/
def wkB (ls : List UInt8) : Nat → List UInt8 → List (List UInt8)
  | 0, now => [now]
  | f + 1, now => (List.range' 32 95).flatMap fun q => if UInt8.ofNat q ∈ ls ∧ UInt8.ofNat q ∉ now then wkB ls f (now ++ [UInt8.ofNat q]) else []
def restB (ls : List UInt8) (f : Nat) (now : List UInt8) (c : Nat) : List (List UInt8) :=
  (List.range' c (127 - c)).flatMap fun q => if UInt8.ofNat q ∈ ls ∧ UInt8.ofNat q ∉ now then wkB ls f (now ++ [UInt8.ofNat q]) else []
theorem wkB_succ (ls : List UInt8) (f : Nat) (now : List UInt8) : wkB ls (f + 1) now = restB ls f now 32 := rfl
theorem restB_step (ls : List UInt8) (f : Nat) (now : List UInt8) {c : Nat} (h : c ≤ 126) :
    restB ls f now c = (if UInt8.ofNat c ∈ ls ∧ UInt8.ofNat c ∉ now then wkB ls f (now ++ [UInt8.ofNat c]) else []) ++ restB ls f now (c + 1) := by
  unfold restB
  rw [show 127 - c = (127 - (c + 1)) + 1 from by omega, List.range'_succ, List.flatMap_cons]
theorem restB_end (ls : List UInt8) (f : Nat) (now : List UInt8) {c : Nat} (h : 127 ≤ c) : restB ls f now c = [] := by
  unfold restB
  rw [show 127 - c = 0 from by omega]; rfl

/-! ### the walk on numbers, mapped -/
theorem rising_ext : ∀ {l m : List Nat}, l.Pairwise (· < ·) → m.Pairwise (· < ·) → (∀ x, x ∈ l ↔ x ∈ m) → l = m := by
  intro l
  induction l with
  | nil =>
    intro m _ _ h
    cases m with
    | nil => rfl
    | cons y m => exact absurd ((h y).2 List.mem_cons_self) (by simp)
  | cons x l ih =>
    intro m hl hm h
    cases m with
    | nil => exact absurd ((h x).1 List.mem_cons_self) (by simp)
    | cons y m =>
      rw [List.pairwise_cons] at hl hm
      have hxy : x = y := by
        rcases List.mem_cons.1 ((h x).1 List.mem_cons_self) with e | e
        · exact e
        · rcases List.mem_cons.1 ((h y).2 List.mem_cons_self) with e2 | e2
          · exact e2.symm
          · have := hm.1 x e; have := hl.1 y e2; omega
      subst hxy
      congr 1
      refine ih hl.2 hm.2 fun z => ⟨fun hz => ?_, fun hz => ?_⟩
      · rcases List.mem_cons.1 ((h z).1 (List.mem_cons_of_mem _ hz)) with e | e
        · have := hl.1 z hz; omega
        · exact e
      · rcases List.mem_cons.1 ((h z).2 (List.mem_cons_of_mem _ hz)) with e | e
        · have := hm.1 z hz; omega
        · exact e
theorem pw_mem {α : Type} {R S : α → α → Prop} {l : List α} (h : ∀ a b, a ∈ l → b ∈ l → R a b → S a b) (hl : l.Pairwise R) : l.Pairwise S := by
  rw [List.pairwise_iff_getElem] at hl ⊢
  intro i j hi hj hij
  exact h _ _ (List.getElem_mem hi) (List.getElem_mem hj) (hl i j hi hj hij)
theorem flatMap_ite {α β : Type} (p : α → Prop) [DecidablePred p] (f : α → List β) (l : List α) : (l.flatMap fun x => if p x then f x else []) = (l.filter fun x => decide (p x)).flatMap f := by
  induction l with
  | nil => rfl
  | cons x l ih =>
    rw [List.flatMap_cons, List.filter_cons, ih]
    by_cases h : p x
    · rw [if_pos h, if_pos (decide_eq_true h), List.flatMap_cons]
    · rw [if_neg h, if_neg (by simpa using h), List.nil_append]
section
variable {ls : List UInt8} {k : Nat → Nat} {n : Nat}
/-- k lists the letters' numbers in ascending order. -/
structure Lists (ls : List UInt8) (k : Nat → Nat) (n : Nat) : Prop where
  up : ∀ i j, i < j → j < n → k i < k j
  low : ∀ i, i < n → 32 ≤ k i
  high : ∀ i, i < n → k i ≤ 126
  all : ∀ q, q < 256 → (UInt8.ofNat q ∈ ls ↔ ∃ i, i < n ∧ k i = q)
theorem ofNat_inj {a b : Nat} (ha : a < 256) (hb : b < 256) (h : UInt8.ofNat a = UInt8.ofNat b) : a = b := by
  have h2 : (UInt8.ofNat a).toNat = (UInt8.ofNat b).toNat := by rw [h]
  rw [UInt8.toNat_ofNat', UInt8.toNat_ofNat'] at h2
  omega
theorem Lists.inj (h : Lists ls k n) {i j : Nat} (hi : i < n) (hj : j < n) (e : k i = k j) : i = j := by
  rcases Nat.lt_trichotomy i j with h1 | h1 | h1
  · have := h.up i j h1 hj; omega
  · exact h1
  · have := h.up j i h1 hi; omega
theorem Lists.filter (h : Lists ls k n) : ((List.range' 32 95).filter fun q => decide (UInt8.ofNat q ∈ ls)) = (List.range n).map k := by
  refine rising_ext ?_ ?_ fun x => ?_
  · exact List.Pairwise.sublist List.filter_sublist List.pairwise_lt_range'
  · rw [List.pairwise_map]
    refine pw_mem ?_ (List.pairwise_lt_range (n := n))
    intro a b _ hb hab
    exact h.up a b hab (List.mem_range.1 hb)
  · rw [List.mem_filter, List.mem_range'_1, List.mem_map, decide_eq_true_eq]
    constructor
    · rintro ⟨⟨h1, h2⟩, h3⟩
      obtain ⟨i, hi, e⟩ := (h.all x (by omega)).1 h3
      exact ⟨i, List.mem_range.2 hi, e⟩
    · rintro ⟨i, hi, rfl⟩
      rw [List.mem_range] at hi
      have h1 := h.low i hi
      have h2 := h.high i hi
      exact ⟨by omega, (h.all (k i) (by omega)).2 ⟨i, hi, rfl⟩⟩
theorem wk_map (h : Lists ls k n) : ∀ (f : Nat) (now : List Nat), In n now → wkB ls f (now.map fun i => UInt8.ofNat (k i)) = (dfsN n f now).map fun r => r.map fun i => UInt8.ofNat (k i) := by
  intro f
  induction f with
  | zero => intro now _; rfl
  | succ f ih =>
    intro now hin
    rw [wkB, dfsN, List.map_flatMap]
    have e : ∀ q : Nat, (if UInt8.ofNat q ∈ ls ∧ UInt8.ofNat q ∉ now.map (fun i => UInt8.ofNat (k i)) then wkB ls f ((now.map fun i => UInt8.ofNat (k i)) ++ [UInt8.ofNat q]) else [])
        = if UInt8.ofNat q ∈ ls then (if UInt8.ofNat q ∉ now.map (fun i => UInt8.ofNat (k i)) then wkB ls f ((now.map fun i => UInt8.ofNat (k i)) ++ [UInt8.ofNat q]) else []) else [] := by
      intro q
      by_cases h1 : UInt8.ofNat q ∈ ls
      · simp only [h1, true_and, if_true]
      · simp only [h1, false_and, if_false]
    simp only [e]
    rw [flatMap_ite (fun q => UInt8.ofNat q ∈ ls), h.filter, List.flatMap_map]
    rw [List.flatMap_def, List.flatMap_def]
    congr 1
    apply List.map_congr_left
    intro c hc
    rw [List.mem_range] at hc
    have hm : UInt8.ofNat (k c) ∈ now.map (fun i => UInt8.ofNat (k i)) ↔ c ∈ now := by
      rw [List.mem_map]
      constructor
      · rintro ⟨i, hi, e⟩
        have hi2 := hin i hi
        have h1 := h.high i hi2
        have h2 := h.high c hc
        have := h.inj hi2 hc (ofNat_inj (by omega) (by omega) e)
        rwa [← this]
      · intro hi; exact ⟨c, hi, rfl⟩
    by_cases hcn : c ∈ now
    · rw [if_neg (fun hx => hx (hm.2 hcn)), if_pos (by simpa using hcn)]; rfl
    · rw [if_pos (fun hx => hcn (hm.1 hx)), if_neg (by simpa using hcn)]
      have := ih (now ++ [c]) (fun x hx => by
        rcases List.mem_append.1 hx with hx | hx
        · exact hin x hx
        · rw [List.mem_singleton] at hx; omega)
      rw [List.map_append] at this
      exact this
end

/-! ### what the chain visits -/
def GoodN (n : Nat) (r : List Nat) : Bool := decide (r.length = n) && (decide r.Nodup && r.all fun x => decide (x < n))
set_option maxRecDepth 100000 in
theorem dfs_good1 : ((dfsN 1 1 []).all (GoodN 1) && decide ((dfsN 1 1 []).length < 800)) = true := by decide +kernel
set_option maxRecDepth 100000 in
theorem dfs_good2 : ((dfsN 2 2 []).all (GoodN 2) && decide ((dfsN 2 2 []).length < 800)) = true := by decide +kernel
set_option maxRecDepth 100000 in
theorem dfs_good3 : ((dfsN 3 3 []).all (GoodN 3) && decide ((dfsN 3 3 []).length < 800)) = true := by decide +kernel
set_option maxRecDepth 100000 in
theorem dfs_good4 : ((dfsN 4 4 []).all (GoodN 4) && decide ((dfsN 4 4 []).length < 800)) = true := by decide +kernel
set_option maxRecDepth 100000 in
theorem dfs_good5 : ((dfsN 5 5 []).all (GoodN 5) && decide ((dfsN 5 5 []).length < 800)) = true := by decide +kernel
set_option maxRecDepth 100000 in
theorem dfs_good6 : ((dfsN 6 6 []).all (GoodN 6) && decide ((dfsN 6 6 []).length < 800)) = true := by decide +kernel
theorem dfs_good {n : Nat} (h0 : 1 ≤ n) (h1 : n ≤ 6) : (∀ r ∈ dfsN n n [], r.length = n ∧ r.Nodup ∧ In n r) ∧ (dfsN n n []).length < 800 := by
  have h : ((dfsN n n []).all (GoodN n) && decide ((dfsN n n []).length < 800)) = true := by
    match n, h0, h1 with
    | 1, _, _ => exact dfs_good1
    | 2, _, _ => exact dfs_good2
    | 3, _, _ => exact dfs_good3
    | 4, _, _ => exact dfs_good4
    | 5, _, _ => exact dfs_good5
    | 6, _, _ => exact dfs_good6
  rw [Bool.and_eq_true, List.all_eq_true, decide_eq_true_eq] at h
  refine ⟨fun r hr => ?_, h.2⟩
  have := h.1 r hr
  simp only [GoodN, Bool.and_eq_true, decide_eq_true_eq, List.all_eq_true] at this
  exact ⟨this.1, this.2.1, this.2.2⟩

/-! ### the letters in ascending order -/
def ordI (ls : List UInt8) : List Int := ls.map fun b => (b.toNat : Int)
def sortI (ls : List UInt8) : List Int := (ordI ls).mergeSort fun x y => decide (x ≤ y)
def toB (r : List Int) : List UInt8 := r.map fun x => UInt8.ofNat x.toNat
structure Good (ls : List UInt8) (r : List Int) : Prop where
  len : r.length = ls.length
  nd : (toB r).Nodup
  sub : ∀ b ∈ toB r, b ∈ ls
  byte : ∀ x ∈ r, 0 ≤ x ∧ x < 256
theorem plan7 {ls : List UInt8} (hnd : ls.Nodup) (hb : ∀ b ∈ ls, 32 ≤ b.toNat ∧ b.toNat ≤ 126) (h0 : 1 ≤ ls.length) (h1 : ls.length ≤ 6) :
    (chainI 800 (sortI ls)).map toB = wkB ls ls.length [] ∧ (chainI 800 (sortI ls)).length < 800 ∧ ∀ r ∈ chainI 800 (sortI ls), Good ls r := by
  obtain ⟨n, hn⟩ : ∃ n, ls.length = n := ⟨_, rfl⟩
  have hperm : (sortI ls).Perm (ordI ls) := List.mergeSort_perm _ _
  have hlen : (sortI ls).length = n := by rw [hperm.length_eq, ordI, List.length_map, hn]
  have hndI : (sortI ls).Nodup := by
    rw [hperm.nodup_iff]
    unfold ordI List.Nodup
    rw [List.pairwise_map]
    refine pw_mem ?_ hnd
    intro a b _ _ hab e
    exact hab (UInt8.toNat_inj.1 (by omega))
  have hsorted : (sortI ls).Pairwise (· ≤ ·) := by
    have := List.pairwise_mergeSort (le := fun x y : Int => decide (x ≤ y)) (fun a b c h1 h2 => by simp only [decide_eq_true_eq] at *; omega) (fun a b => by simp only [Bool.or_eq_true, decide_eq_true_eq]; omega) (ordI ls)
    refine pw_mem ?_ this
    intro a b _ _ h; simpa using h
  have hmem : ∀ x ∈ sortI ls, ∃ b ∈ ls, (b.toNat : Int) = x := fun x hx => by
    have := hperm.mem_iff.1 hx
    unfold ordI at this
    rw [List.mem_map] at this
    exact this
  have hget : ∀ i, (hi : i < n) → (sortI ls).getD i 0 = (sortI ls)[i]'(by rw [hlen]; exact hi) := fun i hi => by
    rw [List.getD_eq_getElem?_getD, List.getElem?_eq_getElem (by rw [hlen]; exact hi)]; rfl
  have hstrict : ∀ i j, i < j → j < n → (sortI ls).getD i 0 < (sortI ls).getD j 0 := fun i j hij hj => by
    rw [hget i (by omega), hget j hj]
    have h1 := List.pairwise_iff_getElem.1 hsorted i j (by omega) (by omega) hij
    have h2 := List.pairwise_iff_getElem.1 (List.nodup_iff_pairwise_ne.1 hndI) i j (by omega) (by omega) hij
    omega
  have hval : ∀ i, i < n → ∃ b ∈ ls, (b.toNat : Int) = (sortI ls).getD i 0 := fun i hi => by
    rw [hget i hi]; exact hmem _ (List.getElem_mem _)
  have hL : Lists ls (fun i => ((sortI ls).getD i 0).toNat) n := by
    refine ⟨fun i j hij hj => ?_, fun i hi => ?_, fun i hi => ?_, fun q hq => ⟨fun hm => ?_, ?_⟩⟩
    · have h1 := hstrict i j hij hj
      obtain ⟨b, _, e⟩ := hval i (by omega)
      omega
    · obtain ⟨b, hbm, e⟩ := hval i hi
      have := hb b hbm
      omega
    · obtain ⟨b, hbm, e⟩ := hval i hi
      have := hb b hbm
      omega
    · have hq2 : ((UInt8.ofNat q).toNat : Int) = (q : Int) := by rw [UInt8.toNat_ofNat']; omega
      have hx : (q : Int) ∈ sortI ls := hperm.mem_iff.2 (by unfold ordI; rw [List.mem_map]; exact ⟨_, hm, hq2⟩)
      obtain ⟨i, hi, e⟩ := List.getElem_of_mem hx
      refine ⟨i, by omega, ?_⟩
      rw [hget i (by omega), e]; rfl
    · rintro ⟨i, hi, rfl⟩
      obtain ⟨b, hbm, e⟩ := hval i hi
      rw [← e, Int.toNat_natCast, UInt8.ofNat_toNat]
      exact hbm
  have hUp : Up (fun i => (sortI ls).getD i 0) n := fun i j hi hj => by
    constructor
    · intro h
      rcases Nat.lt_or_ge j i with hji | hji
      · have := hstrict j i hji hi
        exact absurd h (by show ¬ (sortI ls).getD i 0 ≤ (sortI ls).getD j 0; omega)
      · exact hji
    · intro h
      rcases Nat.lt_or_ge i j with hij | hij
      · have := hstrict i j hij hj
        show (sortI ls).getD i 0 ≤ (sortI ls).getD j 0
        omega
      · have : i = j := by omega
        subst this; exact Int.le_refl _
  have hS : sortI ls = (List.range n).map fun i => (sortI ls).getD i 0 := by
    apply List.ext_getElem?
    intro i
    rw [List.getElem?_map]
    by_cases hi : i < n
    · rw [List.getElem?_range hi, List.getElem?_eq_getElem (by omega)]
      simp only [Option.map_some]
      rw [hget i hi]
    · rw [List.getElem?_eq_none (by omega), List.getElem?_eq_none (by simp; omega)]; rfl
  have hch : chainI 800 (sortI ls) = (dfsN n n []).map fun r => r.map fun i => (sortI ls).getD i 0 := by
    have := chain_map hUp 800 (List.range n) (fun x hx => List.mem_range.1 hx)
    rw [← hS, chain_dfs (by omega) (by omega)] at this
    exact this
  obtain ⟨hg1, hg2⟩ := dfs_good (n := n) (by omega) (by omega)
  refine ⟨?_, by rw [hch, List.length_map]; exact hg2, ?_⟩
  · have := wk_map hL n [] (fun x hx => by simp at hx)
    rw [List.map_nil] at this
    rw [hn, this, hch, List.map_map]
    apply List.map_congr_left
    intro r _
    simp [toB, Function.comp_def]
  · rw [hch]
    intro r hr
    rw [List.mem_map] at hr
    obtain ⟨p, hp, rfl⟩ := hr
    obtain ⟨g1, g2, g3⟩ := hg1 p hp
    have hin := hL.high
    refine ⟨by rw [List.length_map, g1, hn], ?_, ?_, ?_⟩
    · unfold toB
      rw [List.map_map]
      unfold List.Nodup
      rw [List.pairwise_map]
      refine pw_mem ?_ g2
      intro a b ha hb2 hab e
      have ha3 := g3 a ha
      have hb3 := g3 b hb2
      have h1 := hL.high a ha3
      have h2 := hL.high b hb3
      simp only [Function.comp_apply] at e
      exact hab (hL.inj ha3 hb3 (ofNat_inj (by omega) (by omega) e))
    · intro b hbm
      unfold toB at hbm
      rw [List.map_map, List.mem_map] at hbm
      obtain ⟨i, hi, rfl⟩ := hbm
      have h1 : ((sortI ls).getD i 0).toNat ≤ 126 := hL.high i (g3 i hi)
      exact (hL.all _ (by show ((sortI ls).getD i 0).toNat < 256; omega)).2 ⟨i, g3 i hi, rfl⟩
    · intro x hx
      rw [List.mem_map] at hx
      obtain ⟨i, hi, rfl⟩ := hx
      obtain ⟨b, hbm, e⟩ := hval i (g3 i hi)
      have := hb b hbm
      show 0 ≤ (sortI ls).getD i 0 ∧ (sortI ls).getD i 0 < 256
      omega
end Go.Proofs.Ytcgjgelapjdihaa
