/-
  Slices that read as a list; slices that the call itself gathers; what append does to them.
-/
import Derived.Test.YtcgjgelapjdihaaBase
import Derived.Deep.QuietTactic
import Derived.BigQuiet
namespace Go.Proofs.Ytcgjgelapjdihaa
set_option maxRecDepth 100000
open Go.RowKit

/-- The slice at A reads as the one-cell values xs, below block B. -/
def Rd (w : World) (B : Nat) (A : Option Addr) (xs : List Value) : Prop :=
  ∀ k x, xs[k]? = some x → ∃ b o, A = some ⟨b, o, none⟩ ∧ b < B ∧ w.cell? ⟨b, o + k, none⟩ = some x

section
variable {w w' : World} {B B' : Nat} {A : Option Addr} {xs : List Value}
theorem Rd.keep (h : Rd w B A xs) (hk : ∀ b o, b < B → w'.cell? ⟨b, o, none⟩ = w.cell? ⟨b, o, none⟩) : Rd w' B A xs := fun k x hx => by
  obtain ⟨b, o, h1, h2, h3⟩ := h k x hx
  exact ⟨b, o, h1, h2, (hk b _ h2).trans h3⟩
theorem Rd.more (h : Rd w B A xs) (hB : B ≤ B') : Rd w B' A xs := fun k x hx => by
  obtain ⟨b, o, h1, h2, h3⟩ := h k x hx
  exact ⟨b, o, h1, by omega, h3⟩
theorem Rd.below (h : Rd w B A xs) (hb : Below B w w') : Rd w' B A xs := h.keep fun b o hp => hb.cell (p := ⟨b, o, none⟩) hp
/-- Carried into a world that has kept all that was there, and stated at that world's own size. -/
theorem Rd.on (h : Rd w w.heap.size A xs) (hb : Below w.heap.size w w') : Rd w' w'.heap.size A xs := (h.below hb).more hb.size
theorem Rd.at_ {α : Type} {f : α → Value} {l : List α} (h : Rd w B A (l.map f)) {k : Nat} (hk : k < l.length) : ∃ b o x, A = some ⟨b, o, none⟩ ∧ b < B ∧ l[k]? = some x ∧ w.cell? ⟨b, o + k, none⟩ = some (f x) := by
  obtain ⟨b, o, h1, h2, h3⟩ := h k (f l[k]) (by simp [hk])
  exact ⟨b, o, l[k], h1, h2, by simp [hk], h3⟩
theorem Rd.nil_ : Rd w B A [] := fun k x hx => by simp at hx
end

section
variable {w w' : World} {base : Nat} {e n : Nat} {v : Value} {xs : List Value}
/-- What the call owns reads as its list. -/
theorem own_rd (h : w.ownsRow base e 1 v n xs) : ∃ A c, v = .slice A n c ∧ n ≤ c ∧ c ≤ maxLen ∧ Rd w w.heap.size A xs := by
  have hl := h.1
  rcases h.2 with ⟨rfl, rfl⟩ | ⟨g, cap, cur, rfl, hb, hg, hn, hc, hs, ht⟩
  · refine ⟨none, 0, rfl, Nat.le_refl _, Nat.zero_le _, fun k x hx => ?_⟩
    have := (List.getElem?_eq_some_iff.1 hx).1
    simp at hl; simp [hl] at hx
  · refine ⟨some ⟨g, 0, none⟩, cap, rfl, hn, hc, fun k x hx => ⟨g, 0, rfl, (Array.getElem?_eq_some_iff.1 hg).1, ?_⟩⟩
    have := h.cells (g := g) rfl k x hx
    rw [show (⟨g, 0 + k, none⟩ : Addr) = (⟨g, 0, none⟩ : Addr).add k from by unfold Addr.add; split <;> simp_all]
    exact this
/-- A row of the call's own is kept while another block is written. -/
theorem own_kept {row : Option Nat} (h : w.ownsRow base e 1 v n xs) (hg : w.grownBy w' row) (hr : ∀ g, row = some g → v.ownBlock ≠ some g) : w'.ownsRow base e 1 v n xs := by
  refine h.kept hg ?_
  cases row with
  | none => cases v.ownBlock <;> simp
  | some g => right; exact hr g rfl
theorem own_below (h : w.ownsRow base e 1 v n xs) (hb : Below w.heap.size w w') : w'.ownsRow base e 1 v n xs :=
  own_kept (row := none) h ⟨hb.os, hb.tape, hb.output, hb.size, fun k hk _ => hb.block k hk⟩ (by simp)
theorem own_alloc (h : w.ownsRow base e 1 v n xs) (o : Obj) : (w.alloc o).ownsRow base e 1 v n xs := h.alloc o
/-- Two rows, the second younger than the first's world. -/
theorem own_ne {b' e' n' : Nat} {v' : Value} {xs' : List Value} (h : w.ownsRow base e 1 v n xs) (h' : w'.ownsRow b' e' 1 v' n' xs') (hb : w.heap.size ≤ b') : ∀ g, v'.ownBlock = some g → v.ownBlock ≠ some g := by
  intro g hg he
  have h1 := h.lt g he
  have h2 := h'.lt g hg
  omega
theorem own_ne' {b' e' n' : Nat} {v' : Value} {xs' : List Value} (h : w.ownsRow base e 1 v n xs) (h' : w'.ownsRow b' e' 1 v' n' xs') (hb : w.heap.size ≤ b') : ∀ g, v.ownBlock = some g → v'.ownBlock ≠ some g := by
  intro g hg he
  exact own_ne h h' hb g he hg
/-- A write into a row of the call's own leaves what lay below. -/
theorem below_row {W : World} (hb : Below W.heap.size W w) (h : w.ownsRow base e 1 v n xs) (hW : W.heap.size ≤ base) (hg : w.grownBy w' v.ownBlock) : Below W.heap.size W w' :=
  hb.grown hg hb.size (fun k hk => by have := (h.lt k hk).1; omega)
end

theorem grow_trans {a b w : World} {r : Option Nat} (h : w.grownBy a r) (k : a.grownBy b r) : w.grownBy b r :=
  ⟨k.os.trans h.os, k.tape.trans h.tape, k.output.trans h.output, Nat.le_trans h.size k.size, fun i hi hr => (k.block i (Nat.lt_of_lt_of_le hi h.size) hr).trans (h.block i hi hr)⟩
theorem drop_get {α : Type} {l : List α} {k : Nat} {x : α} (h : l[k]? = some x) : l.drop k = x :: l.drop (k + 1) := by
  obtain ⟨h1, h2⟩ := List.getElem?_eq_some_iff.1 h
  rw [List.drop_eq_getElem_cons h1, h2]

/-- A row of the call's own that is not empty lies at the head of its block. -/
theorem own_form {w : World} {base e n : Nat} {A : Option Addr} {c : Nat} {xs : List Value} (h : w.ownsRow base e 1 (.slice A n c) n xs) (hn : 0 < n) : ∃ g, A = some ⟨g, 0, none⟩ ∧ base ≤ g := by
  rcases h.2 with ⟨h', _⟩ | ⟨g, cap, cur, h', hb, _⟩
  · simp at h'; omega
  · simp at h'; exact ⟨g, h'.1, hb⟩

/-- Since the call began in world W, slice v has gathered the one-cell values xs, in rows of the call's own; what was there in W is as it was. -/
structure Coll (W w : World) (e : TypeId) (v : Value) (xs : List Value) : Prop where
  own : w.ownsRow W.heap.size e 1 v xs.length xs
  below : Below W.heap.size W w

section
variable {W w w1 : World} {e : TypeId} {v : Value} {xs : List Value}
theorem Coll.on (h : Coll W w e v xs) (hb : Below w.heap.size w w1) : Coll W w1 e v xs := ⟨own_below h.own hb, Below.step h.below hb⟩
theorem Coll.draw (h : Coll W w e v xs) (n : Nat) : Coll W (w.drewN n) e v xs := ⟨h.own, below_drewN h.below n⟩
theorem Coll.drew (h : Coll W w e v xs) : Coll W w.drew e v xs := ⟨h.own, h.below.drew⟩
theorem Coll.lay (h : Coll W w e v xs) (o : Obj) : Coll W (w.alloc o) e v xs := ⟨h.own.alloc o, h.below.alloc h.below.size o⟩
theorem Coll.form (h : Coll W w e v xs) : ∃ A c, v = .slice A xs.length c ∧ xs.length ≤ c ∧ c ≤ maxLen ∧ Rd w w.heap.size A xs := own_rd h.own
/-- An empty literal. -/
theorem Coll.empty (h : Below W.heap.size W w) : Coll W (w.alloc (.cells #[] e)) e (.slice (some ⟨w.heap.size, 0, none⟩) 0 0) [] :=
  ⟨World.ownsRow_lit w #[] 0 h.size (Nat.zero_le _) rfl, h.alloc h.size _⟩
theorem Coll.nil_ (h : Below W.heap.size W w) : Coll W w e (.slice none 0 0) [] := ⟨World.ownsRow_nil _ _ _ _, h⟩
/-- What was gathered since a later world was gathered since an earlier one. -/
theorem Coll.since {W0 : World} (h : Coll W w e v xs) (hb : Below W0.heap.size W0 W) : Coll W0 w e v xs := by
  refine ⟨⟨h.own.1, ?_⟩, Below.step hb h.below⟩
  rcases h.own.2 with h' | ⟨g, cap, cur, e1, e2, e3⟩
  · exact .inl h'
  · exact .inr ⟨g, cap, cur, e1, Nat.le_trans hb.size e2, e3⟩
/-- Another row is kept while this one grows. -/
theorem Coll.aside {row : Option Nat} (h : Coll W w e v xs) (hg : w.grownBy w1 row) (hr : ∀ g, row = some g → v.ownBlock ≠ some g) (hb : Below W.heap.size W w1) : Coll W w1 e v xs :=
  ⟨own_kept h.own hg hr, hb⟩
end

section
variable {W w : World} {T e : TypeId} {z0 : Value} {bytes : Nat} {v u : Value} {xs : List Value}
theorem grow_alloc (w : World) (o : Obj) (r : Option Nat) : w.grownBy (w.alloc o) r := World.grownBy_alloc w o r

/-- append(out, u) of one value. -/
theorem Coll.push_wp (hT : Try.prog.underlying T = some (.slice e)) (hinfo : (Try.prog.info? e).map (fun i => (i.zero, i.size, i.bytes)) = some (some z0, 1, bytes)) (hz0 : z0.cells.size = 1) (hby : bytes ≤ 64)
    (hc : Coll W w e v xs) (hu : u.oneCell' = true) (hn : xs.length ≤ 1099511627776)
    {o : Oper} {a : Act} {Q : Exit → Act → World → Prop} {K : Act → World → Prop} (s x : Operand)
    (ho : o.op = .call { callee := .builtin .append, args := #[s, x], argTypes := #[T, T] }) (hs : a.eval s = v) (hx : a.eval x = .slice (some ⟨w.heap.size, 0, none⟩) 1 1)
    (hK : ∀ v1 w1, Coll W w1 e v1 (xs ++ [u]) → w.grownBy w1 v.ownBlock → K (a.put o.dst v1) w1) :
    o.wp Try.prog a (w.alloc (.cells #[u] e)) K Q := by
  obtain ⟨i, hi, h0, h1, h2⟩ := info_parts hinfo
  refine wp_append_own _ s x T ho W.heap.size e i z0 1 bytes hT hi h0 h1 h2 hz0 (by decide) v xs.length xs hs (hc.own.alloc _) ⟨w.heap.size, 0, none⟩ 1 1 [u] hx rfl ?_ ?_ ?_ ?_ ?_ ?_
  · intro j u' hj
    match j, hj with
    | 0, hj =>
      simp at hj; subst hj
      show (w.alloc _).cell? ⟨w.heap.size, 0, none⟩ = _
      rw [World.cell?_alloc_at _ _ _ _ rfl]; rfl
  · intro u' hu'; simp at hu'; subst hu'; exact hu
  · unfold maxLen; omega
  · calc (xs.length + 1) * bytes ≤ (xs.length + 1) * 64 := Nat.mul_le_mul_left _ hby
      _ ≤ 140737488355328 := by omega
  · have := hc.below.size; simp; omega
  · intro v1 w1 ho1 hg1 _
    have hg : w.grownBy w1 v.ownBlock := grow_trans (grow_alloc w _ _) hg1
    refine hK v1 w1 ⟨by simpa using ho1, hc.below.grown hg hc.below.size (fun k hk => (hc.own.lt k hk).1)⟩ hg
theorem Coll.push (hT : Try.prog.underlying T = some (.slice e)) (hinfo : (Try.prog.info? e).map (fun i => (i.zero, i.size, i.bytes)) = some (some z0, 1, bytes)) (hz0 : z0.cells.size = 1) (hby : bytes ≤ 64)
    (hc : Coll W w e v xs) (hu : u.oneCell' = true) (hn : xs.length ≤ 1099511627776)
    {ops : Array Oper} {rest : List Oper} {o : Oper} {a : Act} {Q : Exit → Act → World → Prop} (hgd : o.guard = none) (s x : Operand)
    (ho : o.op = .call { callee := .builtin .append, args := #[s, x], argTypes := #[T, T] }) (hs : a.eval s = v) (hx : a.eval x = .slice (some ⟨w.heap.size, 0, none⟩) 1 1)
    (hK : ∀ v1 w1, Coll W w1 e v1 (xs ++ [u]) → w.grownBy w1 v.ownBlock → wpList Try.prog ops Q rest (a.put o.dst v1) w1) :
    wpList Try.prog ops Q (o :: rest) a (w.alloc (.cells #[u] e)) :=
  wpList_plain hgd fun _ hK1 => Coll.push_wp hT hinfo hz0 hby hc hu hn s x ho hs hx fun v1 w1 h1 h2 => hK1 _ _ (hK v1 w1 h1 h2)
/-- In a region whose order is open. -/
theorem Coll.push_step (hT : Try.prog.underlying T = some (.slice e)) (hinfo : (Try.prog.info? e).map (fun i => (i.zero, i.size, i.bytes)) = some (some z0, 1, bytes)) (hz0 : z0.cells.size = 1) (hby : bytes ≤ 64)
    (hc : Coll W w e v xs) (hu : u.oneCell' = true) (hn : xs.length ≤ 1099511627776)
    {ops : Array Oper} {o : Oper} {a : Act} {Q : Exit → Act → World → Prop} {K : Act → World → Prop} {E : Prop} (hgd : o.guard = none) (s x : Operand)
    (ho : o.op = .call { callee := .builtin .append, args := #[s, x], argTypes := #[T, T] }) (hs : a.eval s = v) (hx : a.eval x = .slice (some ⟨w.heap.size, 0, none⟩) 1 1)
    (hK : ∀ v1 w1, Coll W w1 e v1 (xs ++ [u]) → w.grownBy w1 v.ownBlock → K (a.put o.dst v1) w1) :
    if Region.wanted o (yielded ops a.tmps) = true then Oper.wp Try.prog o a (w.alloc (.cells #[u] e)) K Q else E := by
  rw [if_pos (by simp [Region.wanted, hgd])]
  exact Coll.push_wp hT hinfo hz0 hby hc hu hn s x ho hs hx hK
end

/-- The slice value at A, of n elements, reads as the list xs (f: the value of an element). -/
structure Sl {α : Type} (f : α → Value) (w : World) (A : Option Addr) (n : Nat) (xs : List α) : Prop where
  len : xs.length = n
  max : n ≤ 9223372036854775807
  rd : Rd w w.heap.size A (xs.map f)

section
variable {α : Type} {f : α → Value} {w w1 : World} {A : Option Addr} {n : Nat} {xs : List α}
theorem Sl.on (h : Sl f w A n xs) (hb : Below w.heap.size w w1) : Sl f w1 A n xs := ⟨h.len, h.max, h.rd.on hb⟩
theorem Sl.draw (h : Sl f w A n xs) (m : Nat) : Sl f (w.drewN m) A n xs := ⟨h.len, h.max, h.rd⟩
theorem Sl.lay (h : Sl f w A n xs) (o : Obj) : Sl f (w.alloc o) A n xs := h.on ((Below.refl _ _).alloc (Nat.le_refl _) o)
/-- Element k, asked for in a later world. -/
theorem Sl.at_ (h : Sl f w A n xs) (hb : Below w.heap.size w w1) {k : Nat} (hk : k < n) : ∃ b o x, A = some ⟨b, o, none⟩ ∧ xs[k]? = some x ∧ w1.cell? ⟨b, o + k, none⟩ = some (f x) := by
  obtain ⟨b, o, x, h1, _, h3, h4⟩ := (h.rd.below hb).at_ (k := k) (by rw [h.len]; exact hk)
  exact ⟨b, o, x, h1, h3, h4⟩
/-- Two elements: one address. -/
theorem Sl.at_2 (h : Sl f w A n xs) (hb : Below w.heap.size w w1) {k j : Nat} (hk : k < n) (hj : j < n) :
    ∃ b o x y, A = some ⟨b, o, none⟩ ∧ xs[k]? = some x ∧ w1.cell? ⟨b, o + k, none⟩ = some (f x) ∧ xs[j]? = some y ∧ w1.cell? ⟨b, o + j, none⟩ = some (f y) := by
  obtain ⟨b, o, x, h1, h2, h3⟩ := h.at_ hb hk
  obtain ⟨b', o', y, h4, h5, h6⟩ := h.at_ hb hj
  rw [h1] at h4
  obtain ⟨rfl, rfl⟩ : b = b' ∧ o = o' := by simpa using h4
  exact ⟨b, o, x, y, h1, h2, h3, h5, h6⟩
theorem Sl.nil_ (w : World) : Sl f w none 0 ([] : List α) := ⟨rfl, Nat.zero_le _, Rd.nil_⟩
theorem Sl.of_coll {W : World} {e : TypeId} {v : Value} (h : Coll W w e v (xs.map f)) : ∃ A c, v = .slice A xs.length c ∧ xs.length ≤ c ∧ c ≤ maxLen ∧ Sl f w A xs.length xs := by
  obtain ⟨A, c, h1, h2, h3, h4⟩ := h.form
  rw [List.length_map] at h1 h2
  exact ⟨A, c, h1, h2, h3, ⟨rfl, by unfold maxLen at h3; omega, h4⟩⟩
theorem Sl.cell {b o : Nat} (h : Sl f w (some ⟨b, o, none⟩) n xs) (hb : Below w.heap.size w w1) {k : Nat} {x : α} (hx : xs[k]? = some x) : w1.cell? ⟨b, o + k, none⟩ = some (f x) := by
  have hk : k < n := by rw [← h.len]; exact (List.getElem?_eq_some_iff.1 hx).1
  obtain ⟨b', o', y, h1, h2, h3⟩ := h.at_ hb hk
  obtain ⟨rfl, rfl⟩ : b = b' ∧ o = o' := by simpa using h1
  rw [hx] at h2
  cases h2
  exact h3
theorem Sl.take (h : Sl f w A n xs) {k : Nat} (hk : k ≤ n) : Sl f w A k (xs.take k) :=
  ⟨by rw [List.length_take, h.len]; omega, by have := h.max; omega, fun j x hx => by
    rw [List.getElem?_map] at hx
    rw [List.getElem?_take] at hx
    split at hx
    · exact h.rd j x (by rw [List.getElem?_map]; exact hx)
    · simp at hx⟩
/-- What s[k:] reads as, behind the model's own address. -/
theorem Sl.from_ (h : Sl f w A n xs) {k c : Nat} (hk : k ≤ n) (hc : n ≤ c) : Sl f w (if c = k then A else A.map (·.add k)) (n - k) (xs.drop k) :=
  ⟨by rw [List.length_drop, h.len], by have := h.max; omega, fun j x hx => by
    rw [List.getElem?_map, List.getElem?_drop] at hx
    have hlt : k + j < n := by
      rw [← h.len]
      rcases Nat.lt_or_ge (k + j) xs.length with h1 | h1
      · exact h1
      · rw [List.getElem?_eq_none h1] at hx; simp at hx
    obtain ⟨b, o, h1, h2, h3⟩ := h.rd (k + j) x (by rw [List.getElem?_map]; exact hx)
    rw [if_neg (by omega)]
    subst h1
    exact ⟨b, o + k, by simp [Addr.add_lit], h2, by rw [Nat.add_assoc]; exact h3⟩⟩
theorem Sl.from_some {b o : Nat} (h : Sl f w (some ⟨b, o, none⟩) n xs) (k : Nat) : Sl f w (some ⟨b, o + k, none⟩) (n - k) (xs.drop k) :=
  ⟨by rw [List.length_drop, h.len], by have := h.max; omega, fun j x hx => by
    rw [List.getElem?_map, List.getElem?_drop] at hx
    obtain ⟨b1, o1, h1, h2, h3⟩ := h.rd (k + j) x (by rw [List.getElem?_map]; exact hx)
    obtain ⟨rfl, rfl⟩ : b = b1 ∧ o = o1 := by simpa using h1
    exact ⟨b, o + k, rfl, h2, by rw [Nat.add_assoc]; exact h3⟩⟩
theorem Sl.from_if {b o : Nat} (h : Sl f w (some ⟨b, o, none⟩) n xs) {k c : Nat} (hk : k ≤ n) (hc : n ≤ c) : Sl f w (if c = k then some ⟨b, o, none⟩ else some ⟨b, o + k, none⟩) (n - k) (xs.drop k) := by
  by_cases h0 : c = k
  · have e : xs.drop k = [] := List.drop_eq_nil_of_le (by rw [h.len]; omega)
    rw [if_pos h0, e, show n - k = 0 from by omega]
    exact ⟨rfl, Nat.zero_le _, Rd.nil_⟩
  · rw [if_neg h0]; exact h.from_some k
theorem Sl.end_ (h : Sl f w A n xs) {k : Nat} (hk : ¬ k < n) : xs.drop k = [] := List.drop_eq_nil_of_le (by have := h.len; omega)
theorem Sl.get (h : Sl f w A n xs) {k : Nat} (hk : k < n) : ∃ x, xs[k]? = some x ∧ xs.drop k = x :: xs.drop (k + 1) := by
  have hl : k < xs.length := by rw [h.len]; exact hk
  exact ⟨xs[k], List.getElem?_eq_getElem hl, drop_get (List.getElem?_eq_getElem hl)⟩
end

section
variable {W w : World} {T e : TypeId} {z0 : Value} {bytes : Nat} {v : Value} {xs : List Value}
theorem run_append_none (t ty : TypeId) (i : TypeInfo) (ht : Try.prog.underlying t = some (.slice e)) (hi : Try.prog.info? e = some i) {base n c : Nat} (hown : w.ownsRow base e 1 v n xs) :
    (Builtin.append_ #[t, t] ty #[v, .slice none 0 c]).run Try.prog w = .ok v w := by
  rcases hown.2 with ⟨rfl, rfl⟩ | ⟨g, cap, cur, rfl, _, _, hnc, _⟩
  · simp [Builtin.append_, run_underlying ht, sizeOf, typeInfo, hi, Builtin.lenOf, Builtin.firstCells]
  · simp [Builtin.append_, run_underlying ht, sizeOf, typeInfo, hi, Builtin.lenOf, Builtin.firstCells, hnc, storeCells]

/-- append(out, ys...) of a slice that reads as a list. -/
theorem Coll.join_wp {α : Type} {f : α → Value} {A : Option Addr} {m c : Nat} {ys : List α} (hT : Try.prog.underlying T = some (.slice e)) (hinfo : (Try.prog.info? e).map (fun i => (i.zero, i.size, i.bytes)) = some (some z0, 1, bytes)) (hz0 : z0.cells.size = 1) (hby : bytes ≤ 64)
    (hc : Coll W w e v xs) (h : Sl f w A m ys) (hf : ∀ u, (f u).oneCell' = true) (hn : xs.length + m ≤ 1099511627776)
    {o : Oper} {a : Act} {Q : Exit → Act → World → Prop} {K : Act → World → Prop} (s x : Operand)
    (ho : o.op = .call { callee := .builtin .append, args := #[s, x], argTypes := #[T, T] }) (hs : a.eval s = v) (hx : a.eval x = .slice A m c)
    (hK : ∀ v1 w1, Coll W w1 e v1 (xs ++ ys.map f) → w.grownBy w1 v.ownBlock → K (a.put o.dst v1) w1) :
    o.wp Try.prog a w K Q := by
  obtain ⟨i, hi, h0, h1, h2⟩ := info_parts hinfo
  cases A with
  | none =>
    have hm : ys = [] := by
      cases ys with
      | nil => rfl
      | cons y ys => obtain ⟨b, o, hh, _⟩ := h.rd 0 (f y) rfl; cases hh
    subst hm
    have hm0 : m = 0 := h.len.symm
    subst hm0
    have hrun := run_append_none (w := w) T o.type i hT hi (c := c) hc.own
    unfold Oper.wp
    simp [execOp, ho, resolve, invoke, builtin, hs, hx, hrun, Result.andThen]
    exact hK v w (by simpa using hc) (World.grownBy.refl _ _)
  | some ad =>
    have hcells : ∀ j u, (ys.map f)[j]? = some u → w.cell? (ad.add j) = some u := by
      intro j u hu
      obtain ⟨b, o, hh, _, hcc⟩ := h.rd j u hu
      injection hh with hh
      subst hh
      rw [Addr.add_lit]
      exact hcc
    refine wp_append_own _ s x T ho W.heap.size e i z0 1 bytes hT hi h0 h1 h2 hz0 (by decide) v xs.length xs hs hc.own ad m c (ys.map f) hx (by simp [h.len]) hcells ?_ ?_ ?_ hc.below.size ?_
    · intro u hu
      obtain ⟨y, _, rfl⟩ := List.mem_map.1 hu
      exact hf y
    · unfold maxLen; omega
    · calc (xs.length + m) * bytes ≤ (xs.length + m) * 64 := Nat.mul_le_mul_left _ hby
        _ ≤ 140737488355328 := by omega
    · intro v1 w1 ho1 hg1 _
      refine hK v1 w1 ⟨by simpa [h.len] using ho1, hc.below.grown hg1 hc.below.size (fun k hk => (hc.own.lt k hk).1)⟩ hg1
/-- append(out, ys...) of a slice that reads as a list. -/
theorem Coll.join {α : Type} {f : α → Value} {A : Option Addr} {m c : Nat} {ys : List α} (hT : Try.prog.underlying T = some (.slice e)) (hinfo : (Try.prog.info? e).map (fun i => (i.zero, i.size, i.bytes)) = some (some z0, 1, bytes)) (hz0 : z0.cells.size = 1) (hby : bytes ≤ 64)
    (hc : Coll W w e v xs) (h : Sl f w A m ys) (hf : ∀ u, (f u).oneCell' = true) (hn : xs.length + m ≤ 1099511627776)
    {ops : Array Oper} {rest : List Oper} {o : Oper} {a : Act} {Q : Exit → Act → World → Prop} (hgd : o.guard = none) (s x : Operand)
    (ho : o.op = .call { callee := .builtin .append, args := #[s, x], argTypes := #[T, T] }) (hs : a.eval s = v) (hx : a.eval x = .slice A m c)
    (hK : ∀ v1 w1, Coll W w1 e v1 (xs ++ ys.map f) → w.grownBy w1 v.ownBlock → wpList Try.prog ops Q rest (a.put o.dst v1) w1) :
    wpList Try.prog ops Q (o :: rest) a w :=
  wpList_plain hgd fun _ hK1 => Coll.join_wp hT hinfo hz0 hby hc h hf hn s x ho hs hx fun v1 w1 h1 h2 => hK1 _ _ (hK v1 w1 h1 h2)
/-- In a region whose order is open. -/
theorem Coll.join_step {α : Type} {f : α → Value} {A : Option Addr} {m c : Nat} {ys : List α} (hT : Try.prog.underlying T = some (.slice e)) (hinfo : (Try.prog.info? e).map (fun i => (i.zero, i.size, i.bytes)) = some (some z0, 1, bytes)) (hz0 : z0.cells.size = 1) (hby : bytes ≤ 64)
    (hc : Coll W w e v xs) (h : Sl f w A m ys) (hf : ∀ u, (f u).oneCell' = true) (hn : xs.length + m ≤ 1099511627776)
    {ops : Array Oper} {o : Oper} {a : Act} {Q : Exit → Act → World → Prop} {K : Act → World → Prop} {E : Prop} (hgd : o.guard = none) (s x : Operand)
    (ho : o.op = .call { callee := .builtin .append, args := #[s, x], argTypes := #[T, T] }) (hs : a.eval s = v) (hx : a.eval x = .slice A m c)
    (hK : ∀ v1 w1, Coll W w1 e v1 (xs ++ ys.map f) → w.grownBy w1 v.ownBlock → K (a.put o.dst v1) w1) :
    if Region.wanted o (yielded ops a.tmps) = true then Oper.wp Try.prog o a w K Q else E := by
  rw [if_pos (by simp [Region.wanted, hgd])]
  exact Coll.join_wp hT hinfo hz0 hby hc h hf hn s x ho hs hx hK
end
theorem Sl.of_own {α : Type} {f : α → Value} {w : World} {base e c : Nat} {A : Option Addr} {xs : List α} {m : Nat} (h : w.ownsRow base e 1 (.slice A m c) m (xs.map f)) : Sl f w A m xs := by
  obtain ⟨A', c', h1, h2, h3, h4⟩ := own_rd h
  injection h1 with h1
  subst h1
  exact ⟨by have := h.1; simpa using this, by unfold maxLen at h3; omega, h4⟩
end Go.Proofs.Ytcgjgelapjdihaa
