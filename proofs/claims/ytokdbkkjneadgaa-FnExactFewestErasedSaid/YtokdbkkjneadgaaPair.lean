/-
  Two []byte that the call gathers side by side.
-/
import Derived.Test.YtokdbkkjneadgaaBytes
import Derived.Maps.AppendAt
import Derived.Deep.RegionLaw
namespace Go.Proofs.Ytokdbkkjneadgaa
set_option maxRecDepth 100000
open Go.RowKit

theorem cell_new (W : World) (u : Value) (e : TypeId) : (W.alloc (.cells #[u] e)).cell? ⟨W.heap.size, 0, none⟩ = some u := by
  rw [World.cell?_alloc_at _ _ _ _ rfl]; rfl

structure Two (W w : World) (vA : Value) (la : List Value) (vB : Value) (lb : List Value) : Prop where
  a : Coll W w 5 vA la
  b : Coll W w 5 vB lb
  ne : ∀ g, vA.ownBlock = some g → vB.ownBlock ≠ some g

section
variable {W w w1 : World} {vA vB : Value} {la lb : List Value}
theorem Two.swap (h : Two W w vA la vB lb) : Two W w vB lb vA la := ⟨h.b, h.a, fun g h1 h2 => h.ne g h2 h1⟩
theorem Two.lay (h : Two W w vA la vB lb) (o : Obj) : Two W (w.alloc o) vA la vB lb := ⟨h.a.lay o, h.b.lay o, h.ne⟩
theorem Two.drew (h : Two W w vA la vB lb) : Two W w.drew vA la vB lb := ⟨h.a.drew, h.b.drew, h.ne⟩
theorem Two.draw (h : Two W w vA la vB lb) (n : Nat) : Two W (w.drewN n) vA la vB lb := ⟨h.a.draw n, h.b.draw n, h.ne⟩
theorem Two.on (h : Two W w vA la vB lb) (hb : Below w.heap.size w w1) : Two W w1 vA la vB lb := ⟨h.a.on hb, h.b.on hb, h.ne⟩
/-- Two empty literals, one behind the other. -/
theorem Two.empty (h : Below W.heap.size W w) : Two W ((w.alloc (.cells #[] 5)).alloc (.cells #[] 5)) (.slice (some ⟨w.heap.size, 0, none⟩) 0 0) [] (.slice (some ⟨(w.alloc (.cells #[] 5)).heap.size, 0, none⟩) 0 0) [] := by
  refine ⟨(Coll.empty h).lay _, Coll.empty (h.alloc h.size _), fun g h1 h2 => ?_⟩
  simp [Value.ownBlock] at h1 h2
  omega
theorem Two.lt (h : Two W w vA la vB lb) : (∀ g, vA.ownBlock = some g → g < w.heap.size) ∧ (∀ g, vB.ownBlock = some g → g < w.heap.size) :=
  ⟨fun g hg => (h.a.own.lt g hg).2, fun g hg => (h.b.own.lt g hg).2⟩

/-- append(A, u) of one byte that lies at p. -/
theorem Two.pushA_wp (h : Two W w vA la vB lb) {u : Value} {g k c : Nat} (hcell : w.cell? ⟨g, k, none⟩ = some u) (hu : u.oneCell' = true) (hn : la.length ≤ 1099511627776)
    {o : Oper} {a : Act} {Q : Exit → Act → World → Prop} {K : Act → World → Prop} (s x : Operand)
    (ho : o.op = .call { callee := .builtin .append, args := #[s, x], argTypes := #[83, 83] }) (hs : a.eval s = vA) (hx : a.eval x = .slice (some ⟨g, k, none⟩) 1 c)
    (hK : ∀ v1 w1, Two W w1 v1 (la ++ [u]) vB lb → w.heap.size ≤ w1.heap.size → (∀ b i, b < w.heap.size → vA.ownBlock ≠ some b → w1.cell? ⟨b, i, none⟩ = w.cell? ⟨b, i, none⟩) → K (a.put o.dst v1) w1) :
    o.wp Try.prog a w K Q := by
  obtain ⟨i, hi, h0, h1, h2⟩ := info_parts byte_info
  obtain ⟨v1, w1, hr, ho1, hg1, _, hat⟩ := run_append_own_at (P := Try.prog) w W.heap.size 83 o.type 5 i (.int .u8 0) 1 1 Try.underlying83 hi h0 h1 h2 rfl (by decide) vA la.length la h.a.own ⟨g, k, none⟩ 1 c [u] rfl
    (fun j u' hj => by
      match j, hj with
      | 0, hj => simp at hj; subst hj; exact hcell)
    (fun u' hu' => by simp at hu'; subst hu'; exact hu) (by unfold maxLen; omega) (by omega) h.a.below.size
  unfold Oper.wp
  simp [execOp, ho, resolve, invoke, builtin, hs, hx, hr, Result.andThen]
  have hlt := h.lt
  have hbel : Below W.heap.size W w1 := h.a.below.grown hg1 h.a.below.size (fun q hq => (h.a.own.lt q hq).1)
  refine hK v1 w1 ⟨⟨by simpa using ho1, hbel⟩, h.b.aside hg1 (fun q hq => h.ne q hq) hbel, fun q hq he => ?_⟩ hg1.size (fun b i hb hne => ?_)
  · rcases hat with e | e
    · rw [e] at hq; exact h.ne q hq he
    · rw [e] at hq
      cases hq
      have := hlt.2 _ he
      omega
  · show w1.cell? ⟨b, i, none⟩ = w.cell? ⟨b, i, none⟩
    have := hg1.block b hb (fun e => hne e.symm)
    simp only [World.cell?, this]
theorem Two.pushA_step (h : Two W w vA la vB lb) {u : Value} {g k c : Nat} (hcell : w.cell? ⟨g, k, none⟩ = some u) (hu : u.oneCell' = true) (hn : la.length ≤ 1099511627776)
    {ops : Array Oper} {o : Oper} {a : Act} {Q : Exit → Act → World → Prop} {K : Act → World → Prop} {E : Prop} (hgd : o.guard = none) (s x : Operand)
    (ho : o.op = .call { callee := .builtin .append, args := #[s, x], argTypes := #[83, 83] }) (hs : a.eval s = vA) (hx : a.eval x = .slice (some ⟨g, k, none⟩) 1 c)
    (hK : ∀ v1 w1, Two W w1 v1 (la ++ [u]) vB lb → w.heap.size ≤ w1.heap.size → (∀ b i, b < w.heap.size → vA.ownBlock ≠ some b → w1.cell? ⟨b, i, none⟩ = w.cell? ⟨b, i, none⟩) → K (a.put o.dst v1) w1) :
    if Region.wanted o (yielded ops a.tmps) = true then Oper.wp Try.prog o a w K Q else E := by
  rw [if_pos (by simp [Region.wanted, hgd])]
  exact Two.pushA_wp h hcell hu hn s x ho hs hx hK
theorem Two.pushA (h : Two W w vA la vB lb) {u : Value} {g k c : Nat} (hcell : w.cell? ⟨g, k, none⟩ = some u) (hu : u.oneCell' = true) (hn : la.length ≤ 1099511627776)
    {ops : Array Oper} {rest : List Oper} {o : Oper} {a : Act} {Q : Exit → Act → World → Prop} (hgd : o.guard = none) (s x : Operand)
    (ho : o.op = .call { callee := .builtin .append, args := #[s, x], argTypes := #[83, 83] }) (hs : a.eval s = vA) (hx : a.eval x = .slice (some ⟨g, k, none⟩) 1 c)
    (hK : ∀ v1 w1, Two W w1 v1 (la ++ [u]) vB lb → w.heap.size ≤ w1.heap.size → (∀ b i, b < w.heap.size → vA.ownBlock ≠ some b → w1.cell? ⟨b, i, none⟩ = w.cell? ⟨b, i, none⟩) → wpList Try.prog ops Q rest (a.put o.dst v1) w1) :
    wpList Try.prog ops Q (o :: rest) a w :=
  wpList_plain hgd fun _ hK1 => Two.pushA_wp h hcell hu hn s x ho hs hx fun v1 w1 h1 h2 h3 => hK1 _ _ (hK v1 w1 h1 h2 h3)
/-- In a region whose order is open: append(A, ..) and append(B, ..). -/
theorem Two.stepA (h : Two W w vA la vB lb) {u : Value} {g k c : Nat} (hu : u.oneCell' = true) (hn : la.length ≤ 1099511627776)
    {ops : Array Oper} {o : Oper} {a : Act} {Q : Exit → Act → World → Prop} {K : Act → World → Prop} {E : Prop} (hgd : o.guard = none) (s x : Operand)
    (ho : o.op = .call { callee := .builtin .append, args := #[s, x], argTypes := #[83, 83] }) (hs : a.eval s = vA) (hx : a.eval x = .slice (some ⟨g, k, none⟩) 1 c) (hcell : w.cell? ⟨g, k, none⟩ = some u)
    (hK : ∀ v1 w1, Two W w1 v1 (la ++ [u]) vB lb → w.heap.size ≤ w1.heap.size → (∀ b i, b < w.heap.size → vA.ownBlock ≠ some b → w1.cell? ⟨b, i, none⟩ = w.cell? ⟨b, i, none⟩) → K (a.put o.dst v1) w1) :
    if Region.wanted o (yielded ops a.tmps) = true then Oper.wp Try.prog o a w K Q else E := Two.pushA_step h hcell hu hn hgd s x ho hs hx hK
theorem Two.stepB (h : Two W w vA la vB lb) {u : Value} {g k c : Nat} (hu : u.oneCell' = true) (hn : lb.length ≤ 1099511627776)
    {ops : Array Oper} {o : Oper} {a : Act} {Q : Exit → Act → World → Prop} {K : Act → World → Prop} {E : Prop} (hgd : o.guard = none) (s x : Operand)
    (ho : o.op = .call { callee := .builtin .append, args := #[s, x], argTypes := #[83, 83] }) (hs : a.eval s = vB) (hx : a.eval x = .slice (some ⟨g, k, none⟩) 1 c) (hcell : w.cell? ⟨g, k, none⟩ = some u)
    (hK : ∀ v1 w1, Two W w1 vA la v1 (lb ++ [u]) → w.heap.size ≤ w1.heap.size → (∀ b i, b < w.heap.size → vB.ownBlock ≠ some b → w1.cell? ⟨b, i, none⟩ = w.cell? ⟨b, i, none⟩) → K (a.put o.dst v1) w1) :
    if Region.wanted o (yielded ops a.tmps) = true then Oper.wp Try.prog o a w K Q else E := Two.pushA_step h.swap hcell hu hn hgd s x ho hs hx fun v1 w1 h1 h2 h3 => hK v1 w1 h1.swap h2 h3
end
end Go.Proofs.Ytokdbkkjneadgaa
