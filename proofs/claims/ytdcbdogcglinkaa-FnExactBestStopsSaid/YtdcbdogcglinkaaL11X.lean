/-
  BestStops: plain law; lists of lists that the call itself gathers.
-/
import Derived.Test.YtdcbdogcglinkaaL11T
import Derived.Test.YtdcbdogcglinkaaPut
namespace Go.Proofs.Ytdcbdogcglinkaa
set_option maxRecDepth 100000
open Go.RowKit

/-- All lists of so many more stops behind some, from a column on, in order. -/
def wl : Nat → List Int → Nat → List (List Int)
  | 0, st, _ => [st]
  | m + 1, st, fr => (List.range' fr (31 - fr)).flatMap fun (c : Nat) => wl m (st ++ [(c : Int)]) (c + 1)
def upd (ss : List ByteArray) (st : Option (List Int × Nat)) (l : List Int) : Option (List Int × Nat) := match st with
  | none => some (l, pageM l ss)
  | some (b, m) => if pageM l ss < m then some (l, pageM l ss) else some (b, m)
def bestL : Option (List Int × Nat) → List Int
  | none => []
  | some p => p.1
def leastV : Option (List Int × Nat) → Int
  | none => -1
  | some p => p.2
def bestR (ss : List ByteArray) (many : Int) : Option (List Int × Nat) := (wl many.toNat [] 1).foldl (upd ss) none
def bestStops (ss : List ByteArray) (many : Int) : List Int × Int × Int := if rowsC ss = 0 then (if inB many 0 2 = true then (bestL (bestR ss many), leastV (bestR ss many), 0) else ([], 0, 2)) else ([], 0, rowsC ss)
theorem bestStops_ok {ss : List ByteArray} {many : Int} (h : rowsC ss = 0) (hm : inB many 0 2 = true) : bestStops ss many = (bestL (bestR ss many), leastV (bestR ss many), 0) := by unfold bestStops; rw [if_pos h, if_pos hm]
theorem bestStops_many {ss : List ByteArray} {many : Int} (h : rowsC ss = 0) (hm : inB many 0 2 = false) : bestStops ss many = ([], 0, 2) := by unfold bestStops; rw [if_pos h, if_neg (by rw [hm]; decide)]
theorem bestStops_bad {ss : List ByteArray} {many k : Int} (h : rowsC ss = k) (hk : ¬ k = 0) : bestStops ss many = ([], 0, k) := by unfold bestStops; rw [h, if_neg hk]
/-- The lists that are still to come, from column c on. -/
def restW (m : Nat) (st : List Int) (c : Nat) : List (List Int) := (List.range' c (31 - c)).flatMap fun (d : Nat) => wl m (st ++ [(d : Int)]) (d + 1)
theorem restW_step {m c : Nat} {st : List Int} (h : c ≤ 30) : restW m st c = wl m (st ++ [(c : Int)]) (c + 1) ++ restW m st (c + 1) := by
  unfold restW
  rw [show 31 - c = (31 - (c + 1)) + 1 from by omega, List.range'_succ, List.flatMap_cons]
theorem restW_end {m c : Nat} {st : List Int} (h : ¬ c ≤ 30) : restW m st c = [] := by
  unfold restW
  rw [show 31 - c = 0 from by omega]; rfl
theorem wl_succ (m : Nat) (st : List Int) (fr : Nat) : wl (m + 1) st fr = restW m st fr := rfl
theorem wl_ok : ∀ m st fr, 1 ≤ fr → (∀ x ∈ st, 1 ≤ x ∧ x ≤ 30) → ∀ l ∈ wl m st fr, (∀ x ∈ l, 1 ≤ x ∧ x ≤ 30) ∧ l.length = st.length + m := by
  intro m
  induction m with
  | zero =>
    intro st fr _ hs l hl
    rw [wl, List.mem_singleton] at hl
    subst hl
    exact ⟨hs, rfl⟩
  | succ m ih =>
    intro st fr hf hs l hl
    rw [wl, List.mem_flatMap] at hl
    obtain ⟨c, hc, hl⟩ := hl
    rw [List.mem_range'] at hc
    obtain ⟨i, hi, rfl⟩ := hc
    have := ih (st ++ [((fr + 1 * i : Nat) : Int)]) (fr + 1 * i + 1) (by omega) (fun x hx => by
      rcases List.mem_append.1 hx with hx | hx
      · exact hs x hx
      · rw [List.mem_singleton] at hx; omega) l hl
    exact ⟨this.1, by rw [this.2]; simp; omega⟩
/-- Is a list better than what has been found? -/
theorem upd_yes {ss : List ByteArray} {st : Option (List Int × Nat)} {l : List Int} (h : leastV st < 0 ∨ ((pageM l ss : Nat) : Int) < leastV st) : upd ss st l = some (l, pageM l ss) := by
  cases st with
  | none => rfl
  | some p =>
    rcases h with h | h
    · simp [leastV] at h; omega
    · simp only [leastV] at h
      unfold upd
      simp only
      rw [if_pos (by omega)]
theorem upd_no {ss : List ByteArray} {st : Option (List Int × Nat)} {l : List Int} (h0 : ¬ leastV st < 0) (h : ¬ ((pageM l ss : Nat) : Int) < leastV st) : upd ss st l = st := by
  cases st with
  | none => simp [leastV] at h0
  | some p =>
    simp only [leastV] at h
    unfold upd
    simp only
    rw [if_neg (by omega)]
theorem leastV_neg {st : Option (List Int × Nat)} (h : leastV st < 0) : leastV st = -1 := by
  cases st with
  | none => rfl
  | some p => simp [leastV] at h; omega

theorem wl_few (m : Nat) (h : m ≤ 2) : (wl m [] 1).length ≤ 500 := by
  rcases (by omega : m = 0 ∨ m = 1 ∨ m = 2) with rfl | rfl | rfl
  · exact of_decide_eq_true (by kernel_rfl)
  · exact of_decide_eq_true (by kernel_rfl)
  · exact of_decide_eq_true (by kernel_rfl)
theorem foldl_len (ss : List ByteArray) {N : Nat} : ∀ (ls : List (List Int)) (st : Option (List Int × Nat)), (∀ l ∈ ls, l.length ≤ N) → (bestL st).length ≤ N → (bestL (ls.foldl (upd ss) st)).length ≤ N := by
  intro ls
  induction ls with
  | nil => intro st _ h; exact h
  | cons l ls ih =>
    intro st hl hs
    rw [List.foldl_cons]
    refine ih _ (fun l' h => hl l' (List.mem_cons_of_mem _ h)) ?_
    by_cases h1 : leastV st < 0 ∨ ((pageM l ss : Nat) : Int) < leastV st
    · rw [upd_yes h1]; exact hl l (List.mem_cons_self ..)
    · rw [upd_no (fun e => h1 (.inl e)) (fun e => h1 (.inr e))]; exact hs
theorem bestStops_len (ss : List ByteArray) (many : Int) : (bestStops ss many).1.length ≤ 2 := by
  unfold bestStops
  split
  · split
    · rename_i hm
      have hmb := inB_iff.1 hm
      exact foldl_len ss _ _ (fun l hl => by
        have := (wl_ok many.toNat [] 1 (Nat.le_refl _) (by simp) l hl).2
        simp at this; omega) (Nat.zero_le _)
    · simp
  · simp
/-! ### lists of lists -/
/-- Row u of the call's own numbers. -/
def OwnI (W w : World) (u : Value) (l : List Int) : Prop := w.ownsRow W.heap.size 2 1 u l.length (l.map (Value.int .i64))
/-- Since the call began in world W, slice v has gathered lists, each in a row of its own. -/
structure LL (W w : World) (v : Value) (vals : List Value) (ls : List (List Int)) : Prop where
  coll : Coll W w 24 v vals
  len : vals.length = ls.length
  own : ∀ (j : Nat) u l, vals[j]? = some u → ls[j]? = some l → OwnI W w u l
section
variable {W w w1 w3 : World} {v v1 u : Value} {vals : List Value} {ls : List (List Int)} {l : List Int}
theorem own_type {e e' n n' b b' : Nat} {v' : Value} {xs xs' : List Value} (h : w.ownsRow b e 1 v n xs) (h' : w.ownsRow b' e' 1 v' n' xs') (hne : e ≠ e') : ∀ g, v.ownBlock = some g → v'.ownBlock ≠ some g := by
  intro g hg hg'
  rcases h.2 with ⟨rfl, _⟩ | ⟨g1, c1, cur1, rfl, _, h1, _⟩
  · cases hg
  · rcases h'.2 with ⟨rfl, _⟩ | ⟨g2, c2, cur2, rfl, _, h2, _⟩
    · cases hg'
    · simp [Value.ownBlock] at hg hg'
      subst hg; subst hg'
      rw [h1] at h2
      simp at h2
      exact hne h2.2
theorem LL.on (h : LL W w v vals ls) (hb : Below w.heap.size w w1) : LL W w1 v vals ls := ⟨h.coll.on hb, h.len, fun j u l hu hl => own_below (h.own j u l hu hl) hb⟩
theorem LL.empty (h : Below W.heap.size W w) : LL W (w.alloc (.cells #[] 24)) (.slice (some ⟨w.heap.size, 0, none⟩) 0 0) [] [] :=
  ⟨Coll.empty h, rfl, fun j u l hu => by simp at hu⟩
/-- append of one value that lies at block g. -/
theorem Coll.push_at {T e : TypeId} {z0 : Value} {bytes : Nat} {xs : List Value} (hT : Try.prog.underlying T = some (.slice e)) (hinfo : (Try.prog.info? e).map (fun i => (i.zero, i.size, i.bytes)) = some (some z0, 1, bytes)) (hz0 : z0.cells.size = 1) (hby : bytes ≤ 64)
    (hc : Coll W w e v xs) (hu : u.oneCell' = true) (hn : xs.length ≤ 1099511627776) {g : Nat} (hg : w.heap.size = g)
    {ops : Array Oper} {rest : List Oper} {o : Oper} {a : Act} {Q : Exit → Act → World → Prop} (hgd : o.guard = none) (s x : Operand)
    (ho : o.op = .call { callee := .builtin .append, args := #[s, x], argTypes := #[T, T] }) (hs : a.eval s = v) (hx : a.eval x = .slice (some ⟨g, 0, none⟩) 1 1)
    (hK : ∀ v1 w1, Coll W w1 e v1 (xs ++ [u]) → w.grownBy w1 v.ownBlock → wpList Try.prog ops Q rest (a.put o.dst v1) w1) :
    wpList Try.prog ops Q (o :: rest) a (w.alloc (.cells #[u] e)) := by
  subst hg
  exact Coll.push hT hinfo hz0 hby hc hu hn hgd s x ho hs hx hK
/-- A list more, by append. -/
theorem LL.grow (h : LL W w v vals ls) (hu : OwnI W w u l) (hc : Coll W w1 24 v1 (vals ++ [u])) (hg : w.grownBy w1 v.ownBlock) : LL W w1 v1 (vals ++ [u]) (ls ++ [l]) := by
  have key : ∀ u' l', OwnI W w u' l' → OwnI W w1 u' l' := fun u' l' ho => own_kept ho hg (fun g hvg => own_type h.coll.own ho (by decide) g hvg)
  refine ⟨hc, by simp [h.len], fun j u' l' hu' hl' => ?_⟩
  by_cases hj : j < vals.length
  · rw [List.getElem?_append_left hj] at hu'
    rw [List.getElem?_append_left (by rw [← h.len]; exact hj)] at hl'
    exact key _ _ (h.own j u' l' hu' hl')
  · rw [List.getElem?_append_right (by omega)] at hu'
    rw [List.getElem?_append_right (by rw [← h.len]; omega)] at hl'
    rw [← h.len] at hl'
    have h0 : j - vals.length = 0 := by
      cases hq : j - vals.length with
      | zero => rfl
      | succ q => rw [hq] at hu'; simp at hu'
    rw [h0] at hu' hl'
    simp at hu' hl'
    subst hu'; subst hl'
    exact key _ _ hu
theorem own_lit (w : World) (h : Below W.heap.size W w) (l : List Int) (hl : l.length ≤ 1000) : OwnI W (w.alloc (.cells (l.map (Value.int .i64)).toArray 2)) (.slice (some ⟨w.heap.size, 0, none⟩) l.length l.length) l := by
  have := World.ownsRow_lit (base := W.heap.size) (size := 1) (e := 2) w (l.map (Value.int .i64)).toArray l.length h.size (by unfold maxLen; omega) (by simp)
  simpa [OwnI] using this
end
end Go.Proofs.Ytdcbdogcglinkaa
