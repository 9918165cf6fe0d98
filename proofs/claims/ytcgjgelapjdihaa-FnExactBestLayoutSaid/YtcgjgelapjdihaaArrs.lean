/-
  Arrays that lie in a block of their own: read and written element by element, and read whole.
-/
import Derived.Test.YtcgjgelapjdihaaWords
import Derived.Laws.Rows
import Derived.Laws.Tables
namespace Go.Proofs.Ytcgjgelapjdihaa
set_option maxRecDepth 100000
open Go.RowKit

/-- Block g is an array with the cells cs. -/
def Arr (w : World) (g : Nat) (T : TypeId) (cs : List Value) : Prop := w.heap[g]? = some (.cells cs.toArray T (0, 0))
section
variable {w w1 : World} {g : Nat} {T : TypeId} {cs : List Value}
theorem Arr.cell (h : Arr w g T cs) (i : Nat) : w.cell? ⟨g, i, none⟩ = cs[i]? := by
  rw [cell_of_row w g i cs.toArray T (0, 0) h]; simp
theorem Arr.open_ (h : Arr w g T cs) (i : Nat) : w.frozen? ⟨g, i, none⟩ = false := frozen_of_row w g i cs.toArray T h
theorem Arr.set_ (h : Arr w g T cs) (i : Nat) (v : Value) : Arr (w.setCell ⟨g, i, none⟩ v) g T (cs.set i v) := by
  have := heap_setCell_same w g i cs.toArray T v h
  unfold Arr
  rw [this]
  simp
theorem Arr.lt (h : Arr w g T cs) : g < w.heap.size := (Array.getElem?_eq_some_iff.1 h).1
theorem Arr.on (h : Arr w g T cs) (hb : Below w.heap.size w w1) : Arr w1 g T cs := (hb.block g h.lt).trans h
theorem Arr.draw (h : Arr w g T cs) (n : Nat) : Arr (w.drewN n) g T cs := h
theorem Arr.drew (h : Arr w g T cs) : Arr w.drew g T cs := h
theorem Arr.lay (h : Arr w g T cs) (o : Obj) : Arr (w.alloc o) g T cs := by
  unfold Arr
  rw [heap_alloc_old w o h.lt]; exact h
theorem Arr.grown (h : Arr w g T cs) {row : Option Nat} (hg : w.grownBy w1 row) (hr : row ≠ some g) : Arr w1 g T cs := (hg.block g h.lt (Ne.symm hr)).trans h
theorem Arr.new_ (w : World) (T : TypeId) (cs : List Value) : Arr (w.alloc (.cells cs.toArray T)) w.heap.size T cs := heap_alloc_new w _

/-- 'var x [N]T'. -/
theorem Arr.made {zs : List Value} (hz : (Try.prog.info? T).map (·.zero) = some (some (.agg zs.toArray)))
    {ops : Array Oper} {rest : List Oper} {o : Oper} {a : Act} {Q : Exit → Act → World → Prop} (hgd : o.guard = none) (ho : o.op = .alloc T)
    (hK : Arr (w.alloc (.cells zs.toArray T)) w.heap.size T zs → wpList Try.prog ops Q rest (a.put o.dst (.pointer (some ⟨w.heap.size, 0, none⟩))) (w.alloc (.cells zs.toArray T))) :
    wpList Try.prog ops Q (o :: rest) a w := by
  refine wpList_plain hgd fun _ hK1 => ?_
  have hr : (Instr.alloc T true (.tuple #[])).run Try.prog w = .ok (.pointer (some ⟨w.heap.size, 0, none⟩)) (w.alloc (.cells zs.toArray T)) := by
    cases hi : Try.prog.info? T with
    | none => simp [hi] at hz
    | some i =>
      simp [hi] at hz
      have hp : Sem.run Try.prog program w = .ok Try.prog w := rfl
      have hn : ∀ (q : Obj) (W : World), Sem.run Try.prog (Sem.new q Sem.pure) W = .ok W.heap.size (W.alloc q) := fun _ _ => rfl
      simp only [Instr.alloc, zeroValue, typeInfo, newVar, newRow, newObj, Value.cells, hp, hn, hi, hz, Sem.run_bind, Sem.run_pure, Result.andThen_ok]
  unfold Oper.wp execOp
  simp only [ho, hr, Sem.run_bind, Result.andThen_ok]
  exact hK1 _ _ (hK (Arr.new_ w T zs))
/-- The composite literal of an array, its parts reckoned. -/
theorem Arr.lit {zs : List Value} (hz : Try.prog.built T [] = some zs.toArray)
    {ops : Array Oper} {rest : List Oper} {o : Oper} {a : Act} {Q : Exit → Act → World → Prop} (hgd : o.guard = none) (ho : o.op = .build T #[])
    (hK : wpList Try.prog ops Q rest (a.put o.dst (.agg zs.toArray)) w) :
    wpList Try.prog ops Q (o :: rest) a w := by
  refine wpList_plain hgd fun _ hK1 => ?_
  have hr := run_build (P := Try.prog) w T #[] zs.toArray hz
  unfold Oper.wp execOp
  simp only [ho, Sem.run_bind, List.map_toArray, List.map_nil, hr, Result.andThen_ok]
  exact hK1 _ _ hK
/-- A whole array stored. -/
theorem Arr.put_ (h : Arr w g T cs) {zs : List Value} (hi : (Try.prog.info? T).map (·.size) = some zs.length) (hl : cs.length = zs.length) (h1 : ∀ v ∈ zs, v.oneCell' = true)
    {ops : Array Oper} {rest : List Oper} {o : Oper} {a : Act} {Q : Exit → Act → World → Prop} (hgd : o.guard = none) (x y : Operand) (ho : o.op = .store T x y)
    (hx : a.eval x = .pointer (some ⟨g, 0, none⟩)) (hy : a.eval y = .agg zs.toArray)
    (hK : ∀ w', Arr w' g T zs → w.grownBy w' (some g) → wpList Try.prog ops Q rest (a.put o.dst undef) w') :
    wpList Try.prog ops Q (o :: rest) a w := by
  refine wpList_store_row hgd T x y ho g zs.toArray hx hy T cs.toArray h (by simpa using hi) (by simpa using hl) (by simpa [Array.all_eq_true_iff_forall_mem] using h1) ?_
  refine hK _ (setRow_heap w g cs.toArray zs.toArray T (0, 0) h) ⟨rfl, rfl, rfl, by simp, fun k _ hk => setRow_other w g k zs.toArray (fun e => hk (by rw [e]))⟩
/-- A whole array read. -/
theorem Arr.get_ (h : Arr w g T cs) {len : Nat} {e : TypeId} (hu : Try.prog.underlying T = some (.array len e)) (hi : (Try.prog.info? T).map (·.size) = some cs.length)
    {ops : Array Oper} {rest : List Oper} {o : Oper} {a : Act} {Q : Exit → Act → World → Prop} (hgd : o.guard = none) (x : Operand) (ho : o.op = .load T x)
    (hx : a.eval x = .pointer (some ⟨g, 0, none⟩)) (hK : wpList Try.prog ops Q rest (a.put o.dst (.agg cs.toArray)) w) :
    wpList Try.prog ops Q (o :: rest) a w :=
  wpList_load_row hgd T x ho g hx T cs.toArray (0, 0) (.array len e) h hu rfl (by simpa using hi) hK
end
/-- Element i of an array value. -/
theorem run_index_arr {T e : TypeId} {len : Nat} {k : IntKind} (hu : Try.prog.underlying T = some (.array len e)) (he : Try.prog.underlying e = some (.int k)) (hs : (Try.prog.info? e).map (·.size) = some 1)
    {cs : List Value} {i : Nat} {v : Value} (hv : cs[i]? = some v) (hi : i < len) (W : World) :
    (Instr.index T (.agg cs.toArray) (.int .i64 (i : Int))).run Try.prog W = .ok v W := by
  cases hie : Try.prog.info? e with
  | none => simp [hie] at hs
  | some ie =>
    simp [hie] at hs
    simp [Instr.index, asIntOf, run_underlying hu, run_underlying he, part, isAgg, sizeOf, typeInfo, hie, hs, hi, hv]
/-- A result that is an array in a block of its own. -/
theorem results_arr {fn : Func} {t : Tmp} {T e : TypeId} {g len : Nat} {w : World} {cs : List Value} (h : fn.results = #[.cell t T]) (hA : Arr w g T cs) (hu : Try.prog.underlying T = some (.array len e)) (hi : (Try.prog.info? T).map (·.size) = some cs.length)
    {tmps : Array Value} (ht : tmps.getD t undef = .pointer (some ⟨g, 0, none⟩)) : (results fn tmps).run Try.prog w = .ok (.agg cs.toArray) w := by
  have hr := run_loadVar_row (P := Try.prog) w g T T cs.toArray (0, 0) (.array len e) hA hu rfl (by simpa using hi)
  rw [Array.getD_eq_getD_getElem?] at ht
  simp [results, h, ht, asAddr, hr]
end Go.Proofs.Ytcgjgelapjdihaa
