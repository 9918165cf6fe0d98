/-
  Slices of slices of texts: read, copied, compared, marked, sized.
-/
import Derived.Test.YtanpmjbephelaaaStrs
import Derived.Test.YtanpmjbephelaaaStrArg
import Derived.Deep.RegionLaw
namespace Go.Proofs.Ytanpmjbephelaaa
set_option maxRecDepth 100000
open Go.RowKit

/-- The slice value at A, of n rows, reads as the table rows. -/
structure Tb (w : World) (A : Option Addr) (n : Nat) (rows : List (List ByteArray)) : Prop where
  len : rows.length = n
  max : n ≤ 9223372036854775807
  row : ∀ (k : Nat) (l : List ByteArray), rows[k]? = some l → ∃ (b o : Nat) (Ak : Option Addr) (ck : Nat), A = some ⟨b, o, none⟩ ∧ b < w.heap.size ∧ w.cell? ⟨b, o + k, none⟩ = some (.slice Ak l.length ck) ∧ Sl Value.string w Ak l.length l
section
variable {w w1 : World} {A : Option Addr} {n : Nat} {rows : List (List ByteArray)}
theorem Tb.on (h : Tb w A n rows) (hb : Below w.heap.size w w1) : Tb w1 A n rows := ⟨h.len, h.max, fun k l hl => by
  obtain ⟨b, o, Ak, ck, h1, h2, h3, h4⟩ := h.row k l hl
  have hs := hb.size
  exact ⟨b, o, Ak, ck, h1, by omega, (hb.cell (p := ⟨b, _, none⟩) h2).trans h3, h4.on hb⟩⟩
theorem Tb.drew1 (h : Tb w A n rows) : Tb w.drew A n rows := ⟨h.len, h.max, fun k l hl => by
  obtain ⟨b, o, Ak, ck, h1, h2, h3, h4⟩ := h.row k l hl
  exact ⟨b, o, Ak, ck, h1, h2, h3, ⟨h4.len, h4.max, h4.rd⟩⟩⟩
theorem Tb.nil_ (w : World) : Tb w none 0 [] := ⟨rfl, Nat.zero_le _, fun k l hl => by simp at hl⟩
theorem Tb.end_ (h : Tb w A n rows) {k : Nat} (hk : ¬ k < n) : rows.drop k = [] := List.drop_eq_nil_of_le (by have := h.len; omega)
theorem Tb.at_ (h : Tb w A n rows) (hb : Below w.heap.size w w1) {k : Nat} (hk : k < n) : ∃ b o l Ak ck, A = some ⟨b, o, none⟩ ∧ b < w.heap.size ∧ rows[k]? = some l ∧ w1.cell? ⟨b, o + k, none⟩ = some (.slice Ak l.length ck) ∧ Sl Value.string w1 Ak l.length l := by
  have hl : k < rows.length := by rw [h.len]; exact hk
  obtain ⟨b, o, Ak, ck, h1, h2, h3, h4⟩ := h.row k rows[k] (List.getElem?_eq_getElem hl)
  exact ⟨b, o, rows[k], Ak, ck, h1, h2, List.getElem?_eq_getElem hl, (hb.cell (p := ⟨b, _, none⟩) h2).trans h3, h4.on hb⟩
/-- Row k again, at a known address. -/
theorem Tb.cell {b o : Nat} (h : Tb w (some ⟨b, o, none⟩) n rows) (hb : Below w.heap.size w w1) {k : Nat} {l : List ByteArray} (hl : rows[k]? = some l) : ∃ Ak ck, w1.cell? ⟨b, o + k, none⟩ = some (.slice Ak l.length ck) ∧ Sl Value.string w1 Ak l.length l := by
  obtain ⟨b', o', Ak, ck, h1, h2, h3, h4⟩ := h.row k l hl
  obtain ⟨rfl, rfl⟩ : b = b' ∧ o = o' := by simpa using h1
  exact ⟨Ak, ck, (hb.cell (p := ⟨b, _, none⟩) h2).trans h3, h4.on hb⟩
end

/-! ### size -/
def szRowsGo : Int → List (List ByteArray) → Int
  | left, [] => left
  | left, r :: rs => if szStrs left r < 0 then -1 else szRowsGo (szStrs left r) rs
def szStringSS (left : Int) (rows : List (List ByteArray)) : Int := if left - (rows.length : Int) < 0 then -1 else szRowsGo (left - (rows.length : Int)) rows
theorem szStrsGo_mono {xs : List ByteArray} : ∀ {left : Int}, szStrsGo left xs ≤ max left (-1) := by
  induction xs with
  | nil => intro left; rw [szStrsGo]; omega
  | cons y ys ih =>
    intro left
    rw [szStrsGo]
    split
    · omega
    · have := ih (left := left - (y.size : Int)); omega
theorem szStrs_mono {left : Int} {xs : List ByteArray} : szStrs left xs ≤ max left (-1) := by
  unfold szStrs
  split
  · omega
  · have := szStrsGo_mono (xs := xs) (left := left - (xs.length : Int)); omega
theorem szRowsGo_le {rs : List (List ByteArray)} : ∀ {left : Int}, 0 ≤ szRowsGo left rs → ∀ r ∈ rs, (r.length : Int) ≤ left ∧ ∀ x ∈ r, (x.size : Int) ≤ left := by
  induction rs with
  | nil => simp
  | cons r rs ih =>
    intro left h r' hr'
    rw [szRowsGo] at h
    split at h
    · omega
    · rename_i hc
      rcases List.mem_cons.1 hr' with rfl | hr'
      · exact szStrs_le (by omega)
      · have h1 := ih h r' hr'
        have h2 := szStrs_mono (left := left) (xs := r)
        refine ⟨by omega, fun x hx => ?_⟩
        have := h1.2 x hx
        omega
theorem szStringSS_le {left : Int} {rows : List (List ByteArray)} (h : 0 ≤ szStringSS left rows) : (rows.length : Int) ≤ left ∧ ∀ r ∈ rows, (r.length : Int) ≤ left ∧ ∀ x ∈ r, (x.size : Int) ≤ left := by
  unfold szStringSS at h
  split at h
  · omega
  · rename_i hc
    refine ⟨by omega, fun r hr => ?_⟩
    have := szRowsGo_le h r hr
    refine ⟨by omega, fun x hx => ?_⟩
    have := this.2 x hx
    omega
set_option maxHeartbeats 800000 in
theorem szStringSS_any (w : World) (A : Option Addr) (n c : Nat) (rows : List (List ByteArray)) (left : Int) (h : Tb w A n rows) (hw : ∀ r ∈ rows, ∀ x ∈ r, x.size ≤ maxLen) (h0 : 0 ≤ left) (h1 : left ≤ 1048576) :
    Calls Try.prog 39 #[.slice A n c, .int .i64 left] w fun e w' => e = .returned (.int .i64 (szStringSS left rows)) ∧ w = w' := by
  have hn := h.max
  have HW := hide hw
  clear hw
  by_cases hl : left - (n : Int) < 0
  · have HR : Hid (szStringSS left rows = -1) := by unfold Hid szStringSS; rw [h.len, if_pos hl]
    go_enter Try.func39, Try.ntmps39
    go_wp2
    go_ret
    exact ⟨ret_int HR.out.symm, rfl⟩
  · have HR0 : Hid (szStringSS left rows = szRowsGo (left - (n : Int)) rows) := by unfold Hid szStringSS; rw [h.len, if_neg hl]
    go_enter Try.func39, Try.ntmps39
    go_wp2
    go_loop [1, 5] (fun lv i => ∃ (k : Nat) (l : Int), k ≤ n ∧ i = .int .i64 k ∧ lv = .int .i64 l ∧ 0 ≤ l ∧ l ≤ 1048576 ∧ szRowsGo l (rows.drop k) = szRowsGo (left - (n : Int)) rows) (fun _ i => n - (intOf i).toNat)
    case atStart => exact ⟨0, _, Nat.zero_le _, rfl, rfl, by omega, by omega, by simp⟩
    case round =>
      obtain ⟨k, l, hk, rfl, rfl, hl0, hl1, HR⟩ := hrel
      by_cases hlt : k < n
      · obtain ⟨b, o, r, Ak, ck, rfl, -, hx, hc, hs⟩ := h.at_ (Below.refl _ _) hlt
        have hm := hide (HW.out _ (List.mem_of_getElem? hx))
        rw [drop_get hx, szRowsGo] at HR
        obtain ⟨z, hz⟩ : ∃ z, szStrs l r = z := ⟨_, rfl⟩
        have hzm := szStrs_mono (left := l) (xs := r)
        rw [hz] at HR hzm
        have HZ := hide hz
        clear hz hx
        by_cases hneg : z < 0
        · rw [if_pos hneg] at HR
          have H2 := hide HR
          clear HR
          go_wp2_with (go_at_call 14; refine (szStringS_any _ _ _ _ _ _ hs hm.out hl0 hl1).mono ?_; rintro e w1 ⟨rfl, rfl⟩; rw [HZ.out])
          go_ret
          exact ⟨ret_int (by rw [HR0.out, ← H2.out]), rfl⟩
        · rw [if_neg hneg] at HR
          have H2 := hide HR
          clear HR
          go_wp2_with (go_at_call 14; refine (szStringS_any _ _ _ _ _ _ hs hm.out hl0 hl1).mono ?_; rintro e w1 ⟨rfl, rfl⟩; rw [HZ.out])
          go_round
          case rel => exact ⟨k + 1, z, by omega, by go_num, rfl, by omega, by omega, H2.out⟩
          case measure => simp [intOf]; omega
      · rw [h.end_ hlt, szRowsGo] at HR
        have H2 := hide HR
        clear HR
        go_wp2
        go_ret
        exact ⟨ret_int (by rw [HR0.out, ← H2.out]), rfl⟩

/-! ### copy -/
theorem strs_info2 : (Try.prog.info? 22).map (fun i => (i.zero, i.size, i.bytes)) = some (some (.slice none 0 0), 1, 24) := by kernel_rfl
/-- A table that the call itself made since world W: a block of rows, and the rows behind it, each in a block of its own, later ones in later blocks. -/
structure Tc (W w : World) (g n : Nat) (rows : List (List ByteArray)) (vals : List Value) : Prop where
  own : w.ownsRow W.heap.size 22 1 (.slice (some ⟨g, 0, none⟩) n n) n vals
  below : Below W.heap.size W w
  part : ∀ (k : Nat) (l : List ByteArray), rows[k]? = some l → ∃ (Ak : Option Addr) (ck : Nat), vals[k]? = some (Value.slice Ak l.length ck) ∧ w.ownsRow W.heap.size 9 1 (.slice Ak l.length ck) l.length (l.map Value.string) ∧ ∀ q, (Value.slice Ak l.length ck).ownBlock = some q → g < q
  asc : ∀ (j k : Nat) (u v : Value) (a b : Nat), j < k → k < rows.length → vals[j]? = some u → vals[k]? = some v → u.ownBlock = some a → v.ownBlock = some b → a < b
theorem part_step_t (vs : List Value) (k n : Nat) (x : Value) (hv : vs.length = k) (hk : k < n) :
    (vs ++ List.replicate (n - k) (Value.slice none 0 0)).set k x = (vs ++ [x]) ++ List.replicate (n - (k + 1)) (Value.slice none 0 0) := by
  rw [List.set_append_right _ _ (by omega), hv, Nat.sub_self, show n - k = (n - (k + 1)) + 1 from by omega, List.replicate_succ, List.set_cons_zero]
  simp
theorem Tc.tb {W w : World} {g n : Nat} {rows : List (List ByteArray)} {vals : List Value} (h : Tc W w g n rows vals) (hl : rows.length = n) (hm : n ≤ 9223372036854775807) : Tb w (some ⟨g, 0, none⟩) n rows := by
  refine ⟨hl, hm, fun k l hk => ?_⟩
  obtain ⟨Ak, ck, h1, h2, _⟩ := h.part k l hk
  have hlt := (List.getElem?_eq_some_iff.1 hk).1
  refine ⟨g, 0, Ak, ck, rfl, (h.own.lt g rfl).2, ?_, Sl.of_own h2⟩
  rw [Nat.zero_add, h.own.cellAt k (by omega)]
  exact h1

set_option maxHeartbeats 1600000 in
theorem toStringSS_any (w : World) (A : Option Addr) (n c : Nat) (rows : List (List ByteArray)) (h : Tb w A n rows) (hn : n ≤ 1048576) (hr : ∀ r ∈ rows, r.length ≤ 1048576) :
    Calls Try.prog 41 #[.slice A n c] w fun e w' => ∃ vals, e = .returned (.slice (some ⟨w.heap.size, 0, none⟩) n n) ∧ Tc w w' w.heap.size n rows vals := by
  obtain ⟨i0, hi, hz0, hz1, hz2⟩ := info_parts strs_info2
  have HRL := hide hr
  have hlen := hide h.len
  clear hr
  go_enter Try.func41, Try.ntmps41
  go_wp2_with (at_make; refine wpList_make_full _ rfl _ _ 43 rfl w.heap.size 22 i0 (.slice none 0 0) 1 Try.underlying43 hi hz0 hz1 .i64 .i64 _ _ n rfl rfl rfl rfl (by rw [hz2]; omega) (by simp only [maxLen]; omega) (Nat.le_refl _) ?_; intro w1 hown1 hg1)
  have hb1 : Below w.heap.size w w1 := (Below.refl _ _).grown hg1 (Nat.le_refl _) (by simp)
  simp only [Value.cells, Nat.mul_one, toList_madeCells_one] at hown1
  go_loopw [4] (fun i wr => ∃ (k : Nat) (vs : List Value), k ≤ n ∧ i = .int .i64 k ∧ vs.length = k ∧ Tc w wr w.heap.size n (rows.take k) (vs ++ List.replicate (n - k) (.slice none 0 0))) (fun i _ => n - (intOf i).toNat)
  case atStart => exact ⟨0, [], Nat.zero_le _, rfl, rfl, by simpa using hown1, hb1, fun k l hl => by simp at hl, fun j k u v a b _ hk => by simp at hk⟩
  case round =>
    clear hown1 hg1 hb1
    obtain ⟨k, vs, hk, rfl, hvs, hT⟩ := hrel
    have hb := hT.below
    by_cases hlt : k < n
    · obtain ⟨b, o, r, Ak, ck, rfl, hbl, hx, hc, hs⟩ := h.at_ hb hlt
      have hrl := HRL.out _ (List.mem_of_getElem? hx)
      have hT2 := hide hT
      have hvs2 := hide hvs
      have hx2 := hide hx
      clear hT hvs hx
      go_wp2_with fail
      refine (toStringS_any _ _ _ _ r hs hrl).mono ?_
      rintro e w2 ⟨v2, rfl, hc2⟩
      obtain ⟨A3, c3, rfl, -, -, -⟩ := Sl.of_coll hc2
      have hb2 := hc2.below
      have hown2 := own_below hT2.out.own hb2
      have hcell := hown2.cellAt k (by omega)
      rw [List.getElem?_append_right (by rw [hvs2.out]; exact Nat.le_refl _), hvs2.out, Nat.sub_self, List.getElem?_replicate, if_pos (by omega)] at hcell
      have hfr := hown2.frozenAt k
      have hst := hown2.stored k (.slice A3 r.length c3)
      rw [part_step_t vs k n (.slice A3 r.length c3) hvs2.out hlt] at hst
      have HN : Hid (Tc w (w2.setCell ⟨w.heap.size, k, none⟩ (.slice A3 r.length c3)) w.heap.size n (rows.take (k + 1)) ((vs ++ [.slice A3 r.length c3]) ++ List.replicate (n - (k + 1)) (.slice none 0 0))) := by
        have hgr := hst.2
        have hold : ∀ q, (Value.slice A3 r.length c3).ownBlock = some q → wr.heap.size ≤ q ∧ q < w2.heap.size := fun q hq => hc2.own.lt q hq
        have hgl := (hT2.out.own.lt w.heap.size rfl).2
        refine ⟨hst.1, (Below.step hb hb2).grown hgr (Below.step hb hb2).size (fun q hq => by simp at hq; omega), fun j l hl => ?_, fun j k' u v a bb hjk hk' hu hv ha hbb => ?_⟩
        · rw [List.getElem?_take] at hl
          split at hl
          · rename_i hj
            by_cases hjk : j < k
            · obtain ⟨Aj, cj, h1, h2, h3⟩ := hT2.out.part j l (by rw [List.getElem?_take, if_pos hjk]; exact hl)
              refine ⟨Aj, cj, ?_, own_kept (own_below h2 hb2) hgr (fun q hq => ?_), h3⟩
              · rw [List.getElem?_append_left (by rw [List.length_append, hvs2.out]; omega), List.getElem?_append_left (by rw [hvs2.out]; exact hjk)]
                rw [List.getElem?_append_left (by rw [hvs2.out]; exact hjk)] at h1
                exact h1
              · simp at hq
                subst hq
                intro e
                have := h3 _ e
                omega
            · obtain rfl : j = k := by omega
              rw [hx2.out] at hl
              cases hl
              refine ⟨A3, c3, ?_, ?_, fun q hq => ?_⟩
              · rw [List.getElem?_append_left (by rw [List.length_append, hvs2.out]; simp), List.getElem?_append_right (by rw [hvs2.out]; exact Nat.le_refl _), hvs2.out, Nat.sub_self]; rfl
              · have h5 := hc2.since hb
                have h6 := h5.own
                rw [List.length_map] at h6
                refine own_kept h6 hgr (fun q hq => ?_)
                simp at hq
                subst hq
                intro e
                have := hold _ e
                omega
              · have := hold _ hq
                omega
          · cases hl
        · have hkk : k' < k + 1 := by rw [List.length_take, hlen.out] at hk'; omega
          by_cases hk2 : k' < k
          · rw [List.getElem?_append_left (by rw [List.length_append, hvs2.out]; omega), List.getElem?_append_left (by rw [hvs2.out]; omega)] at hu hv
            exact hT2.out.asc j k' u v a bb hjk (by rw [List.length_take, hlen.out]; omega) (by rw [List.getElem?_append_left (by rw [hvs2.out]; omega)]; exact hu) (by rw [List.getElem?_append_left (by rw [hvs2.out]; omega)]; exact hv) ha hbb
          · obtain rfl : k' = k := by omega
            rw [List.getElem?_append_left (by rw [List.length_append, hvs2.out]; simp), List.getElem?_append_right (by rw [hvs2.out]; exact Nat.le_refl _), hvs2.out, Nat.sub_self] at hv
            simp at hv
            subst hv
            have h7 := hold _ hbb
            have hjl : j < rows.length := by rw [hlen.out]; omega
            obtain ⟨Aj, cj, h1, h2, h3⟩ := hT2.out.part j rows[j] (by rw [List.getElem?_take, if_pos hjk, List.getElem?_eq_getElem hjl])
            rw [List.getElem?_append_left (by rw [List.length_append, hvs2.out]; omega), List.getElem?_append_left (by rw [hvs2.out]; exact hjk)] at hu
            rw [List.getElem?_append_left (by rw [hvs2.out]; exact hjk), hu] at h1
            cases h1
            have := (h2.lt a ha).2
            omega
      clear hst hown2 hc2
      go_wp2
      go_roundw
      case rel => exact ⟨k + 1, vs ++ [.slice A3 r.length c3], by omega, by go_num, by rw [List.length_append, hvs2.out]; rfl, HN.out⟩
      case measure => simp [intOf]; omega
    · obtain rfl : k = n := by omega
      have HN : Hid (Tc w wr w.heap.size k rows (vs ++ List.replicate (k - k) (.slice none 0 0))) := by
        have e : rows.take k = rows := List.take_of_length_le (by rw [hlen.out]; exact Nat.le_refl _)
        rw [e] at hT
        exact hT
      clear hT hvs hb
      go_wp2
      go_ret
      exact ⟨_, rfl, HN.out⟩

/-! ### compare -/
set_option maxHeartbeats 800000 in
theorem eqStringSS_same (w : World) (A A' : Option Addr) (n c c' : Nat) (rows : List (List ByteArray)) (h1 : Tb w A n rows) (h2 : Tb w A' n rows) :
    Calls Try.prog 43 #[.slice A n c, .slice A' n c'] w fun e w' => e = .returned (.bool true) ∧ Below w.heap.size w w' := by
  have hn := h1.max
  go_enter Try.func43, Try.ntmps43
  go_wp2
  go_loopw [5] (fun i wr => ∃ k : Nat, k ≤ n ∧ i = .int .i64 k ∧ Below w.heap.size w wr) (fun i _ => n - (intOf i).toNat)
  case atStart => exact ⟨0, Nat.zero_le _, rfl, Below.refl _ _⟩
  case round =>
    obtain ⟨k, hk, rfl, hb⟩ := hrel
    by_cases hlt : k < n
    · obtain ⟨b, o, r, Ak, ck, rfl, -, hx, hc, hs⟩ := h1.at_ hb hlt
      obtain ⟨b', o', r', Ak', ck', rfl, -, hx', hc', hs'⟩ := h2.at_ hb hlt
      obtain rfl : r = r' := by rw [hx] at hx'; exact Option.some.inj hx'
      have hsd : Sl Value.string wr.drew Ak r.length r := ⟨hs.len, hs.max, hs.rd⟩
      have hsd' : Sl Value.string wr.drew Ak' r.length r := ⟨hs'.len, hs'.max, hs'.rd⟩
      clear hx hx'
      go_wp2
      go_region_law (go_simp; go_at_call 19; refine (eqStringS_same _ _ _ _ _ _ r hsd hsd').mono ?_; rintro e w2 ⟨rfl, hb2⟩; have hB := Below.step hb.drew hb2)
      all_goals
        go_wp2
        go_roundw
        case rel => exact ⟨k + 1, by omega, by go_num, hB⟩
        case measure => simp [intOf]; omega
    · go_wp2
      go_ret
      exact ⟨rfl, hb⟩

/-! ### mark -/
/-- Only blocks from lo up to hi may have changed. -/
structure Chg (lo hi : Nat) (w w' : World) : Prop where
  os : w'.os = w.os
  tape : w'.tape = w.tape
  output : w'.output = w.output
  size : w.heap.size ≤ w'.heap.size
  block : ∀ k, k < w.heap.size → (k < lo ∨ hi ≤ k) → w'.heap[k]? = w.heap[k]?
theorem Chg.below {lo hi B : Nat} {W w w' : World} (h : Chg lo hi w w') (hb : Below B W w) (hB : B ≤ lo) (hs : B ≤ w.heap.size) : Below B W w' :=
  ⟨h.os.trans hb.os, h.tape.trans hb.tape, h.output.trans hb.output, Nat.le_trans hb.size h.size, fun k hk => (h.block k (by omega) (.inl (by omega))).trans (hb.block k hk)⟩
theorem own_chg {lo hi base n : Nat} {e : TypeId} {w w' : World} {v : Value} {xs : List Value} (h : w.ownsRow base e 1 v n xs) (hc : Chg lo hi w w') (hv : ∀ q, v.ownBlock = some q → q < lo ∨ hi ≤ q) : w'.ownsRow base e 1 v n xs := by
  refine ⟨h.1, ?_⟩
  rcases h.2 with h' | ⟨g, cap, cur, e1, e2, e3, e4⟩
  · exact .inl h'
  · refine .inr ⟨g, cap, cur, e1, e2, ?_, e4⟩
    rw [hc.block g (Array.getElem?_eq_some_iff.1 e3).1 (hv g (by rw [e1]; rfl))]
    exact e3
set_option maxHeartbeats 1600000 in
theorem markStringSS_any {W w0 : World} (g n : Nat) (rows : List (List ByteArray)) (vals : List Value) (w : World) (hT : Tc W w0 g n rows vals) (hb0 : Below w0.heap.size w0 w) (hl : rows.length = n) (hn : n ≤ 1048576) (hr : ∀ r ∈ rows, r.length ≤ 1048576) (k0 : Int) (hk0 : 0 ≤ k0) (hk1 : k0 ≤ 1048576) :
    Calls Try.prog 44 #[.slice (some ⟨g, 0, none⟩) n n, .int .i64 k0] w fun e w' => ∃ z, e = .returned (.int .i64 z) ∧ 0 ≤ z ∧ z ≤ 2199023255552 ∧ Chg W.heap.size w0.heap.size w w' := by
  have HRL := hide hr
  have HL := hide hl
  clear hr
  replace hT := hide hT
  go_enter Try.func44, Try.ntmps44
  go_wp2
  go_loopw [1, 5] (fun kv i wr => ∃ (j : Nat) (z : Int), j ≤ n ∧ i = .int .i64 j ∧ kv = .int .i64 z ∧ 0 ≤ z ∧ z ≤ 1048576 + 1048576 * j ∧ Chg W.heap.size w0.heap.size w wr ∧ wr.ownsRow W.heap.size 22 1 (.slice (some ⟨g, 0, none⟩) n n) n vals ∧ ∀ (q : Nat) (l : List ByteArray), j ≤ q → rows[q]? = some l → ∃ (Ak : Option Addr) (ck : Nat), vals[q]? = some (Value.slice Ak l.length ck) ∧ wr.ownsRow W.heap.size 9 1 (.slice Ak l.length ck) l.length (l.map Value.string)) (fun _ i _ => n - (intOf i).toNat)
  case atStart =>
    refine ⟨0, k0, Nat.zero_le _, rfl, rfl, hk0, by omega, ⟨rfl, rfl, rfl, Nat.le_refl _, fun _ _ _ => rfl⟩, own_below hT.out.own hb0, fun q l _ hq => ?_⟩
    obtain ⟨Ak, ck, h1, h2, _⟩ := hT.out.part q l hq
    exact ⟨Ak, ck, h1, own_below h2 hb0⟩
  case round =>
    obtain ⟨j, z, hj, rfl, rfl, hz0, hz1, hC, hown, hP⟩ := hrel
    by_cases hlt : j < n
    · have hjl : j < rows.length := by rw [HL.out]; exact hlt
      obtain ⟨l, hx⟩ : ∃ l, rows[j]? = some l := ⟨_, List.getElem?_eq_getElem hjl⟩
      obtain ⟨Ak, ck, h1, h2⟩ := hP j l (Nat.le_refl _) hx
      have hll := HRL.out _ (List.mem_of_getElem? hx)
      have hcell := hown.cellAt j (by omega)
      rw [h1] at hcell
      have HH := hide (And.intro hown (And.intro hP (And.intro hC (And.intro h1 hx))))
      clear hown hP hC h1 hx
      go_wp2_with fail
      refine (markStringS_any _ _ _ _ _ _ _ h2 (fun u hu => by obtain ⟨s, _, rfl⟩ := List.mem_map.1 hu; exact ⟨s, rfl⟩) (by unfold maxLen; omega) hz0 (by omega)).mono ?_
      rintro e w2 ⟨rfl, hg2, hm2⟩
      have HN : Hid (Chg W.heap.size w0.heap.size w w2 ∧ w2.ownsRow W.heap.size 22 1 (.slice (some ⟨g, 0, none⟩) n n) n vals ∧ ∀ (q : Nat) (l : List ByteArray), j + 1 ≤ q → rows[q]? = some l → ∃ (Ak : Option Addr) (ck : Nat), vals[q]? = some (Value.slice Ak l.length ck) ∧ w2.ownsRow W.heap.size 9 1 (.slice Ak l.length ck) l.length (l.map Value.string)) := by
        obtain ⟨hown, hP, hC, h1, hx⟩ := HH.out
        obtain ⟨Ak', ck', g1, g2, g3⟩ := hT.out.part j l hx
        rw [h1] at g1
        cases g1
        refine ⟨⟨hg2.os.trans hC.os, hg2.tape.trans hC.tape, hg2.output.trans hC.output, Nat.le_trans hC.size hg2.size, fun k hk hkk => ?_⟩, own_kept hown hg2 (fun q hq => ?_), fun q l' hq hl' => ?_⟩
        · rw [hg2.block k (Nat.lt_of_lt_of_le hk hC.size) (fun e => ?_)]
          · exact hC.block k hk hkk
          · have := g2.lt k e.symm
            omega
        · have := g3 q hq
          simp [Value.ownBlock]
          omega
        · obtain ⟨Aq, cq, e1, e2⟩ := hP q l' (by omega) hl'
          refine ⟨Aq, cq, e1, own_kept e2 hg2 (fun a ha hb => ?_)⟩
          have := hT.out.asc j q _ _ a a (by omega) (by have := (List.getElem?_eq_some_iff.1 hl').1; exact this) h1 e1 ha hb
          omega
      clear hm2 hg2 HH h2
      go_wp2
      go_roundw
      case rel => exact ⟨j + 1, z + l.length, by omega, by go_num, rfl, by omega, by omega, HN.out.1, HN.out.2.1, HN.out.2.2⟩
      case measure => simp [intOf]; omega
    · have hCC := hide hC
      clear hP hown hC
      go_wp2
      go_ret
      exact ⟨z, rfl, hz0, by omega, hCC.out⟩
end Go.Proofs.Ytanpmjbephelaaa
