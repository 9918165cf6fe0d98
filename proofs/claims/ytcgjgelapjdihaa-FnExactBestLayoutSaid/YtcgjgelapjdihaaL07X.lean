/-
  BestLayout of the program: what it returns, for all arguments.
-/
import Derived.Test.YtcgjgelapjdihaaL07V
import Derived.Test.YtcgjgelapjdihaaL07S
import Derived.Deep.RegionLaw
namespace Go.Proofs.Ytcgjgelapjdihaa
set_option maxRecDepth 100000
open Go.RowKit

theorem own_box {w : World} {base n : Nat} {u : Value} {l : List Value} {B : Nat} {cs : List Value} (h : w.ownsRow base 2 1 u n l) (hA : Arr w B 38 cs) : u.ownBlock ≠ some B := by
  intro hg
  rcases h.2 with ⟨rfl, _⟩ | ⟨g1, c1, cur1, rfl, _, h1, _⟩
  · cases hg
  · simp [Value.ownBlock] at hg
    subst hg
    unfold Arr at hA
    rw [h1] at hA
    simp at hA
/-- The variable in block B holds the slice v, which has gathered the numbers xs since W. -/
structure Boxed (W w : World) (B : Nat) (v : Value) (xs : List Int) : Prop where
  coll : Coll W w 2 v (xs.map (Value.int .i64))
  box : Arr w B 38 [v]
theorem Boxed.put {W w : World} {B : Nat} {v v1 : Value} {xs : List Int} (hB : W.heap.size ≤ B) (hA : Arr w B 38 [v]) (hc : Coll W w 2 v1 (xs.map (Value.int .i64))) : Boxed W (w.setCell ⟨B, 0, none⟩ v1) B v1 xs :=
  ⟨⟨own_kept hc.own (grow_set7 w B 0 v1) (fun g hg => by cases hg; exact own_box hc.own hA), hc.below.grown (grow_set7 w B 0 v1) hc.below.size (fun q hq => by cases hq; exact hB)⟩, hA.set_ 0 v1⟩
/-- What lies in the first n cells of block g. -/
def rdRow (w : World) (g n : Nat) : List Int := (List.range n).map fun j => match w.cell? ⟨g, j, none⟩ with | some (.int _ x) => x | _ => 0
theorem CRow.rd {W w : World} {g n c : Nat} {l : List Int} (h : CRow W w g n c l) : rdRow w g n = l := by
  have hl := h.len
  apply List.ext_getElem?
  intro j
  unfold rdRow
  rw [List.getElem?_map]
  by_cases hj : j < n
  · rw [List.getElem?_range hj, List.getElem?_eq_getElem (by omega)]
    simp only [Option.map_some]
    rw [h.cell (List.getElem?_eq_getElem (by omega))]
  · rw [List.getElem?_eq_none (by simp; omega), List.getElem?_eq_none (by omega)]; rfl
theorem chain_fuel : ∀ (f : Nat) (l : List Int), (chainI f l).length < f → chainI (f + 1) l = chainI f l := by
  intro f
  induction f with
  | zero => intro l h; omega
  | succ f ih =>
    intro l h
    rw [chainI] at h
    conv => lhs; rw [chainI]
    conv => rhs; rw [chainI]
    cases hn : nextI l with
    | none => rfl
    | some r =>
      rw [hn] at h
      simp only [List.length_cons] at h ⊢
      rw [ih r (by omega)]
theorem chain_some {l r : List Int} (h : nextI l = some r) (hl : (chainI 800 l).length < 800) : chainI 800 l = l :: chainI 800 r ∧ (chainI 800 r).length < (chainI 800 l).length := by
  have e : chainI 800 l = l :: chainI 799 r := by rw [chainI, h]
  rw [e, List.length_cons] at hl
  rw [e, chain_fuel 799 r (by omega), List.length_cons]
  exact ⟨rfl, by omega⟩
theorem chain_none {l : List Int} (h : nextI l = none) : chainI 800 l = [l] := by rw [chainI, h]
/-- What is left to be done: from the order cur and the state st the fold over the chain ends at r. -/
structure Left (xs : List Pl) (s t : ByteArray) (cur : List Int) (st r : ByteArray × Int) : Prop where
  few : (chainI 800 cur).length < 800
  good : ∀ p ∈ chainI 800 cur, Good (by_ s) p
  fold : ((chainI 800 cur).map toB).foldl (updL xs t) st = r
theorem Left.here {xs : List Pl} {s t : ByteArray} {cur : List Int} {st r : ByteArray × Int} (h : Left xs s t cur st r) : Good (by_ s) cur := h.good cur (by rw [chainI]; exact List.mem_cons_self)
theorem Left.next {xs : List Pl} {s t : ByteArray} {cur nx : List Int} {st r : ByteArray × Int} (h : Left xs s t cur st r) (hn : nextI cur = some nx) : Left xs s t nx (updL xs t st (toB cur)) r ∧ (chainI 800 nx).length < (chainI 800 cur).length := by
  obtain ⟨e, hl⟩ := chain_some hn h.few
  refine ⟨⟨by have := h.few; omega, fun p hp => h.good p (by rw [e]; exact List.mem_cons_of_mem _ hp), ?_⟩, hl⟩
  have := h.fold
  rw [e, List.map_cons, List.foldl_cons] at this
  exact this
theorem Left.last {xs : List Pl} {s t : ByteArray} {cur : List Int} {st r : ByteArray × Int} (h : Left xs s t cur st r) (hn : nextI cur = none) : updL xs t st (toB cur) = r := by
  have := h.fold
  rw [chain_none hn] at this
  exact this
theorem left_start {xs : List Pl} {s t : ByteArray} (h0 : codeB xs s t = 0) : Left xs s t (sortI (by_ s)) (⟨#[]⟩, -1) (foundL xs s t) := by
  obtain ⟨k1, k2, k3, k4⟩ := codeB_ok h0
  have ho := okBoard_facts k1
  simp only [okLay, isTxt, Bool.and_eq_true, decide_eq_true_eq] at k2
  obtain ⟨l1, ⟨l2, l3⟩, l4⟩ := k2
  have hb := textGo_iff.1 l3
  have hl := by_len s
  obtain ⟨p1, p2, p3⟩ := plan7 l4 (fun b hb2 => by have := hb b hb2; omega) (by omega) (by omega)
  exact ⟨p2, p3, by rw [p1, hl]; rfl⟩
theorem mk_toB {ls : List UInt8} {cur : List Int} (h : Good ls cur) {k : Nat} {x : Int} (hx : cur[k]? = some x) : ∃ d : UInt8, (toB cur)[k]? = some d ∧ x = (d.toNat : Int) := by
  have := h.byte x (List.mem_of_getElem? hx)
  refine ⟨UInt8.ofNat x.toNat, by unfold toB; rw [List.getElem?_map, hx]; rfl, ?_⟩
  rw [UInt8.toNat_ofNat']; omega

theorem ret_found {x : ByteArray} {y : Int} {b : ByteArray} {q : Int} (h : (x, y) = (b, q)) : Ending.returned (.tuple #[.string x, .int .i64 y, .int .i64 0]) = Ending.returned (.tuple #[.string b, .int .i64 q, .int .i64 0]) := by
  obtain ⟨rfl, rfl⟩ := Prod.mk.inj h
  rfl
set_option maxHeartbeats 4000000 in
theorem BestLayout_I (w : World) (A : Option Addr) (n c : Nat) (xs : List Pl) (s t : ByteArray) (h : Sl3 (Value.int .i64) w A n xs) (hs : s.size ≤ 1048576) (ht : t.size ≤ 1048576) :
    Calls Try.prog 7 #[.slice A n c, .string s, .string t] w fun e w' => e = .returned (.tuple #[.string (bestLay xs s t).1, .int .i64 (bestLay xs s t).2.1, .int .i64 (bestLay xs s t).2.2]) ∧ Below w.heap.size w w' := by
  by_cases h0 : codeB xs s t = 0
  · obtain ⟨⟨rb, rq⟩, hr⟩ : ∃ r, foundL xs s t = r := ⟨_, rfl⟩
    have HR : Hid (bestLay xs s t = (rb, rq, 0)) := by unfold Hid bestLay; rw [if_pos h0, hr]
    have HLS := left_start h0
    rw [hr] at HLS
    replace HLS := hide HLS
    have HQ := hide (asked h.len h0)
    have HC := hide h0
    have hn6 := HQ.out.n6
    have hsn := HQ.out.lay
    have hn1 : 1 ≤ n := by have := (okBoard_facts (codeB_ok h0).1).2.1; rw [h.len] at this; exact this
    clear h0 hr
    go_enter Try.func7, Try.ntmps7
    go_wp2_with fail
    refine (strokesOf_any _ _ _ _ xs s t h hs ht).mono ?_
    rintro e w1 ⟨v1, rfl, hc1⟩
    have hb1 := hide hc1.below
    have HS1 := hide (h.on hc1.below)
    rw [HC.out]
    clear hc1
    go_wp2
    have hsz1 : (w1.alloc (.cells #[] 2)).heap.size = w1.heap.size + 1 := by simp
    have hbx : Arr ((w1.alloc (.cells #[] 2)).alloc (.cells #[.slice (some ⟨w1.heap.size, 0, none⟩) 0 0] 38)) (w1.heap.size + 1) 38 [.slice (some ⟨w1.heap.size, 0, none⟩) 0 0] := by
      have := Arr.new_ (w1.alloc (.cells #[] 2)) 38 [.slice (some ⟨w1.heap.size, 0, none⟩) 0 0]
      rwa [hsz1] at this
    have HB0 : Hid (Boxed w1 ((w1.alloc (.cells #[] 2)).alloc (.cells #[.slice (some ⟨w1.heap.size, 0, none⟩) 0 0] 38)) (w1.heap.size + 1) (.slice (some ⟨w1.heap.size, 0, none⟩) 0 0) ((ordI (by_ s)).take 0)) := ⟨(Coll.empty (Below.refl _ _)).lay _, hbx⟩
    have hol : Hid ((ordI (by_ s)).length = n) := by unfold Hid ordI; rw [List.length_map, by_len, hsn]
    obtain ⟨B, hBe⟩ : ∃ B, w1.heap.size + 1 = B := ⟨_, rfl⟩
    have hBW : w1.heap.size ≤ B := by omega
    rw [hBe] at HB0 ⊢
    clear hbx hsz1 hBe
    go_loopw [34] (fun i wr => ∃ (k : Nat) (v : Value), k ≤ n ∧ i = .int .i64 k ∧ Boxed w1 wr B v ((ordI (by_ s)).take k)) (fun i _ => n - (intOf i).toNat)
    case atStart => exact ⟨0, _, Nat.zero_le _, rfl, HB0.out⟩
    case round =>
      clear HB0
      obtain ⟨k, v, hk, rfl, hbx⟩ := hrel
      by_cases hlt : k < n
      · have hx := by_get (show k < s.size by omega)
        obtain ⟨d, hd⟩ : ∃ d, s[k]'(by omega) = d := ⟨_, rfl⟩
        rw [hd] at hx
        have hrun := run_byte hx
        have hd256 : (d.toNat : Int) < 256 := by have := d.toNat_lt; omega
        have HT : Hid ((ordI (by_ s)).take k ++ [(d.toNat : Int)] = (ordI (by_ s)).take (k + 1)) := by
          unfold Hid
          have hy : (ordI (by_ s))[k]? = some (d.toNat : Int) := by unfold ordI; rw [List.getElem?_map, hx]; rfl
          obtain ⟨h1, h2⟩ := List.getElem?_eq_some_iff.1 hy
          rw [List.take_succ_eq_append_getElem h1, h2]
        have b0 : wr.cell? ⟨B, 0, none⟩ = some v := hbx.box.cell 0
        have b1 : (wr.alloc (.cells #[.int .i64 (d.toNat : Int)] 2)).cell? ⟨B, 0, none⟩ = some v := (hbx.box.lay _).cell 0
        have hco := hbx.coll.drew
        have hbox := hbx.box
        have hwd : IntKind.i64.wrap (d.toNat : Int) = (d.toNat : Int) := IntWalk.i64_in _ (by omega)
        have htl : ((ordI (by_ s)).take k).length ≤ k := by rw [List.length_take]; omega
        have hl2 : (((ordI (by_ s)).take k).map (Value.int .i64) ++ [Value.int .i64 (d.toNat : Int)]).length = k + 1 := by
          rw [List.length_append, List.length_map, List.length_take, hol.out, List.length_singleton]; omega
        clear hbx hx hd
        go_wp2
        go_region_law (refine Coll.push_step Try.underlying38 int64_info rfl (by decide) hco rfl (by rw [List.length_map]; omega) rfl _ _ rfl rfl rfl ?_; intro v2 w2 hc2 hg2; have hbox2 : Arr w2 B 38 [v] := Arr.grown (w := wr.drew) hbox hg2 (own_box (w := wr.drew) hco.own hbox); have b2 : w2.cell? ⟨B, 0, none⟩ = some v := hbox2.cell 0; have f2 := hbox2.open_ 0; obtain ⟨A2, c2, hv2, -, -, -⟩ := hc2.form; rw [hl2] at hv2; subst hv2)
        all_goals
          have HX : Hid (Boxed w1 (w2.setCell ⟨B, 0, none⟩ (.slice A2 (k + 1) c2)) B (.slice A2 (k + 1) c2) ((ordI (by_ s)).take (k + 1))) := by
            unfold Hid
            rw [← HT.out]
            exact Boxed.put hBW hbox2 (by simpa using hc2)
          clear hc2 hg2 hbox2 b2 f2 hbox hco b0 b1
          go_wp2
          go_roundw
          case rel => exact ⟨k + 1, _, by omega, by go_num, HX.out⟩
          case measure => simp [intOf]; omega
      · have hT : (ordI (by_ s)).take k = ordI (by_ s) := List.take_of_length_le (by rw [hol.out]; omega)
        rw [hT] at hbx
        obtain ⟨A3, c3, hv3, -, -, -⟩ := hbx.coll.form
        rw [List.length_map, hol.out] at hv3
        subst hv3
        have hown := hbx.coll.own
        rw [List.length_map, hol.out] at hown
        obtain ⟨g, rfl, hgW⟩ := own_form hown (by omega)
        have hrow : CRow w1 wr g n c3 (ordI (by_ s)) := ⟨hown, hbx.coll.below⟩
        have hbox := hbx.box
        have hne : B ≠ g := fun e => own_box hown hbox (by rw [e]; rfl)
        have b0 : wr.cell? ⟨B, 0, none⟩ = some (.slice (some ⟨g, 0, none⟩) n c3) := hbox.cell 0
        have HBX := hide hbox
        have hso := sort_row w1 wr g n c3 B _ hrow b0 hne hbox.lt hn1 (by omega)
        clear hbx hT hown hrow hbox
        go_wp2_with fail
        refine hso.mono ?_
        rintro e w2 ⟨rfl, hrow2, hgr2⟩
        have HBX2 : Hid (Arr w2 B 38 [.slice (some ⟨g, 0, none⟩) n c3]) := Arr.grown HBX.out hgr2 (fun e => hne (by injection e with e; exact e.symm))
        clear hso hgr2 b0 HBX
        go_wp2
        go_loopw [13, 14] (fun bv lv w3 => ∃ (cur : List Int) (st : ByteArray × Int), bv = .string st.1 ∧ lv = .int .i64 st.2 ∧ Left xs s t cur st (rb, rq) ∧ CRow w1 w3 g n c3 cur ∧ Arr w3 B 38 [.slice (some ⟨g, 0, none⟩) n c3]) (fun _ _ w3 => (chainI 800 (rdRow w3 g n)).length)
        case atStart => exact ⟨_, (⟨#[]⟩, -1), rfl, rfl, HLS.out, hrow2, HBX2.out⟩
        case round =>
          clear hrow2 HBX2 HLS
          obtain ⟨wm, rfl⟩ : ∃ wm : World, wm = wr := ⟨_, rfl⟩
          obtain ⟨cur, ⟨sb, sq⟩, rfl, rfl, hL, hrow, hbox⟩ := hrel
          have hgood := hide hL.here
          have HL := hide hL
          have b1 : (wm.alloc (.cells #[] 5)).cell? ⟨B, 0, none⟩ = some (.slice (some ⟨g, 0, none⟩) n c3) := (hbox.lay _).cell 0
          have hc0 := hide (Coll.empty (e := 5) (Below.refl wm.heap.size wm))
          have HROW := hide hrow
          have HBOX := hide hbox
          have HCL := hide hrow.len
          have HTL : Hid ((toB cur).length = n) := by unfold Hid toB; rw [List.length_map]; exact hrow.len
          clear hL hrow hbox
          go_wp2
          go_loopw [15, 52] (fun vv i w5 => ∃ (k : Nat) (v : Value), k ≤ n ∧ i = .int .i64 k ∧ vv = v ∧ Coll wm w5 5 v (((toB cur).take k).map ub)) (fun _ i _ => n - (intOf i).toNat)
          case atStart => exact ⟨0, _, Nat.zero_le _, rfl, rfl, hc0.out⟩
          case round =>
            clear hc0 b1
            obtain ⟨k2, v, hk2, rfl, rfl, hco⟩ := hrel
            by_cases hlt2 : k2 < n
            · have hx : cur[k2]? = some (cur[k2]'(by rw [HCL.out]; exact hlt2)) := List.getElem?_eq_getElem _
              obtain ⟨d, hd, hxd⟩ := mk_toB hgood.out hx
              rw [hxd] at hx
              have hcell := (HROW.out.on hco.below).cell hx
              have hd256 : (d.toNat : Int) < 256 := by have := d.toNat_lt; omega
              have hw8 : IntKind.u8.wrap (d.toNat : Int) = (d.toNat : Int) := by rw [IntKind.wrap]; simp [IntKind.signed, IntKind.bits]; omega
              have HT : Hid ((toB cur).take k2 ++ [d] = (toB cur).take (k2 + 1)) := by
                unfold Hid
                obtain ⟨h1, h2⟩ := List.getElem?_eq_some_iff.1 hd
                rw [List.take_succ_eq_append_getElem h1, h2]
              clear hx hd hxd
              go_wp2_with (at_builtin; refine Coll.push Try.underlying43 byte_info rfl (by decide) hco rfl (by simp; omega) rfl _ _ rfl rfl rfl ?_; intro v7 w7 hc7 hg7)
              have HC7 : Hid (Coll wm w7 5 v7 (((toB cur).take (k2 + 1)).map ub)) := by unfold Hid; rw [← HT.out, List.map_append]; exact hc7
              go_roundw
              case rel => exact ⟨k2 + 1, _, by omega, by go_num, rfl, HC7.out⟩
              case measure => simp [intOf]; omega
            · have hT2 : (toB cur).take k2 = toB cur := List.take_of_length_le (by rw [HTL.out]; omega)
              rw [hT2] at hco
              obtain ⟨A5, c5, hv5, -, -, -⟩ := hco.form
              rw [List.length_map, HTL.out] at hv5
              subst hv5
              obtain ⟨nb, hnb⟩ : ∃ nb : ByteArray, nb = ⟨(toB cur).toArray⟩ := ⟨_, rfl⟩
              have hby : by_ nb = toB cur := by rw [hnb]; rfl
              have hnl : nb.size = n := by rw [← by_len, hby, HTL.out]
              have HCB : Hid (codeB xs nb t = 0) := code_perm HC.out (by rw [hby]; exact hgood.out.nd) (by rw [hby]; exact hgood.out.sub) (by omega)
              have HA2 := hide (asked h.len HCB.out)
              have t400 := HA2.out.t400
              have HPR : Hid (placesR nb t = ((psOf nb t).map (fun q : Nat => (q : Int)), true)) := by
                unfold Hid placesR
                rw [if_pos (codeB_ok HCB.out).2.2.1, HA2.out.pl, decide_eq_true (by omega)]
              have HPL : Hid (((psOf nb t).map fun q : Nat => (q : Int)).length = t.size) := by unfold Hid psOf; rw [List.length_map, List.length_map, by_len]
              have HPS : Hid (∀ q ∈ psOf nb t, q < n) := fun q hq => by
                obtain ⟨j, hj, e⟩ := List.getElem_of_mem hq
                have hj2 : j < t.size := by unfold psOf at hj; rwa [List.length_map, by_len] at hj
                obtain ⟨q', h1, h2⟩ := HA2.out.ps j hj2
                rw [List.getElem?_eq_getElem hj, e] at h1
                cases h1
                exact h2
              have HND : Hid (by_ nb).Nodup := HA2.out.nd
              obtain ⟨K, hK⟩ : ∃ K, sumC (costsGo xs none (psOf nb t)) = K := ⟨_, rfl⟩
              have HK := hide hK
              have HU : Hid (updL xs t (sb, sq) (toB cur) = if sq < 0 ∨ K < sq then (nb, K) else (sb, sq)) := by
                unfold Hid
                rw [← hby, updL_by]
                unfold cost7
                rw [hK]
              have hconv : (convert 43 9 (.slice A5 n c5)).run Try.prog wr = .ok (.string nb) wr := by rw [hnb]; exact hco.str
              have HCO := hide hco
              have HHS := hide ((HS1.out.on HROW.out.below).on hco.below)
              have HROW5 := hide (HROW.out.on hco.below)
              have HBOX5 := hide (HBOX.out.on hco.below)
              have HNB := hide hnb
              clear hT2 hco hby hK hnb
              go_wp2_with fail
              refine (placesOf_any wr nb t (by omega) ht HND.out).mono ?_
              rintro e w6 ⟨v6, rfl, hc6⟩
              rw [HPR.out] at hc6 ⊢
              obtain ⟨A6, c6, rfl, -, -, hs6⟩ := Sl.of_coll hc6
              have hb6 := hc6.below
              rw [HPL.out] at hs6 ⊢
              have HH6 := hide (HHS.out.on hb6)
              clear hc6 hconv
              go_wp2_with fail
              refine (placesCost_any w6 A A6 n c c6 t.size xs (psOf nb t) HH6.out hs6 HPS.out t400 HQ.out.ok).mono ?_
              rintro e w7 ⟨rfl, hb7⟩
              rw [HK.out]
              have hb67 := Below.step hb6 hb7
              have hconv : (convert 43 9 (.slice A5 n c5)).run Try.prog w7 = .ok (.string nb) w7 := by rw [HNB.out]; exact (HCO.out.on hb67).str
              have HROW7 := HROW5.out.on hb67
              have HBOX7 := hide (HBOX5.out.on hb67)
              have hnp := nextPermutation_any w1 w7 g n c3 cur HROW7 hn1 hn6
              have b7 : w7.cell? ⟨B, 0, none⟩ = some (.slice (some ⟨g, 0, none⟩) n c3) := HBOX7.out.cell 0
              replace hnp := hide hnp
              clear HROW7 hs6 hb6 hb7 hb67
              by_cases h1 : sq < 0
              · have HE : Hid (updL xs t (sb, sq) (toB cur) = (nb, K)) := by unfold Hid; rw [HU.out, if_pos (.inl h1)]
                go_wp2_with fail
                refine hnp.out.mono ?_
                rintro e w8 ⟨rfl, hrow8, hgr8⟩
                have HBOX8 := hide (HBOX7.out.grown hgr8 (fun e => hne (by injection e with e; exact e.symm)))
                cases hn : nextI cur with
                | none =>
                  rw [hn] at hrow8
                  have HF := hide ((HE.out.symm.trans (HL.out.last hn)) : ((nb, K) : ByteArray × Int) = (rb, rq))
                  have HB8 := hide (Below.step hb1.out hrow8.below)
                  have hsome : (none : Option (List Int)).isSome = false := rfl
                  rw [hsome]
                  clear hn hrow8 hgr8 hnp hconv b7
                  go_wp2
                  go_ret3
                  exact ⟨by rw [HR.out]; exact ret_found HF.out, HB8.out⟩
                | some r =>
                  rw [hn] at hrow8
                  obtain ⟨hl8, hm8⟩ := HL.out.next hn
                  rw [HE.out] at hl8
                  have HROW8 : Hid (CRow w1 w8 g n c3 r) := hrow8
                  have HL8 := hide hl8
                  have HM8 : Hid ((chainI 800 (rdRow w8 g n)).length < (chainI 800 (rdRow wm g n)).length) := by unfold Hid; rw [hrow8.rd, HROW.out.rd]; exact hm8
                  have hsome : (some r).isSome = true := rfl
                  rw [hsome]
                  clear hn hrow8 hgr8 hnp hconv b7 hl8 hm8
                  go_wp2
                  go_roundw
                  case rel => exact ⟨r, (nb, K), rfl, rfl, HL8.out, HROW8.out, HBOX8.out⟩
                  case measure => exact HM8.out
              · by_cases h3 : K < sq
                · have HE : Hid (updL xs t (sb, sq) (toB cur) = (nb, K)) := by unfold Hid; rw [HU.out, if_pos (.inr h3)]
                  go_wp2_with fail
                  refine hnp.out.mono ?_
                  rintro e w8 ⟨rfl, hrow8, hgr8⟩
                  have HBOX8 := hide (HBOX7.out.grown hgr8 (fun e => hne (by injection e with e; exact e.symm)))
                  cases hn : nextI cur with
                  | none =>
                    rw [hn] at hrow8
                    have HF := hide ((HE.out.symm.trans (HL.out.last hn)) : ((nb, K) : ByteArray × Int) = (rb, rq))
                    have HB8 := hide (Below.step hb1.out hrow8.below)
                    have hsome : (none : Option (List Int)).isSome = false := rfl
                    rw [hsome]
                    clear hn hrow8 hgr8 hnp hconv b7
                    go_wp2
                    go_ret3
                    exact ⟨by rw [HR.out]; exact ret_found HF.out, HB8.out⟩
                  | some r =>
                    rw [hn] at hrow8
                    obtain ⟨hl8, hm8⟩ := HL.out.next hn
                    rw [HE.out] at hl8
                    have HROW8 : Hid (CRow w1 w8 g n c3 r) := hrow8
                    have HL8 := hide hl8
                    have HM8 : Hid ((chainI 800 (rdRow w8 g n)).length < (chainI 800 (rdRow wm g n)).length) := by unfold Hid; rw [hrow8.rd, HROW.out.rd]; exact hm8
                    have hsome : (some r).isSome = true := rfl
                    rw [hsome]
                    clear hn hrow8 hgr8 hnp hconv b7 hl8 hm8
                    go_wp2
                    go_roundw
                    case rel => exact ⟨r, (nb, K), rfl, rfl, HL8.out, HROW8.out, HBOX8.out⟩
                    case measure => exact HM8.out
                · have HE : Hid (updL xs t (sb, sq) (toB cur) = (sb, sq)) := by unfold Hid; rw [HU.out, if_neg (fun e => e.elim h1 h3)]
                  go_wp2_with fail
                  refine hnp.out.mono ?_
                  rintro e w8 ⟨rfl, hrow8, hgr8⟩
                  have HBOX8 := hide (HBOX7.out.grown hgr8 (fun e => hne (by injection e with e; exact e.symm)))
                  cases hn : nextI cur with
                  | none =>
                    rw [hn] at hrow8
                    have HF := hide ((HE.out.symm.trans (HL.out.last hn)) : ((sb, sq) : ByteArray × Int) = (rb, rq))
                    have HB8 := hide (Below.step hb1.out hrow8.below)
                    have hsome : (none : Option (List Int)).isSome = false := rfl
                    rw [hsome]
                    clear hn hrow8 hgr8 hnp hconv b7
                    go_wp2
                    go_ret3
                    exact ⟨by rw [HR.out]; exact ret_found HF.out, HB8.out⟩
                  | some r =>
                    rw [hn] at hrow8
                    obtain ⟨hl8, hm8⟩ := HL.out.next hn
                    rw [HE.out] at hl8
                    have HROW8 : Hid (CRow w1 w8 g n c3 r) := hrow8
                    have HL8 := hide hl8
                    have HM8 : Hid ((chainI 800 (rdRow w8 g n)).length < (chainI 800 (rdRow wm g n)).length) := by unfold Hid; rw [hrow8.rd, HROW.out.rd]; exact hm8
                    have hsome : (some r).isSome = true := rfl
                    rw [hsome]
                    clear hn hrow8 hgr8 hnp hconv b7 hl8 hm8
                    go_wp2
                    go_roundw
                    case rel => exact ⟨r, (sb, sq), rfl, rfl, HL8.out, HROW8.out, HBOX8.out⟩
                    case measure => exact HM8.out
  · obtain ⟨q, hq⟩ : ∃ q, codeB xs s t = q := ⟨_, rfl⟩
    have HR : Hid (bestLay xs s t = (⟨#[]⟩, 0, q)) := by unfold Hid bestLay; rw [if_neg h0, hq]
    have HQ := hide hq
    rw [hq] at h0
    have hq1 : (q == 0) = false := beq_eq_false_iff_ne.2 h0
    have hq2 : (q != 0) = true := by rw [bne, hq1]; rfl
    clear hq h0
    go_enter Try.func7, Try.ntmps7
    go_wp2_with fail
    refine (strokesOf_any _ _ _ _ xs s t h hs ht).mono ?_
    rintro e w1 ⟨v1, rfl, hc1⟩
    obtain ⟨A1, c1, rfl, -, -, -⟩ := Sl.of_coll hc1
    have hb1 := hide hc1.below
    rw [HQ.out]
    clear hc1
    go_wp2
    go_ret3
    exact ⟨by rw [HR.out]; rfl, hb1.out⟩
end Go.Proofs.Ytcgjgelapjdihaa
