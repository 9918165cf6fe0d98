/-
  BestLayout of the reference: the walk over all layouts.
-/
import Derived.Test.YtcgjgelapjdihaaL07I
import Derived.Test.YtcgjgelapjdihaaL07Q
import Derived.Test.YtcgjgelapjdihaaBytes
import Derived.Deep.RegionLaw
namespace Go.Proofs.Ytcgjgelapjdihaa
set_option maxRecDepth 100000
open Go.RowKit

theorem textGo_iff {lo : Int} {l : List UInt8} : textGo lo l = true ↔ ∀ b ∈ l, lo ≤ (b.toNat : Int) ∧ (b.toNat : Int) ≤ 126 := by
  induction l with
  | nil => simp [textGo]
  | cons x l ih =>
    rw [textGo]
    by_cases h : (x.toNat : Int) < lo ∨ 126 < (x.toNat : Int)
    · rw [if_pos h]
      constructor
      · intro e; cases e
      · intro e
        have := e x List.mem_cons_self
        omega
    · rw [if_neg h, ih]
      constructor
      · intro e b hb
        rcases List.mem_cons.1 hb with rfl | hb
        · omega
        · exact e b hb
      · intro e b hb
        exact e b (List.mem_cons_of_mem _ hb)
theorem sub_back : ∀ {l m : List UInt8}, l.Nodup → (∀ b ∈ l, b ∈ m) → m.length = l.length → ∀ b ∈ m, b ∈ l := by
  intro l
  induction l with
  | nil =>
    intro m _ _ hl b hb
    rw [List.length_nil, List.length_eq_zero_iff] at hl
    rw [hl] at hb; exact hb
  | cons a l ih =>
    intro m hn hs hl b hb
    unfold List.Nodup at hn
    rw [List.pairwise_cons] at hn
    have ha := hs a List.mem_cons_self
    by_cases hba : b = a
    · rw [hba]; exact List.mem_cons_self
    · refine List.mem_cons_of_mem _ (ih hn.2 (m := m.erase a) (fun x hx => ?_) ?_ b ((List.mem_erase_of_ne hba).2 hb))
      · exact (List.mem_erase_of_ne (fun e => hn.1 x hx e.symm)).2 (hs x (List.mem_cons_of_mem _ hx))
      · rw [List.length_erase_of_mem ha, hl]; rfl
theorem code_perm {xs : List Pl} {s t nb : ByteArray} (h : codeB xs s t = 0) (hn : (by_ nb).Nodup) (hsub : ∀ b ∈ by_ nb, b ∈ by_ s) (hl : nb.size = s.size) : codeB xs nb t = 0 := by
  obtain ⟨k1, k2, k3, k4⟩ := codeB_ok h
  have k2' := k2
  simp only [okLay, isTxt, Bool.and_eq_true, decide_eq_true_eq] at k2'
  obtain ⟨l1, ⟨l2, l3⟩, l4⟩ := k2'
  have hback := sub_back hn hsub (by rw [by_len, by_len, hl])
  unfold codeB
  rw [if_pos k1, if_pos]
  refine ⟨?_, ?_, k4⟩
  · simp only [okLay, isTxt, Bool.and_eq_true, decide_eq_true_eq]
    exact ⟨by omega, ⟨by omega, textGo_iff.2 fun b hb => textGo_iff.1 l3 b (hsub b hb)⟩, hn⟩
  · have hall := allIn_all k3
    have hsome : ∀ ts : List UInt8, (∀ c ∈ ts, ∃ q, idx c (by_ s) = some q) → allIn (by_ nb) ts = true := by
      intro ts
      induction ts with
      | nil => intro _; rfl
      | cons c ts ih =>
        intro hc
        rw [allIn]
        have hcn : idx c (by_ nb) ≠ none := fun e => by
          rw [idx_none] at e
          obtain ⟨q, hq⟩ := hc c List.mem_cons_self
          exact e (hback c (List.mem_of_getElem? (idx_lt hq).2))
        rw [if_pos (Option.isSome_iff_ne_none.2 hcn)]
        exact ih fun x hx => hc x (List.mem_cons_of_mem _ hx)
    exact hsome _ hall
/-- The cost of the text t by the layout nb. -/
def cost7 (xs : List Pl) (t nb : ByteArray) : Int := sumC (costsGo xs none (psOf nb t))
theorem costs7_bd {xs : List Pl} {s t : ByteArray} (h : codeB xs s t = 0) : ∀ z ∈ costsGo xs none (psOf s t), 0 ≤ z ∧ z ≤ 75 := by
  have hA := asked rfl h
  refine costsGo_all hA.ok (fun q hq => ?_) (fun p hp => by cases hp)
  obtain ⟨k, hk, e⟩ := List.getElem_of_mem hq
  have hk2 : k < t.size := by unfold psOf at hk; rwa [List.length_map, by_len] at hk
  obtain ⟨q', h1, h2⟩ := hA.ps k hk2
  rw [List.getElem?_eq_getElem hk, e] at h1
  cases h1
  exact h2
def updL (xs : List Pl) (t : ByteArray) (st : ByteArray × Int) (now : List UInt8) : ByteArray × Int :=
  if st.2 < 0 ∨ cost7 xs t ⟨now.toArray⟩ < st.2 then (⟨now.toArray⟩, cost7 xs t ⟨now.toArray⟩) else st
theorem updL_by (xs : List Pl) (t : ByteArray) (b : ByteArray) (q : Int) (nb : ByteArray) : updL xs t (b, q) (by_ nb) = if q < 0 ∨ cost7 xs t nb < q then (nb, cost7 xs t nb) else (b, q) := by
  unfold updL
  rw [mk_by]
def wsL (lv : Value) (s t nb : ByteArray) (st : ByteArray × Int) : List Value := [lv, .string s, .string t, .string nb, .string st.1, .int .i64 st.2]
theorem wsL_now (lv : Value) (s t nb nb2 : ByteArray) (st : ByteArray × Int) : (wsL lv s t nb st).set 3 (.string nb2) = wsL lv s t nb2 st := rfl
theorem wsL_set {w : World} {g : Nat} {T : TypeId} {lv : Value} {s t nb nb2 : ByteArray} {st : ByteArray × Int} (h : Arr w g T (wsL lv s t nb st)) : Arr (w.setCell ⟨g, 3, none⟩ (.string nb2)) g T (wsL lv s t nb2 st) := by
  have := h.set_ 3 (.string nb2)
  rwa [wsL_now] at this
theorem grow_set7 (w : World) (g o : Nat) (v : Value) : w.grownBy (w.setCell ⟨g, o, none⟩ v) (some g) :=
  ⟨rfl, rfl, rfl, by simp, fun k _ hk => by
    have : ¬ g = k := fun e => hk (by rw [e])
    simp [World.setCell, Array.getElem?_modify, this]⟩
theorem grow_below7 {w w1 : World} {r : Option Nat} (hb : Below w.heap.size w w1) : w.grownBy w1 r := ⟨hb.os, hb.tape, hb.output, hb.size, fun i hi _ => hb.block i hi⟩
theorem grow_drawn {w w1 : World} {r : Option Nat} (h : w.grownBy w1 r) (k : Nat) : w.grownBy (w1.drewN k) r := ⟨h.os, h.tape, h.output, h.size, h.block⟩

set_option maxHeartbeats 4000000 in
theorem walk7_any (xs : List Pl) (s t : ByteArray) (W : World) (A : Option Addr) (n c : Nat) (h : Sl3 (Value.int .i64) W A n xs) (hs : s.size ≤ 1048576) (ht : t.size ≤ 1048576) (hok : codeB xs s t = 0) (g : Nat) (hgW : W.heap.size ≤ g) :
    ∀ (f : Nat) (w : World) (nb : ByteArray) (st : ByteArray × Int), nb.size + f = s.size → (by_ nb).Nodup → (∀ b ∈ by_ nb, b ∈ by_ s) → Below W.heap.size W w → Arr w g 33 (wsL (.slice A n c) s t nb st) →
    Calls Try.prog 10 #[.pointer (some ⟨g, 0, none⟩)] w fun e w' => e = .returned (.tuple #[]) ∧ Arr w' g 33 (wsL (.slice A n c) s t nb ((wkB (by_ s) f (by_ nb)).foldl (updL xs t) st)) ∧ w.grownBy w' (some g) := by
  intro f
  induction f with
  | zero =>
    intro w nb st hf hnd hsub hW hA
    obtain ⟨b, q⟩ := st
    have hsz : nb.size = s.size := by omega
    have HC := hide (code_perm hok hnd hsub hsz)
    have HBD := hide (costs7_bd HC.out)
    have hnl : nb.size ≤ 1048576 := by omega
    have t4 : (costsGo xs none (psOf nb t)).length ≤ 400 := by
      rw [costsGo_len]; unfold psOf; rw [List.length_map, by_len]; exact (asked rfl HC.out).t400
    obtain ⟨cs, hcs⟩ : ∃ cs, costsGo xs none (psOf nb t) = cs := ⟨_, rfl⟩
    have hK : cost7 xs t nb = sumC cs := by unfold cost7; rw [hcs]
    obtain ⟨st2, hst⟩ : ∃ st2, (wkB (by_ s) 0 (by_ nb)).foldl (updL xs t) (b, q) = st2 := ⟨_, rfl⟩
    have HST : Hid ((if q < 0 ∨ sumC cs < q then (nb, sumC cs) else (b, q)) = st2) := by unfold Hid; rw [← hst, wkB, List.foldl_cons, List.foldl_nil, updL_by, hK]
    rw [hst]
    clear hst
    rw [hcs] at HBD t4
    have c0 : w.cell? ⟨g, 0, none⟩ = some (.slice A n c) := hA.cell 0
    have c1 : w.cell? ⟨g, 1, none⟩ = some (.string s) := hA.cell 1
    have c2 : w.cell? ⟨g, 2, none⟩ = some (.string t) := hA.cell 2
    have c3 : w.cell? ⟨g, 3, none⟩ = some (.string nb) := hA.cell 3
    have HSL := hide (fun k : Nat => (h.on hW).draw k)
    have HA := hide hA
    have HCS := hide hcs
    clear hf hnd hsub hA hcs hK
    go_enter Try.func10, Try.ntmps10
    go_wp2
    go_quiet (fail)
    go_wp2
    go_region_law (first
      | (go_simp; go_at_call 23; refine (l07Costs_any _ _ _ _ xs nb t (by first | exact HSL.out _ | exact (HSL.out _).draw1) hnl ht HC.out).mono ?_; rintro e w2 ⟨v2, rfl, hc2⟩; rw [HCS.out] at hc2; have hb2 := hc2.below; obtain ⟨A2, c2', rfl, -, -, hs2⟩ := Sl.of_coll hc2)
      | (go_simp; go_at_call 22; refine (l00Sum_any _ _ _ _ cs hs2 HBD.out t4).mono ?_; rintro e w3 ⟨rfl, rfl⟩))
    all_goals
      have hA2 : Arr w2 g 33 (wsL (.slice A n c) s t nb (b, q)) := Arr.on (w := (w.drewN nq).drew) HA.out hb2
      have hg2 : w.grownBy w2 (some g) := grow_trans (grow_drawn (World.grownBy.refl w _) (nq + 1)) (grow_below7 hb2)
      obtain ⟨K, hKe⟩ : ∃ K, sumC cs = K := ⟨_, rfl⟩
      rw [hKe] at HST ⊢
      have d3 : w2.cell? ⟨g, 3, none⟩ = some (.string nb) := hA2.cell 3
      have d4 : w2.cell? ⟨g, 4, none⟩ = some (.string b) := hA2.cell 4
      have d5 : w2.cell? ⟨g, 5, none⟩ = some (.int .i64 q) := hA2.cell 5
      have f4 := hA2.open_ 4
      have f5 := hA2.open_ 5
      have hA3 := hA2.set_ 4 (.string nb)
      have e5 : (w2.setCell ⟨g, 4, none⟩ (.string nb)).cell? ⟨g, 5, none⟩ = some (.int .i64 q) := hA3.cell 5
      have f6 := hA3.open_ 5
      have HN := hide (hA3.set_ 5 (.int .i64 K))
      have HGN := hide (grow_trans hg2 (grow_trans (grow_set7 w2 g 4 (.string nb)) (grow_set7 _ g 5 (.int .i64 K))))
      have HA2 := hide hA2
      have HG2 := hide hg2
      clear hA2 hg2 hA3 hb2 hs2 c0 c1 c2 c3
      by_cases h1 : q < 0
      · have HE : Hid (st2 = (nb, K)) := by unfold Hid; rw [← HST.out, if_pos (.inl h1)]
        go_wp2
        go_returns
        exact ⟨rfl, by rw [HE.out]; exact HN.out, HGN.out⟩
      · by_cases h3 : K < q
        · have HE : Hid (st2 = (nb, K)) := by unfold Hid; rw [← HST.out, if_pos (.inr h3)]
          go_wp2
          go_returns
          exact ⟨rfl, by rw [HE.out]; exact HN.out, HGN.out⟩
        · have HE : Hid (st2 = (b, q)) := by unfold Hid; rw [← HST.out, if_neg (fun e => e.elim h1 h3)]
          go_wp2
          go_returns
          exact ⟨rfl, by rw [HE.out]; exact HA2.out, HG2.out⟩
  | succ f ih =>
    intro w nb st hf hnd hsub hW hA
    have hnl : nb.size ≤ 1048576 := by omega
    have hne : ((nb.size : Int) == (s.size : Int)) = false := beq_eq_false_iff_ne.2 (by omega)
    have c1 : w.cell? ⟨g, 1, none⟩ = some (.string s) := hA.cell 1
    have c3 : w.cell? ⟨g, 3, none⟩ = some (.string nb) := hA.cell 3
    rw [wkB_succ]
    have HA := hide hA
    have HW := hide hW
    clear hA hW
    go_enter Try.func10, Try.ntmps10
    go_wp2
    go_quiet (fail)
    go_wp2
    go_loopw [4] (fun cv wr => ∃ (k : Nat) (st' : ByteArray × Int) (nb' : ByteArray), 32 ≤ k ∧ k ≤ 127 ∧ cv = .int .u8 k ∧ Arr wr g 33 (wsL (.slice A n c) s t nb' st') ∧ w.grownBy wr (some g) ∧ (restB (by_ s) f (by_ nb) k).foldl (updL xs t) st' = (restB (by_ s) f (by_ nb) 32).foldl (updL xs t) st) (fun cv _ => 127 - (intOf cv).toNat)
    case atStart => exact ⟨32, st, nb, Nat.le_refl _, by omega, by go_num, HA.out, grow_drawn (World.grownBy.refl w _) _, rfl⟩
    case round =>
      clear c1 c3 HA
      obtain ⟨k, st', nb', hk0, hk, rfl, hA, hg, HF⟩ := hrel
      by_cases hk1 : k ≤ 126
      · obtain ⟨d, rfl⟩ : ∃ d : UInt8, k = d.toNat := ⟨UInt8.ofNat k, by rw [UInt8.toNat_ofNat']; omega⟩
        rw [restB_step _ _ _ hk1, UInt8.ofNat_toNat, List.foldl_append] at HF
        have c1 : wr.cell? ⟨g, 1, none⟩ = some (.string s) := hA.cell 1
        have hd1 : (d.toNat : Int) ≤ 126 := by omega
        cases hi : idx d (by_ s) with
        | none =>
          rw [if_neg (fun e => idx_none.1 hi e.1), List.foldl_nil] at HF
          have HI : Hid (idV (idx d (by_ s)) = -1) := by unfold Hid; rw [hi]; rfl
          have HFH := hide HF
          have HA := hide hA
          have HG := hide hg
          clear hi HF hA hg
          go_wp2_with (go_at_call 20; refine (l05Index_any _ s d hs).mono ?_; rintro e w1 ⟨rfl, rfl⟩; rw [HI.out])
          go_roundw
          case rel => exact ⟨d.toNat + 1, st', nb', by omega, by omega, by go_num, HA.out, HG.out, HFH.out⟩
          case measure => simp [intOf]; omega
        | some q1 =>
          have hin : d ∈ by_ s := List.mem_of_getElem? (idx_lt hi).2
          have HI : Hid (idV (idx d (by_ s)) = (q1 : Int)) := by unfold Hid; rw [hi]; rfl
          cases hj : idx d (by_ nb) with
          | some q2 =>
            have hin2 : d ∈ by_ nb := List.mem_of_getElem? (idx_lt hj).2
            rw [if_neg (fun e => e.2 hin2), List.foldl_nil] at HF
            have HJ : Hid (idV (idx d (by_ nb)) = (q2 : Int)) := by unfold Hid; rw [hj]; rfl
            have HFH := hide HF
            have HA := hide hA
            have HG := hide hg
            clear hi hj HF hA hg hin hin2
            go_wp2_with (first
              | (go_at_call_of 20 s; refine (l05Index_any _ s d hs).mono ?_; rintro e w1 ⟨rfl, rfl⟩; rw [HI.out])
              | (go_at_call_of 20 nb; refine (l05Index_any _ nb d hnl).mono ?_; rintro e w1 ⟨rfl, rfl⟩; rw [HJ.out]))
            go_roundw
            case rel => exact ⟨d.toNat + 1, st', nb', by omega, by omega, by go_num, HA.out, HG.out, HFH.out⟩
            case measure => simp [intOf]; omega
          | none =>
            have hout : d ∉ by_ nb := idx_none.1 hj
            rw [if_pos ⟨hin, hout⟩] at HF
            have HJ : Hid (idV (idx d (by_ nb)) = -1) := by unfold Hid; rw [hj]; rfl
            have HFH := hide HF
            have HA := hide hA
            have HG := hide hg
            have hco : Coll wr (wr.alloc (.cells #[ub d] 5)) 5 (.slice (some ⟨wr.heap.size, 0, none⟩) 1 1) ([d].map ub) :=
              ⟨World.ownsRow_lit wr #[ub d] 1 (Nat.le_refl _) (by unfold maxLen; omega) rfl, (Below.refl _ _).alloc (Nat.le_refl _) _⟩
            have hconv : (convert 43 9 (.slice (some ⟨wr.heap.size, 0, none⟩) 1 1)).run Try.prog (wr.alloc (.cells #[.int .u8 (d.toNat : Int)] 5)) = .ok (.string ⟨#[d]⟩) (wr.alloc (.cells #[.int .u8 (d.toNat : Int)] 5)) := hco.str
            have hgl := HA.out.lt
            have hA4 := HA.out.lay (.cells #[.int .u8 (d.toNat : Int)] 5)
            have c3 : (wr.alloc (.cells #[.int .u8 (d.toNat : Int)] 5)).cell? ⟨g, 3, none⟩ = some (.string nb') := hA4.cell 3
            have f3 := hA4.open_ 3
            have d3 : wr.cell? ⟨g, 3, none⟩ = some (.string nb') := HA.out.cell 3
            have e3 := HA.out.open_ 3
            have hby : by_ (nb ++ ⟨#[d]⟩) = by_ nb ++ [d] := by rw [by_append]; rfl
            have hA5 : Arr ((wr.setCell ⟨g, 3, none⟩ (.string (nb ++ ⟨#[d]⟩))).alloc (.cells #[.int .u8 (d.toNat : Int)] 5)) g 33 (wsL (.slice A n c) s t (nb ++ ⟨#[d]⟩) st') := (wsL_set HA.out).lay _
            have hG5 : w.grownBy ((wr.setCell ⟨g, 3, none⟩ (.string (nb ++ ⟨#[d]⟩))).alloc (.cells #[.int .u8 (d.toNat : Int)] 5)) (some g) := grow_trans (grow_trans HG.out (grow_set7 wr g 3 _)) (World.grownBy_alloc _ _ _)
            have hB5 : Below W.heap.size W ((wr.setCell ⟨g, 3, none⟩ (.string (nb ++ ⟨#[d]⟩))).alloc (.cells #[.int .u8 (d.toNat : Int)] 5)) := HW.out.grown hG5 HW.out.size (fun q hq => by cases hq; exact hgW)
            have hrec := ih _ (nb ++ ⟨#[d]⟩) st' (by rw [← by_len, hby, List.length_append, by_len]; simp only [List.length_singleton]; omega) (by rw [hby, nodup_snoc]; exact ⟨hnd, hout⟩) (fun b hb => by
              rw [hby] at hb
              rcases List.mem_append.1 hb with hb | hb
              · exact hsub b hb
              · rw [List.mem_singleton] at hb; rw [hb]; exact hin) hB5 hA5
            rw [hby] at hrec
            have HG5 := hide hG5
            clear hi hj HF hA hg hin hout hco hA4 hA5 hG5 hB5 hby
            go_wp2_with (first
              | (go_at_call_of 20 s; refine (l05Index_any _ s d hs).mono ?_; rintro e w1 ⟨rfl, rfl⟩; rw [HI.out])
              | (go_at_call_of 20 nb; refine (l05Index_any _ nb d hnl).mono ?_; rintro e w1 ⟨rfl, rfl⟩; rw [HJ.out]))
            refine hrec.mono ?_
            rintro e w4 ⟨rfl, hws4, hgr4⟩
            have HWS4 := hide hws4
            have HGR4 := hide hgr4
            clear hrec hws4 hgr4 c3 f3 d3 e3 hconv
            go_wp2
            go_roundw
            case rel => exact ⟨d.toNat + 1, _, nb ++ ⟨#[d]⟩, by omega, by omega, by go_num, HWS4.out, grow_trans HG5.out HGR4.out, HFH.out⟩
            case measure => simp [intOf]; omega
      · rw [restB_end _ _ _ (by omega), List.foldl_nil] at HF
        have d3 : wr.cell? ⟨g, 3, none⟩ = some (.string nb') := hA.cell 3
        have e3 := hA.open_ 3
        have hA5 := hide (wsL_set (nb2 := nb) hA)
        have hG5 := hide (grow_trans hg (grow_set7 wr g 3 (.string nb)))
        have HFH := hide HF
        clear HF hA hg
        go_wp2
        go_returns
        exact ⟨rfl, by rw [← HFH.out]; exact hA5.out, hG5.out⟩
end Go.Proofs.Ytcgjgelapjdihaa
