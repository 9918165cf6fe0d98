/-
  BestBreaks of the program: what it returns, for all arguments.
-/
import Derived.Test.YtanpmjbephelaaaL09M
import Derived.Test.YtanpmjbephelaaaIRow
namespace Go.Proofs.Ytanpmjbephelaaa
set_option maxRecDepth 100000
open Go.RowKit

theorem int_info : (Try.prog.info? 3).map (fun i => (i.zero, i.size, i.bytes)) = some (some (.int .i64 0), 1, 8) := by kernel_rfl
/-- The entries from word i on are done; those in front of it are still 0. -/
structure Done (xs : List ByteArray) (m : Int) (i : Nat) (cl nl : List Int) : Prop where
  c : ∀ j, i ≤ j → j ≤ xs.length → cl[j]? = some (cst xs m j)
  n : ∀ j, i ≤ j → j < xs.length → nl[j]? = some (nxt xs m j : Int)
  z : ∀ j, j < i → cl[j]? = some 0
  cl_len : cl.length = xs.length + 1
  nl_len : nl.length = xs.length + 1
theorem Done.start (xs : List ByteArray) (m : Int) : Done xs m xs.length (List.replicate (xs.length + 1) 0) (List.replicate (xs.length + 1) 0) where
  c := fun j h1 h2 => by
    have : j = xs.length := by omega
    subst this
    rw [List.getElem?_replicate, if_pos (by omega)]
    unfold cst; rw [tab_end]
  n := fun j h1 h2 => by omega
  z := fun j h => by rw [List.getElem?_replicate, if_pos (by omega)]
  cl_len := by simp
  nl_len := by simp
theorem Done.fit {xs : List ByteArray} {m : Int} {p : Nat} {cl nl : List Int} (h : Done xs m (p + 1) cl nl) (hp : p < xs.length) (hf : lineL (xs.drop p) ≤ m) : Done xs m p cl (nl.set p (xs.length : Int)) where
  c := fun j h1 h2 => by
    by_cases e : j = p
    · subst e
      rw [h.z j (by omega)]
      unfold cst; rw [tab_eq hp, entry, if_pos hf]
    · exact h.c j (by omega) h2
  n := fun j h1 h2 => by
    by_cases e : j = p
    · subst e
      rw [List.getElem?_set_self (by rw [h.nl_len]; omega)]
      unfold nxt; rw [tab_eq hp, entry, if_pos hf]
    · rw [List.getElem?_set_ne (Ne.symm e)]
      exact h.n j (by omega) h2
  z := fun j hj => h.z j (by omega)
  cl_len := h.cl_len
  nl_len := by rw [List.length_set]; exact h.nl_len
/-- Word p is under way: its entry is b now. -/
structure Half (xs : List ByteArray) (m : Int) (p : Nat) (b : Int × Nat) (cl nl : List Int) : Prop where
  c : ∀ j, p < j → j ≤ xs.length → cl[j]? = some (cst xs m j)
  n : ∀ j, p < j → j < xs.length → nl[j]? = some (nxt xs m j : Int)
  z : ∀ j, j < p → cl[j]? = some 0
  bc : cl[p]? = some b.1
  bn : nl[p]? = some (b.2 : Int)
  cl_len : cl.length = xs.length + 1
  nl_len : nl.length = xs.length + 1
theorem Half.start {xs : List ByteArray} {m : Int} {p : Nat} {cl nl : List Int} (h : Done xs m (p + 1) cl nl) (hp : p < xs.length) : Half xs m p (-1, xs.length) (cl.set p (-1)) (nl.set p (xs.length : Int)) where
  c := fun j h1 h2 => by rw [List.getElem?_set_ne (by omega)]; exact h.c j (by omega) h2
  n := fun j h1 h2 => by rw [List.getElem?_set_ne (by omega)]; exact h.n j (by omega) h2
  z := fun j hj => by rw [List.getElem?_set_ne (by omega)]; exact h.z j (by omega)
  bc := List.getElem?_set_self (by rw [h.cl_len]; omega)
  bn := List.getElem?_set_self (by rw [h.nl_len]; omega)
  cl_len := by rw [List.length_set]; exact h.cl_len
  nl_len := by rw [List.length_set]; exact h.nl_len
theorem Half.put {xs : List ByteArray} {m : Int} {p k : Nat} {b : Int × Nat} {cl nl : List Int} (h : Half xs m p b cl nl) (hp : p < xs.length) (x : Int) : Half xs m p (x, k) (cl.set p x) (nl.set p (k : Int)) where
  c := fun j h1 h2 => by rw [List.getElem?_set_ne (by omega)]; exact h.c j h1 h2
  n := fun j h1 h2 => by rw [List.getElem?_set_ne (by omega)]; exact h.n j h1 h2
  z := fun j hj => by rw [List.getElem?_set_ne (by omega)]; exact h.z j hj
  bc := List.getElem?_set_self (by rw [h.cl_len]; omega)
  bn := List.getElem?_set_self (by rw [h.nl_len]; omega)
  cl_len := by rw [List.length_set]; exact h.cl_len
  nl_len := by rw [List.length_set]; exact h.nl_len
theorem Half.done {xs : List ByteArray} {m : Int} {p : Nat} {b : Int × Nat} {cl nl : List Int} (h : Half xs m p b cl nl) (hb : b = tab xs m p) : Done xs m p cl nl where
  c := fun j h1 h2 => by
    by_cases e : j = p
    · subst e; rw [h.bc, hb]; rfl
    · exact h.c j (by omega) h2
  n := fun j h1 h2 => by
    by_cases e : j = p
    · subst e; rw [h.bn, hb]; rfl
    · exact h.n j (by omega) h2
  z := h.z
  cl_len := h.cl_len
  nl_len := h.nl_len

set_option maxHeartbeats 4000000 in
theorem BestBreaks_I (w : World) (A : Option Addr) (n c : Nat) (xs : List ByteArray) (m : Int) (h : Sl Value.string w A n xs) (hcap : n ≤ c) (hu : ∀ s ∈ xs, (s.size : Int) ≤ 1048576) :
    Calls Try.prog 29 #[.slice A n c, .int .i64 m] w fun e w' => ∃ v, e = .returned (.tuple #[v, .int .i64 (bestR xs m).2.1, .int .i64 (bestR xs m).2.2]) ∧ Coll w w' 2 v ((bestR xs m).1.map (Value.int .i64)) := by
  replace hu := hide hu
  by_cases hv : validT xs m = true
  · have HR : Hid (bestR xs m = (brk xs m xs.length 0, cst xs m 0, 0)) := by unfold Hid bestR; rw [if_pos hv]
    obtain ⟨f1, f2, f3, f4⟩ := validT_facts hv
    rw [h.len] at f2
    have hxl := hide h.len
    have HM := hide (fun s hs => (f1 s hs).2 : ∀ s ∈ xs, (s.size : Int) ≤ m)
    have HS := hide (fun s hs => by have := f1 s hs; omega : ∀ s ∈ xs, s.size ≤ 80)
    obtain ⟨i1, hi1, hz01, hz11, hz21⟩ := info_parts int64_info
    obtain ⟨i2, hi2, hz02, hz12, hz22⟩ := info_parts int_info
    replace hv := hide hv
    clear f1
    go_enter Try.func29, Try.ntmps29
    go_wp2_with (first
      | (go_at_call 66; refine (ValidText_I _ _ _ _ xs _ h hu.out).mono ?_; rintro e w1 ⟨rfl, hb1⟩; rw [hv.out])
      | (at_make; refine wpList_make_full _ rfl _ _ 23 rfl w1.heap.size 2 i1 (.int .i64 0) 1 Try.underlying23 hi1 hz01 hz11 .i64 .i64 _ _ (n + 1) rfl rfl rfl rfl (by rw [hz21]; omega) (by simp only [maxLen]; omega) (Nat.le_refl _) ?_; intro w2 hown2 hg2)
      | (at_make; refine wpList_make_full _ rfl _ _ 70 rfl w2.heap.size 3 i2 (.int .i64 0) 1 Try.underlying70 hi2 hz02 hz12 .i64 .i64 _ _ (n + 1) rfl rfl rfl rfl (by rw [hz22]; omega) (by simp only [maxLen]; omega) (Nat.le_refl _) ?_; intro w3 hown3 hg3))
    have hb2 : Below w1.heap.size w1 w2 := (Below.refl _ _).grown hg2 (Nat.le_refl _) (by simp)
    have hb3 : Below w2.heap.size w2 w3 := (Below.refl _ _).grown hg3 (Nat.le_refl _) (by simp)
    simp only [Value.cells, Nat.mul_one, toList_madeCells_one] at hown2 hown3
    have r1 := (IRow.made hown2 hb2).on hb3
    have r2 := (IRow.made hown3 hb3).since hb2
    have hne : w2.heap.size ≠ w1.heap.size := by have := (IRow.made hown2 hb2).lt.2; omega
    clear hown2 hown3 hg2 hg3 hb2 hb3
    replace hne := hide hne
    go_loopw [10] (fun iv wr => ∃ (z : Int) (i : Nat) (cl nl : List Int), i ≤ n ∧ z = (i : Int) - 1 ∧ iv = .int .i64 z ∧ IRow w1 wr 2 w1.heap.size (n + 1) cl ∧ IRow w1 wr 3 w2.heap.size (n + 1) nl ∧ Done xs m i cl nl) (fun iv _ => (intOf iv + 1).toNat)
    case atStart => exact ⟨_, n, _, _, Nat.le_refl _, rfl, rfl, r1, r2, by have := Done.start xs m; rw [hxl.out] at this; exact this⟩
    case round =>
      clear r1 r2
      obtain ⟨z, i, cl, nl, hi, hz, rfl, r1, r2, hD⟩ := hrel
      by_cases hp : 0 < i
      · obtain ⟨p, rfl⟩ : ∃ p, i = p + 1 := ⟨i - 1, by omega⟩
        obtain rfl : z = (p : Int) := by omega
        have hpn : p < n := by omega
        obtain ⟨b, o, x, rfl, hx, hc⟩ := h.at_ (Below.step hb1 r1.below) hpn
        clear hx hc
        obtain ⟨y2, hy2⟩ : ∃ y, nl[p]? = some y := ⟨_, List.getElem?_eq_getElem (by rw [hD.nl_len, hxl.out]; omega)⟩
        have hcA := r2.cell hy2
        have hfA := r2.open_ p
        have r2s := hide (r2.set p (n : Int))
        have hsub := (h.on (Below.step hb1 r2s.out.below)).from_some p
        have hpl := hide (fun s hs => HS.out s (List.mem_of_mem_drop hs) : ∀ s ∈ xs.drop p, s.size ≤ 80)
        have hcp : ¬ c = p := by omega
        obtain ⟨Lr, hLr⟩ : ∃ L, lineL (xs.drop p) = L := ⟨_, rfl⟩
        have HLr := hide hLr
        have r1a := hide (r1.aside r2 hne.out (Nat.le_refl _) p (n : Int))
        by_cases hfit : Lr ≤ m
        · have HD : Hid (Done xs m p cl (nl.set p (n : Int))) := by
            unfold Hid
            have := hD.fit (by rw [hxl.out]; exact hpn) (by rw [hLr]; exact hfit)
            rw [hxl.out] at this; exact this
          clear hy2 hLr hD r1 r2 hz
          go_wp2_with (go_at_call 67; refine (lineLength_any _ _ _ _ _ hsub (by omega) hpl.out).mono ?_; rintro e w4 ⟨rfl, rfl⟩; rw [HLr.out])
          go_roundw
          case rel => exact ⟨_, p, cl, nl.set p (n : Int), by omega, rfl, rfl, r1a.out, r2s.out, HD.out⟩
          case measure => simp [intOf]
        · have HH : Hid (Half xs m p (-1, n) (cl.set p (-1)) (nl.set p (n : Int))) := by
            unfold Hid
            have := Half.start hD (by rw [hxl.out]; exact hpn)
            rw [hxl.out] at this; exact this
          have HT : Hid (tab xs m p = scanF xs m (cst xs m) p (n - (p + 1)) (p + 1) (-1, n)) := by
            unfold Hid
            rw [tab_eq (by rw [hxl.out]; exact hpn), entry, if_neg (by rw [hLr]; exact hfit), hxl.out]
          have hcB := r1a.out.cell (hD.z p (by omega))
          have hfB := r1a.out.open_ p
          have r1b := hide (r1a.out.set p (-1))
          have r2b := hide (r2s.out.aside r1a.out hne.out.symm (Nat.le_refl _) p (-1))
          clear hy2 hLr hD r1 r2 hz
          go_wp2_with (go_at_call 67; refine (lineLength_any _ _ _ _ _ hsub (by omega) hpl.out).mono ?_; rintro e w4 ⟨rfl, rfl⟩; rw [HLr.out])
          clear hcA hfA hcB hfB hsub
          go_loopw [11] (fun kv w5 => ∃ (k : Nat) (b1 : Int) (b2 : Nat) (cl nl : List Int), p + 1 ≤ k ∧ k ≤ n ∧ kv = .int .i64 k ∧ IRow w1 w5 2 w1.heap.size (n + 1) cl ∧ IRow w1 w5 3 w2.heap.size (n + 1) nl ∧ Half xs m p (b1, b2) cl nl ∧ tab xs m p = scanF xs m (cst xs m) p (n - k) k (b1, b2)) (fun kv _ => n - (intOf kv).toNat)
          case atStart => exact ⟨p + 1, -1, n, _, _, Nat.le_refl _, by omega, by go_num, r1b.out, r2b.out, HH.out, HT.out⟩
          case round =>
            clear r1a r2s r1b r2b HH HT
            obtain ⟨k, b1, b2, cl2, nl2, hk1, hk2, rfl, r1, r2, hH, hSC⟩ := hrel
            by_cases hlt : k < n
            · have hltd : decide ((k : Int) < (n : Int)) = true := by rw [decide_eq_true_eq]; omega
              obtain ⟨q, hq⟩ : ∃ q, seg xs p k = q := ⟨_, rfl⟩
              have hq0 : 0 ≤ q := by rw [← hq]; exact seg_nonneg _ _ _
              have HQ : Hid (lineL ((xs.take k).drop p) = q) := hq
              have hsubk := ((h.on (Below.step hb1 r1.below)).take (k := k) hk2).from_some p
              have hplk := hide (fun s hs => HS.out s (List.mem_of_mem_take (List.mem_of_mem_drop hs)) : ∀ s ∈ (xs.take k).drop p, s.size ≤ 80)
              rw [show n - k = (n - (k + 1)) + 1 from by omega, scanF, hq] at hSC
              by_cases hqm : q ≤ m
              · rw [if_pos hqm] at hSC
                have hckb := cst_all HM.out f4 (n - k) k (by rw [hxl.out]; omega)
                obtain ⟨hck0, hck1, -⟩ := hckb
                have hck2 := r1.cell (hH.c k (by omega) (by rw [hxl.out]; omega))
                obtain ⟨ck, hck⟩ : ∃ x, cst xs m k = x := ⟨_, rfl⟩
                have hvv : vv xs m (cst xs m) p k = (m - q) * (m - q) + ck := by unfold vv; rw [hq, hck]
                rw [hck] at hck0 hck1 hck2
                obtain ⟨y, hy⟩ : ∃ y, (m - q) * (m - q) = y := ⟨_, rfl⟩
                have hyb : 0 ≤ y ∧ y ≤ 6400 := by
                  rw [← hy]
                  refine ⟨sq_nonneg' _, ?_⟩
                  have := Int.mul_le_mul (show m - q ≤ 80 by omega) (show m - q ≤ 80 by omega) (show 0 ≤ m - q by omega) (by decide : (0 : Int) ≤ 80)
                  omega
                rw [hy] at hvv
                rw [hvv] at hSC
                have hcP := r1.cell hH.bc
                have hfP := r1.open_ p
                have hcN := r2.cell hH.bn
                have hfN := r2.open_ p
                by_cases hup : b1 < 0 ∨ y + ck < b1
                · rw [if_pos hup] at hSC
                  have HSC := hide hSC
                  have HH2 := hide (hH.put (k := k) (by rw [hxl.out]; exact hpn) (y + ck))
                  have R1 := hide (r1.set p (y + ck))
                  have r2a := r2.aside r1 hne.out.symm (Nat.le_refl _) p (y + ck)
                  have hcN2 := r2a.cell hH.bn
                  have hfN2 := r2a.open_ p
                  have R2 := hide (r2a.set p (k : Int))
                  have R1b := hide (R1.out.aside r2a hne.out (Nat.le_refl _) p (k : Int))
                  clear hq hck hvv hSC hH r1 r2 r2a
                  rcases hup with hup | hup
                  · go_wp2_with (go_at_call 67; refine (lineLength_any _ _ _ _ _ hsubk (by omega) hplk.out).mono ?_; rintro e w4 ⟨rfl, rfl⟩; rw [HQ.out])
                    go_roundw
                    case rel => exact ⟨k + 1, _, _, _, _, by omega, by omega, by go_num, R1b.out, R2.out, HH2.out, HSC.out⟩
                    case measure => simp [intOf]; omega
                  · have hneg : ¬ b1 < 0 := by omega
                    go_wp2_with (go_at_call 67; refine (lineLength_any _ _ _ _ _ hsubk (by omega) hplk.out).mono ?_; rintro e w4 ⟨rfl, rfl⟩; rw [HQ.out])
                    go_roundw
                    case rel => exact ⟨k + 1, _, _, _, _, by omega, by omega, by go_num, R1b.out, R2.out, HH2.out, HSC.out⟩
                    case measure => simp [intOf]; omega
                · rw [if_neg hup] at hSC
                  have HSC := hide hSC
                  have HH2 := hide hH
                  have R1 := hide r1
                  have R2 := hide r2
                  have hn1 : ¬ b1 < 0 := fun e => hup (.inl e)
                  have hn2 : ¬ y + ck < b1 := fun e => hup (.inr e)
                  clear hq hck hvv hSC hH r1 r2 hup
                  go_wp2_with (go_at_call 67; refine (lineLength_any _ _ _ _ _ hsubk (by omega) hplk.out).mono ?_; rintro e w4 ⟨rfl, rfl⟩; rw [HQ.out])
                  go_roundw
                  case rel => exact ⟨k + 1, _, _, _, _, by omega, by omega, by go_num, R1.out, R2.out, HH2.out, HSC.out⟩
                  case measure => simp [intOf]; omega
              · rw [if_neg hqm] at hSC
                have HD := hide (hH.done hSC.symm)
                have R1 := hide r1
                have R2 := hide r2
                clear hq hSC hH r1 r2
                go_wp2_with (go_at_call 67; refine (lineLength_any _ _ _ _ _ hsubk (by omega) hplk.out).mono ?_; rintro e w4 ⟨rfl, rfl⟩; rw [HQ.out])
                go_roundw
                case rel => exact ⟨_, p, cl2, nl2, by omega, rfl, rfl, R1.out, R2.out, HD.out⟩
                case measure => simp [intOf]
            · have hltd : decide ((k : Int) < (n : Int)) = false := by rw [decide_eq_false_iff_not]; omega
              rw [show n - k = 0 from by omega, scanF] at hSC
              have HD := hide (hH.done hSC.symm)
              have R1 := hide r1
              have R2 := hide r2
              clear hSC hH r1 r2
              go_wp2
              go_roundw
              case rel => exact ⟨_, p, cl2, nl2, by omega, rfl, rfl, R1.out, R2.out, HD.out⟩
              case measure => simp [intOf]
      · obtain rfl : i = 0 := by omega
        obtain rfl : z = -1 := by omega
        have HD := hide hD
        have h0 := Coll.empty (e := 2) (Below.refl wr.heap.size wr)
        have R1 := hide r1
        have R2 := hide r2
        clear hD r1 r2 hz
        go_wp2
        go_loopw [14, 15] (fun v iv w6 => ∃ (i f : Nat) (acc : List Int), i ≤ n ∧ iv = .int .i64 i ∧ acc.length ≤ i ∧ n ≤ i + f ∧ Coll wr w6 2 v (acc.map (Value.int .i64)) ∧ acc ++ brk xs m f i = brk xs m n 0) (fun _ iv _ => n - (intOf iv).toNat)
        case atStart => exact ⟨0, n, [], Nat.zero_le _, rfl, Nat.le_refl _, by omega, h0, rfl⟩
        case round =>
          clear h0
          obtain ⟨wo, rfl⟩ : ∃ wo : World, wo = wr := ⟨_, rfl⟩
          obtain ⟨i, f, acc, hin, rfl, hal, hnf, hco, HG⟩ := hrel
          by_cases hlt : i < n
          · have hltd : decide ((i : Int) < (n : Int)) = true := by rw [decide_eq_true_eq]; omega
            obtain ⟨f', rfl⟩ : ∃ f', f = f' + 1 := ⟨f - 1, by omega⟩
            rw [brk, hxl.out] at HG
            have hca := (cst_all HM.out f4 (n - i) i (by rw [hxl.out]; omega)).2.2 (by rw [hxl.out]; exact hlt)
            have hnc := (R2.out.on hco.below).cell (HD.out.n i (Nat.zero_le _) (by rw [hxl.out]; exact hlt))
            rw [hxl.out] at hca
            obtain ⟨y, hy⟩ : ∃ y, nxt xs m i = y := ⟨_, rfl⟩
            rw [hy] at HG hnc hca
            by_cases hyn : y < n
            · have hiy : i < y := by
                rcases hca with ⟨_, e⟩ | ⟨_, e, _⟩
                · have : nxt xs m i = n := by unfold nxt; rw [e]
                  omega
                · exact e
              rw [if_pos ⟨hlt, hyn⟩] at HG
              have hynd : decide ((y : Int) < (n : Int)) = true := by rw [decide_eq_true_eq]; omega
              have HN : Hid ((acc ++ [(y : Int)]) ++ brk xs m f' y = brk xs m n 0) := by unfold Hid; rw [← HG]; simp
              have HY := hide hy
              clear hca hy HG
              go_wp2_with (at_builtin; refine Coll.push Try.underlying23 int64_info rfl (by decide) hco rfl (by rw [List.length_map]; omega) rfl _ _ rfl rfl rfl ?_; intro v1 w7 hc7 hg7; have hn7 := (R2.out.on hc7.below).cell (HD.out.n i (Nat.zero_le _) (by rw [hxl.out]; exact hlt)); rw [HY.out] at hn7)
              go_roundw
              case rel => exact ⟨y, f', acc ++ [(y : Int)], by omega, rfl, by simp; omega, by omega, by simpa using hc7, HN.out⟩
              case measure => simp [intOf]; omega
            · rw [if_neg (fun e => hyn e.2), List.append_nil] at HG
              have hynd : decide ((y : Int) < (n : Int)) = false := by rw [decide_eq_false_iff_not]; omega
              have HE : Hid (bestR xs m = (acc, cst xs m 0, 0)) := by unfold Hid; rw [HR.out, HG, hxl.out]
              have hc0 := (R1.out.on hco.below).cell (HD.out.c 0 (Nat.le_refl _) (Nat.zero_le _))
              have HC := hide ((hco.since R1.out.below).since hb1)
              clear hca hy HG hco
              go_wp2
              go_quiet (fail)
              go_wp2
              go_ret3
              exact ⟨_, by rw [HE.out]; rfl, by rw [HE.out]; exact HC.out.draw _⟩
          · have hltd : decide ((i : Int) < (n : Int)) = false := by rw [decide_eq_false_iff_not]; omega
            have HE : Hid (bestR xs m = (acc, cst xs m 0, 0)) := by
              have e : brk xs m f i = [] := by
                cases f with
                | zero => rfl
                | succ f => rw [brk, if_neg (by rw [hxl.out]; omega)]
              rw [e, List.append_nil] at HG
              unfold Hid; rw [HR.out, HG, hxl.out]
            have hc0 := (R1.out.on hco.below).cell (HD.out.c 0 (Nat.le_refl _) (Nat.zero_le _))
            have HC := hide ((hco.since R1.out.below).since hb1)
            clear HG hco
            go_wp2
            go_quiet (fail)
            go_wp2
            go_ret3
            exact ⟨_, by rw [HE.out]; rfl, by rw [HE.out]; exact HC.out.draw _⟩
  · have HR : Hid (bestR xs m = ([], 0, 1)) := by unfold Hid bestR; rw [if_neg hv]
    replace hv : Hid (validT xs m = false) := by unfold Hid; simpa using hv
    go_enter Try.func29, Try.ntmps29
    go_wp2_with (go_at_call 66; refine (ValidText_I _ _ _ _ xs _ h hu.out).mono ?_; rintro e w1 ⟨rfl, hb1⟩; rw [hv.out])
    go_ret3
    exact ⟨_, by rw [HR.out]; rfl, by rw [HR.out]; exact Coll.nil_ hb1⟩
end Go.Proofs.Ytanpmjbephelaaa
