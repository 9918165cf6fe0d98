/-
  RackText: what it returns, for all arguments.
-/
import Derived.Test.YtfaaeckcehaheaaL08B
import Derived.Test.YtfaaeckcehaheaaReps
namespace Go.Proofs.Ytfaaeckcehaheaa
open Go.RowKit

def rackBytes : List UInt8 → List Int → List UInt8
  | acc, [] => acc
  | acc, s :: ss => rackBytes (acc ++ List.replicate (s.toNat - acc.length) 46 ++ [84]) ss
def rackText (xs : List Int) : ByteArray := if okRack xs = true then ⟨(rackBytes [] xs).toArray⟩ else ⟨#[]⟩

theorem rises_all {lo hi : Int} (xs : List Int) : ∀ p, rises lo hi p xs = true → ∀ x ∈ xs, lo ≤ x ∧ x ≤ hi := by
  induction xs with
  | nil => simp
  | cons x xs ih =>
    intro p h
    rw [rises] at h
    split at h
    · rename_i hin
      split at h
      · simp at h
      · intro y hy
        rcases List.mem_cons.1 hy with rfl | hy
        · exact inB_iff.1 hin
        · exact ih _ h y hy
    · simp at h
theorem rack_all {xs : List Int} (h : okRack xs = true) : (∀ x ∈ xs, 0 ≤ x ∧ x ≤ 119) ∧ xs.length ≤ 12 := by
  simp only [okRack, Bool.and_eq_true, decide_eq_true_eq] at h
  exact ⟨rises_all xs _ h.2, h.1⟩

set_option maxHeartbeats 400000 in
theorem RackText_i (w : World) (A : Option Addr) (n c : Nat) (xs : List Int) (h : Sl (Value.int .i64) w A n xs) :
    Calls Try.prog 21 #[.slice A n c] w fun e w' => e = .returned (.string (rackText xs)) ∧ Below w.heap.size w w' := by
  have hn := h.max
  by_cases h1 : okRack xs = true
  · have HB := hide (rack_all h1)
    have hl : n ≤ 12 := by rw [← h.len]; exact HB.out.2
    have HR0 : Hid (rackText xs = ⟨(rackBytes [] xs).toArray⟩) := by unfold Hid rackText; rw [if_pos h1]
    go_enter Try.func21, Try.ntmps21
    go_wp2_with (go_at_call 16; refine (ValidRack_i _ _ _ _ xs h).mono ?_; rintro e w1 ⟨rfl, hb⟩; have hsz := hb.size; obtain ⟨hcw, hfw⟩ := bcell hb)
    have hb0 := hb
    clear h1
    go_loopw [3, 11] (fun v i wr => ∃ (k : Nat) (s : ByteArray), k ≤ n ∧ i = .int .i64 k ∧ v = .string s ∧ s.size ≤ 120 * k ∧ Below w.heap.size w wr ∧ rackBytes (by_ s) (xs.drop k) = rackBytes [] xs) (fun _ i _ => n - (intOf i).toNat)
    case atStart => exact ⟨0, ⟨#[]⟩, Nat.zero_le _, rfl, rfl, Nat.le_refl _, hb0, by simp [by_]⟩
    case round =>
      clear hb hb0 hcw hfw hsz
      obtain ⟨k, s, hk, rfl, rfl, hs, hb, HR⟩ := hrel
      by_cases hlt : k < n
      · obtain ⟨b, o, x, rfl, hx, hc⟩ := h.at_ hb hlt
        have hxb := HB.out.1 x (List.mem_of_getElem? hx)
        rw [drop_get hx, rackBytes, by_len] at HR
        have H2 : Hid (rackBytes (by_ (s ++ (runs 46 (x - (s.size : Int)) ++ ⟨#[84]⟩))) (xs.drop (k + 1)) = rackBytes [] xs) := by
          unfold Hid
          rw [← HR, by_append, by_append, by_runs, show (x - (s.size : Int)).toNat = x.toNat - s.size from by omega]
          rw [← List.append_assoc]; rfl
        have hsz1 : (runs 46 (x - (s.size : Int))).size = (x - (s.size : Int)).toNat := runs_size _ _
        have hle : (runs 46 (x - (s.size : Int))).size ≤ 119 := by rw [hsz1]; omega
        clear HR hx hsz1
        go_wp2_with (go_at_call 55; refine (repeat_any _ _ _ (by omega)).mono ?_; rintro e w1 ⟨rfl, hb1⟩)
        go_roundw
        case rel => exact ⟨k + 1, _, by omega, by go_num, rfl, by simp [ByteArray.size_append]; have : (⟨#[84]⟩ : ByteArray).size = 1 := rfl; omega, Below.step hb hb1, H2.out⟩
        case measure => simp [intOf]; omega
      · rw [h.end_ hlt, rackBytes] at HR
        have H2 := hide HR
        clear HR
        go_wp2
        go_ret
        exact ⟨by rw [HR0.out, ← H2.out, mk_by]; rfl, hb⟩
  · have HR0 : Hid (rackText xs = ⟨#[]⟩) := by unfold Hid rackText; rw [if_neg h1]
    replace h1 : okRack xs = false := by simpa using h1
    go_enter Try.func21, Try.ntmps21
    go_wp2_with (go_at_call 16; refine (ValidRack_i _ _ _ _ xs h).mono ?_; rintro e w1 ⟨rfl, hb⟩; have hsz := hb.size; obtain ⟨hcw, hfw⟩ := bcell hb)
    go_ret
    exact ⟨by rw [HR0.out]; rfl, by (repeat first | exact Below.refl _ _ | (refine Below.alloc ?_ (by go_size) _) | (refine Below.step ?_ (by assumption)))⟩

set_option maxHeartbeats 800000 in
theorem RackText_s (w : World) (A : Option Addr) (n c : Nat) (xs : List Int) (h : Sl (Value.int .i64) w A n xs) :
    Calls Try.prog 20 #[.slice A n c] w fun e w' => e = .returned (.string (rackText xs)) ∧ Below w.heap.size w w' := by
  have hn := h.max
  by_cases h1 : okRack xs = true
  · have HB := hide (rack_all h1)
    have hl : n ≤ 12 := by rw [← h.len]; exact HB.out.2
    have HR0 : Hid (rackText xs = ⟨(rackBytes [] xs).toArray⟩) := by unfold Hid rackText; rw [if_pos h1]
    go_enter Try.func20, Try.ntmps20
    go_wp2_with (go_at_call 49; refine (l08Ok_any _ _ _ _ xs h).mono ?_; rintro e w1 ⟨rfl, hb⟩; have hsz := hb.size; obtain ⟨hcw, hfw⟩ := bcell hb)
    have h0 := Coll.empty (e := 5) hb
    clear h1
    go_loopw [3, 4] (fun v i wr => ∃ (k : Nat) (acc : List UInt8), k ≤ n ∧ i = .int .i64 k ∧ acc.length ≤ 120 * k ∧ Coll w wr 5 v (acc.map ub) ∧ rackBytes acc (xs.drop k) = rackBytes [] xs) (fun _ i _ => n - (intOf i).toNat)
    case atStart => exact ⟨0, [], Nat.zero_le _, rfl, Nat.le_refl _, h0, by simp⟩
    case round =>
      clear hb h0 hcw hfw hsz
      obtain ⟨k, acc, hk, rfl, ha, hco, HR⟩ := hrel
      by_cases hlt : k < n
      · obtain ⟨b, o, x, rfl, hx, hc0⟩ := h.at_ hco.below hlt
        clear hc0
        have hxb := HB.out.1 x (List.mem_of_getElem? hx)
        rw [drop_get hx, rackBytes] at HR
        replace HR := hide HR
        have HX := hide hx
        clear hx
        obtain ⟨wo, rfl⟩ : ∃ wo : World, wo = wr := ⟨_, rfl⟩
        go_wp2
        go_loopw [3] (fun v wi => ∃ (j : Nat) (l : List UInt8), l = acc ++ List.replicate j 46 ∧ j ≤ x.toNat - acc.length ∧ Coll w wi 5 v (l.map ub) ∧ lenV v = l.length) (fun v _ => x.toNat - lenV v)
        case atStart => 
          refine ⟨0, acc, by simp, Nat.zero_le _, hco, ?_⟩
          obtain ⟨A1, c1, rfl, _⟩ := Sl.of_coll hco
          rfl
        case round =>
          obtain ⟨j, l, hl1, hj, hci, hlv⟩ := hrel
          have hll : l.length = acc.length + j := by rw [hl1]; simp
          have hc := h.cell hci.below HX.out
          obtain ⟨A1, c1, rfl, -, -, -⟩ := Sl.of_coll hci
          have HL := hide hl1
          have HLL := hide hll
          have hle : l.length ≤ 2000 := by omega
          clear hl1 hlv
          by_cases hlt2 : l.length < x.toNat
          · have hj2 : j + 1 ≤ x.toNat - acc.length := by omega
            clear hll
            go_wp2_with (at_builtin; refine Coll.push Try.underlying56 byte_info rfl (by decide) hci rfl (by rw [List.length_map]; omega) rfl _ _ rfl rfl rfl ?_; intro v1 w1 hc1 hg1)
            have hc2 : Coll w w1 5 v1 ((l ++ [46]).map ub) := by simpa [ub] using hc1
            have hlv1 : lenV v1 = l.length + 1 := by
              obtain ⟨A2, c2, rfl, _⟩ := Sl.of_coll hc2
              simp [lenV]
            go_roundw
            case rel => exact ⟨j + 1, l ++ [46], by rw [HL.out, List.replicate_succ', List.append_assoc], hj2, hc2, by rw [hlv1]; simp⟩
            case measure => rw [hlv1]; simp only [lenV]; omega
          · have hj2 : Hid (j = x.toNat - acc.length) := by unfold Hid; omega
            clear hll
            go_wp2_with (at_builtin; refine Coll.push Try.underlying56 byte_info rfl (by decide) hci rfl (by rw [List.length_map]; omega) rfl _ _ rfl rfl rfl ?_; intro v1 w1 hc1 hg1)
            have hc2 : Coll w w1 5 v1 ((l ++ [84]).map ub) := by simpa [ub] using hc1
            go_roundw
            case rel => exact ⟨k + 1, l ++ [84], by omega, by go_num, by simp; have := HLL.out; have := hj2.out; omega, hc2, by rw [HL.out, hj2.out]; exact HR.out⟩
            case measure => simp [intOf]; omega
      · rw [h.end_ hlt, rackBytes] at HR
        have H2 := hide HR
        have hst := hco.str
        clear HR
        go_wp2
        go_ret
        exact ⟨by rw [HR0.out, ← H2.out]; rfl, hco.below⟩
  · have HR0 : Hid (rackText xs = ⟨#[]⟩) := by unfold Hid rackText; rw [if_neg h1]
    replace h1 : okRack xs = false := by simpa using h1
    go_enter Try.func20, Try.ntmps20
    go_wp2_with (go_at_call 49; refine (l08Ok_any _ _ _ _ xs h).mono ?_; rintro e w1 ⟨rfl, hb⟩; have hsz := hb.size; obtain ⟨hcw, hfw⟩ := bcell hb)
    go_ret
    exact ⟨by rw [HR0.out]; rfl, by (repeat first | exact Below.refl _ _ | (refine Below.alloc ?_ (by go_size) _) | (refine Below.step ?_ (by assumption)))⟩
end Go.Proofs.Ytfaaeckcehaheaa
