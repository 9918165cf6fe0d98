/-
  Plans of rows: plain law; the walks of the reference and of the program.
-/
import Derived.Test.YtdcbdogcglinkaaL11K
import Derived.Test.YtdcbdogcglinkaaL11M
import Derived.Laws.DeepStrings4
namespace Go.Proofs.Ytdcbdogcglinkaa
set_option maxRecDepth 100000
open Go.RowKit

/-- The plan of a row from its i-th byte on, the carriage at a column; and how many moves. -/
def rowP (xs : List Int) : Nat → Nat → List UInt8 → List UInt8 × Nat
  | _, _, [] => ([], 0)
  | i, c, b :: bs => if b = 32 then rowP xs (i + 1) c bs
    else (planOf xs i c ++ 39 :: b :: (rowP xs (i + 1) (i + 1) bs).1, (planOf xs i c).length + (rowP xs (i + 1) (i + 1) bs).2)
/-- What has been written, and what is still to be. -/
structure RowAt (xs : List Int) (s : ByteArray) (k c : Nat) (acc : List UInt8) (m : Nat) : Prop where
  text : acc ++ (rowP xs k c ((by_ s).drop k)).1 = (rowP xs 0 0 (by_ s)).1
  moves : m + (rowP xs k c ((by_ s).drop k)).2 = (rowP xs 0 0 (by_ s)).2
  at_ : c ≤ k
  len : acc.length ≤ 32 * k
  mle : m ≤ 30 * k
theorem RowAt.start (xs : List Int) (s : ByteArray) : RowAt xs s 0 0 [] 0 := ⟨by simp, by simp, Nat.le_refl _, by simp, by simp⟩
theorem RowAt.blank {xs : List Int} {s : ByteArray} {k c m : Nat} {acc : List UInt8} (h : RowAt xs s k c acc m) (hx : (by_ s)[k]? = some 32) : RowAt xs s (k + 1) c acc m := by
  have e : rowP xs k c ((by_ s).drop k) = rowP xs (k + 1) c ((by_ s).drop (k + 1)) := by rw [drop_get hx, rowP, if_pos rfl]
  exact ⟨by rw [← e]; exact h.text, by rw [← e]; exact h.moves, by have := h.at_; omega, by have := h.len; omega, by have := h.mle; omega⟩
theorem RowAt.letter {xs : List Int} (hok : ∀ x ∈ xs, 1 ≤ x ∧ x ≤ 30) {s : ByteArray} {k c m : Nat} {b : UInt8} {acc : List UInt8} (h : RowAt xs s k c acc m) (hk : k ≤ 30) (hx : (by_ s)[k]? = some b) (hb : ¬ b = 32) :
    RowAt xs s (k + 1) (k + 1) (acc ++ planOf xs k c ++ [39, b]) (m + (planOf xs k c).length) := by
  have hl : (planOf xs k c).length ≤ 30 := by
    rw [planOf_len hok hk (by have := h.at_; omega)]
    exact dist_le30 hok hk (by have := h.at_; omega)
  have e : rowP xs k c ((by_ s).drop k) = (planOf xs k c ++ 39 :: b :: (rowP xs (k + 1) (k + 1) ((by_ s).drop (k + 1))).1, (planOf xs k c).length + (rowP xs (k + 1) (k + 1) ((by_ s).drop (k + 1))).2) := by rw [drop_get hx, rowP, if_neg hb]
  have h1 := h.text
  have h2 := h.moves
  rw [e] at h1 h2
  refine ⟨by rw [← h1]; simp, by rw [← h2]; simp only; omega, Nat.le_refl _, ?_, ?_⟩
  · have := h.len; simp; omega
  · have := h.mle; omega
theorem RowAt.done {xs : List Int} {s : ByteArray} {k c m : Nat} {acc : List UInt8} (h : RowAt xs s k c acc m) (hk : ¬ k < s.size) : acc = (rowP xs 0 0 (by_ s)).1 ∧ m = (rowP xs 0 0 (by_ s)).2 := by
  have e : (by_ s).drop k = [] := List.drop_eq_nil_of_le (by rw [by_len]; omega)
  have h1 := h.text
  have h2 := h.moves
  rw [e, rowP] at h1 h2
  exact ⟨by simpa using h1, by simpa using h2⟩
theorem sl_two (W : World) (a b : UInt8) (e : TypeId) : Sl ub (W.alloc (.cells #[.int .u8 (a.toNat : Int), .int .u8 (b.toNat : Int)] e)) (some ⟨W.heap.size, 0, none⟩) 2 [a, b] := by
  refine ⟨rfl, by decide, fun k x hx => ⟨W.heap.size, 0, rfl, by simp, ?_⟩⟩
  rw [World.cell?_alloc_at _ _ _ _ rfl]
  match k, hx with
  | 0, hx => simpa [ub] using hx
  | 1, hx => simpa [ub] using hx

set_option maxHeartbeats 1000000 in
theorem rowPlan_any (w : World) (A : Option Addr) (n c : Nat) (xs : List Int) (s : ByteArray) (h : Sl (Value.int .i64) w A n xs) (hx : ∀ x ∈ xs, 1 ≤ x ∧ x ≤ 30) (hs : s.size ≤ 30) :
    Calls Try.prog 60 #[.slice A n c, .string s] w fun e w' => e = .returned (.tuple #[.string (mkB (rowP xs 0 0 (by_ s)).1), .int .i64 ((rowP xs 0 0 (by_ s)).2 : Int)]) ∧ Below w.heap.size w w' := by
  have HX := hide hx
  clear hx
  go_enter Try.func60, Try.ntmps60
  go_wp2
  go_loopw [6, 7, 8, 13] (fun p m a i wr => ∃ (k cn mn : Nat) (acc : List UInt8), k ≤ s.size ∧ i = .int .i64 k ∧ p = .string (mkB acc) ∧ m = .int .i64 mn ∧ a = .int .i64 cn ∧ Below w.heap.size w wr ∧ RowAt xs s k cn acc mn) (fun _ _ _ i _ => s.size - (intOf i).toNat)
  case atStart => exact ⟨0, 0, 0, [], Nat.zero_le _, rfl, rfl, rfl, rfl, Below.refl _ _, RowAt.start _ _⟩
  case round =>
    obtain ⟨k, cn, mn, acc, hk, rfl, rfl, rfl, rfl, hb, hR⟩ := hrel
    have HR := hide hR
    have hcn := hR.at_
    have hmn := hR.mle
    have hacc : (mkB acc).size ≤ 32 * k := hR.len
    clear hR
    by_cases hlt : k < s.size
    · have hxk := by_get hlt
      obtain ⟨b, hbk⟩ : ∃ b, s[k] = b := ⟨_, rfl⟩
      rw [hbk] at hxk
      have hrun := run_byte hxk
      have hlt2 : decide ((k : Int) < (s.size : Int)) = true := by rw [decide_eq_true_eq]; omega
      by_cases h32 : b = 32
      · have HN := hide (HR.out.blank (h32 ▸ hxk))
        have hcb : ((b.toNat : Int) == 32) = true := b_eq (c := 32) h32
        clear hbk h32 hxk
        go_wp2
        go_roundw
        case rel => exact ⟨k + 1, cn, mn, acc, by omega, by go_num, rfl, rfl, rfl, hb, HN.out⟩
        case measure => simp [intOf]; omega
      · have HN := hide (HR.out.letter HX.out (by omega) hxk h32)
        have hcb : ((b.toNat : Int) == 32) = false := b_ne (c := 32) h32
        have hex := hide (ext_one hxk)
        have hk30 : k ≤ 30 := by omega
        have hcn30 : cn ≤ 30 := by omega
        have hpl := planOf_len HX.out hk30 hcn30
        have hpl2 := dist_le30 HX.out hk30 hcn30
        have hsz : (mkB (planOf xs k cn)).size = (planOf xs k cn).length := rfl
        clear hbk h32 hxk
        go_wp2_with fail
        refine (planBetween_any _ _ _ _ xs k cn (h.on hb) HX.out hk30 hcn30).mono ?_
        rintro e w2 ⟨rfl, hb2⟩
        go_wp2
        rw [hpl] at HN
        have HS : Hid (mkB acc ++ (mkB (planOf xs k cn) ++ ⟨#[39]⟩ ++ s.extract k (k + 1)) = mkB (acc ++ planOf xs k cn ++ [39, b])) := by
          unfold Hid
          rw [hex.out]
          apply ba_eq
          rw [by_append, by_append, by_append]
          show acc ++ ((planOf xs k cn ++ [39]) ++ [b]) = acc ++ planOf xs k cn ++ [39, b]
          simp
        go_roundw
        case rel => exact ⟨k + 1, k + 1, _, _, by omega, by go_num, by rw [HS.out], by go_num, by go_num, Below.step hb hb2, HN.out⟩
        case measure => simp [intOf]; omega
    · have HD := hide (HR.out.done hlt)
      go_wp2
      go_ret2
      exact ⟨by rw [← HD.out.1, ← HD.out.2]; rfl, hb⟩

set_option maxHeartbeats 1000000 in
theorem l11Plan_any (w : World) (A : Option Addr) (n c : Nat) (xs : List Int) (s : ByteArray) (h : Sl (Value.int .i64) w A n xs) (hx : ∀ x ∈ xs, 1 ≤ x ∧ x ≤ 30) (hs : s.size ≤ 30) :
    Calls Try.prog 58 #[.slice A n c, .string s] w fun e w' => e = .returned (.tuple #[.string (mkB (rowP xs 0 0 (by_ s)).1), .int .i64 ((rowP xs 0 0 (by_ s)).2 : Int)]) ∧ Below w.heap.size w w' := by
  have HX := hide hx
  have h0 := Coll.empty (e := 5) (Below.refl w.heap.size w)
  clear hx
  go_enter Try.func58, Try.ntmps58
  go_wp2
  go_loopw [6, 7, 8, 9] (fun p a m i wr => ∃ (k cn mn : Nat) (acc : List UInt8), k ≤ s.size ∧ i = .int .i64 k ∧ m = .int .i64 mn ∧ a = .int .i64 cn ∧ Coll w wr 5 p (acc.map ub) ∧ RowAt xs s k cn acc mn) (fun _ _ _ i _ => s.size - (intOf i).toNat)
  case atStart => exact ⟨0, 0, 0, [], Nat.zero_le _, rfl, rfl, rfl, h0, RowAt.start _ _⟩
  case round =>
    clear h0
    obtain ⟨k, cn, mn, acc, hk, rfl, rfl, rfl, hco, hR⟩ := hrel
    have HR := hide hR
    have hcn := hR.at_
    have hmn := hR.mle
    have hacc := hR.len
    have hb := hco.below
    clear hR
    by_cases hlt : k < s.size
    · have hxk := by_get hlt
      obtain ⟨b, hbk⟩ : ∃ b, s[k] = b := ⟨_, rfl⟩
      rw [hbk] at hxk
      have hrun := run_byte hxk
      have hlt2 : decide ((k : Int) < (s.size : Int)) = true := by rw [decide_eq_true_eq]; omega
      by_cases h32 : b = 32
      · have HN := hide (HR.out.blank (h32 ▸ hxk))
        have hcb : ((b.toNat : Int) == 32) = true := b_eq (c := 32) h32
        clear hbk h32 hxk
        go_wp2
        go_roundw
        case rel => exact ⟨k + 1, cn, mn, acc, by omega, by go_num, rfl, rfl, hco, HN.out⟩
        case measure => simp [intOf]; omega
      · have HN := hide (HR.out.letter HX.out (by omega) hxk h32)
        have hcb : ((b.toNat : Int) == 32) = false := b_ne (c := 32) h32
        have hk30 : k ≤ 30 := by omega
        have hcn30 : cn ≤ 30 := by omega
        have hpl := planOf_len HX.out hk30 hcn30
        have hpl2 := dist_le30 HX.out hk30 hcn30
        have hsz : (mkB (planOf xs k cn)).size = (planOf xs k cn).length := rfl
        have HFR := hide (dist_far HX.out hk30)
        clear hbk h32 hxk
        go_wp2_with fail
        refine (l11Far_dist _ _ _ _ xs k (h.on hb) HX.out hk30).mono ?_
        rintro e w2 ⟨rfl, hO, hb2⟩
        have hFA := hO.far
        clear hO
        go_wp2_with fail
        refine (l11Moves_any _ _ _ _ xs _ k cn _ ((h.on hb).on hb2) HX.out hk30 HFR.out hFA hcn30).mono ?_
        rintro e w3 ⟨rfl, hb3⟩
        have hco3 := (hco.on hb2).on hb3
        rw [show mkB (planN xs (dist xs k) (dist xs k cn) cn) = mkB (planOf xs k cn) from rfl]
        clear hco hFA
        go_wp2_with (first
          | (at_builtin; refine Coll.text hco3 (by rw [List.length_map]; omega) rfl _ _ rfl rfl rfl ?_; intro v4 w4 hco4 hg4)
          | (at_builtin; refine Coll.join Try.underlying62 byte_info rfl (by decide) (hco4.lay _) (sl_two w4 39 b _) (fun u => rfl) (by rw [List.length_append, List.length_map, List.length_map]; have hll : (by_ (mkB (planOf xs k cn))).length = (planOf xs k cn).length := rfl; omega) rfl _ _ rfl rfl rfl ?_; intro v5 w5 hco5 hg5))
        rw [hpl] at HN
        go_roundw
        case rel => exact ⟨k + 1, k + 1, _, _, by omega, by go_num, by go_num, by go_num, by simpa [by_, mkB, ub] using hco5, HN.out⟩
        case measure => simp [intOf]; omega
    · have HD := hide (HR.out.done hlt)
      have hst := hco.str
      go_wp2
      go_ret2
      exact ⟨by rw [← HD.out.1, ← HD.out.2]; rfl, hb⟩
end Go.Proofs.Ytdcbdogcglinkaa
