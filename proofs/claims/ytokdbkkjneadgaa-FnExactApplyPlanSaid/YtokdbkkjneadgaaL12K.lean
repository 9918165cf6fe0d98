/-
  What one sees of a letter typed over another; which letter makes one out of another; codes of lines.
-/
import Derived.Test.YtokdbkkjneadgaaL12J
import Derived.Test.YtokdbkkjneadgaaL12F
namespace Go.Proofs.Ytokdbkkjneadgaa
set_option maxRecDepth 100000
open Go.RowKit

def hd (s : ByteArray) : UInt8 := (by_ s).headD 0
def Lets (xs : List Rule) : Prop := ∀ x ∈ xs, isLet x.1 = true ∧ isLet x.2.1 = true ∧ isLet x.2.2 = true
theorem oversGo_lets (xs : List Rule) : ∀ pre, oversGo pre xs = true → Lets xs := by
  induction xs with
  | nil => intro _ _ x hx; simp at hx
  | cons y ys ih =>
    intro pre h x hx
    rw [oversGo] at h
    split at h
    · rename_i hok
      split at h
      · cases h
      · rcases List.mem_cons.1 hx with rfl | hx
        · have := ovOk_iff.1 hok; exact ⟨this.1, this.2.1, this.2.2.1⟩
        · exact ih _ h x hx
    · cases h
theorem okOvers_lets {xs : List Rule} (h : okOvers xs = true) : Lets xs ∧ xs.length ≤ 20 := by
  rw [okOvers, Bool.and_eq_true, decide_eq_true_eq] at h
  exact ⟨oversGo_lets xs _ h.1, h.2⟩
theorem hd_one (b : UInt8) : hd ⟨#[b]⟩ = b := rfl
theorem let_pos {b : UInt8} (h : 32 < (b.toNat : Int)) : b ≠ 0 := by rintro rfl; simp at h

/-! ### seen -/
def seenGo (u t : UInt8) : List Rule → Option UInt8
  | [] => none
  | r :: rs => if hd r.1 = u ∧ hd r.2.1 = t then some (hd r.2.2) else seenGo u t rs
def seenB (xs : List Rule) (u t : UInt8) : Option UInt8 := if u = t ∨ t = 32 then some u else if u = 32 then some t else seenGo u t xs
theorem seenGo_pos {u t : UInt8} {xs : List Rule} (h : Lets xs) {b : UInt8} (hb : seenGo u t xs = some b) : b ≠ 0 := by
  induction xs with
  | nil => cases hb
  | cons r rs ih =>
    rw [seenGo] at hb
    split at hb
    · obtain ⟨_, _, h3⟩ := h r (List.mem_cons_self ..)
      obtain ⟨c, hc, h32, _⟩ := isLet_form h3
      rw [hc, hd_one] at hb
      cases hb
      exact let_pos h32
    · exact ih (fun x hx => h x (List.mem_cons_of_mem _ hx)) hb
theorem seenB_pos {xs : List Rule} (h : Lets xs) {u t b : UInt8} (hu : u ≠ 0) (ht : t ≠ 0) (hb : seenB xs u t = some b) : b ≠ 0 := by
  unfold seenB at hb
  split at hb
  · cases hb; exact hu
  · split at hb
    · cases hb; exact ht
    · exact seenGo_pos h hb


set_option maxHeartbeats 1000000 in
theorem l12Seen_any (w : World) (A : Option Addr) (n c : Nat) (xs : List Rule) (u t : UInt8) (h : Sl3 Value.string w A n xs) (hu : Lets xs) :
    Calls Try.prog 71 #[.slice A n c, .int .u8 u.toNat, .int .u8 t.toNat] w fun e w' => e = .returned (.int .u8 (((seenB xs u t).getD 0).toNat : Int)) ∧ Below w.heap.size w w' := by
  have hn := h.max
  have HU := hide hu
  clear hu
  by_cases h1 : u = t
  · have c1 : ((u.toNat : Int) == (t.toNat : Int)) = true := b_eq h1
    have HR : Hid (seenB xs u t = some u) := by unfold Hid seenB; rw [if_pos (Or.inl h1)]
    clear h1
    go_enter Try.func71, Try.ntmps71
    go_wp2
    go_ret
    exact ⟨by rw [HR.out]; rfl, Below.refl _ _⟩
  · have c1 : ((u.toNat : Int) == (t.toNat : Int)) = false := b_ne h1
    by_cases h2 : t = 32
    · have c2 : ((t.toNat : Int) == 32) = true := b_eq (c := 32) h2
      have HR : Hid (seenB xs u t = some u) := by unfold Hid seenB; rw [if_pos (Or.inr h2)]
      clear h1 h2
      go_enter Try.func71, Try.ntmps71
      go_wp2
      go_ret
      exact ⟨by rw [HR.out]; rfl, Below.refl _ _⟩
    · have c2 : ((t.toNat : Int) == 32) = false := b_ne (c := 32) h2
      by_cases h3 : u = 32
      · have c3 : ((u.toNat : Int) == 32) = true := b_eq (c := 32) h3
        have HR : Hid (seenB xs u t = some t) := by unfold Hid seenB; rw [if_neg (fun e => e.elim h1 h2), if_pos h3]
        clear h1 h2 h3
        go_enter Try.func71, Try.ntmps71
        go_wp2
        go_ret
        exact ⟨by rw [HR.out]; rfl, Below.refl _ _⟩
      · have c3 : ((u.toNat : Int) == 32) = false := b_ne (c := 32) h3
        have HR : Hid (seenB xs u t = seenGo u t xs) := by unfold Hid seenB; rw [if_neg (fun e => e.elim h1 h2), if_neg h3]
        clear h1 h2 h3
        go_enter Try.func71, Try.ntmps71
        go_wp2
        go_loopw [7] (fun i wr => ∃ k : Nat, k ≤ n ∧ i = .int .i64 k ∧ Below w.heap.size w wr ∧ seenGo u t (xs.drop k) = seenGo u t xs) (fun i _ => n - (intOf i).toNat)
        case atStart => exact ⟨0, Nat.zero_le _, rfl, Below.refl _ _, by simp⟩
        case round =>
          obtain ⟨k, hk, rfl, hb, HQ⟩ := hrel
          by_cases hlt : k < n
          · obtain ⟨b, o, x, y, z, rfl, hbl, hx, e0, e1, e2⟩ := h.at_ hb hlt
            obtain ⟨l1, l2, l3⟩ := HU.out _ (List.mem_of_getElem? hx)
            simp only at l1 l2 l3
            rw [drop_get hx, seenGo] at HQ
            simp only at HQ
            obtain ⟨p, rfl, -, -⟩ := isLet_form l1
            obtain ⟨q, rfl, -, -⟩ := isLet_form l2
            obtain ⟨r, rfl, -, -⟩ := isLet_form l3
            rw [hd_one, hd_one, hd_one] at HQ
            have r1 := run_byte0 (s := ⟨#[p]⟩) (b := p) rfl
            have r2 := run_byte0 (s := ⟨#[q]⟩) (b := q) rfl
            have r3 := run_byte0 (s := ⟨#[r]⟩) (b := r) rfl
            clear hx l1 l2 l3
            by_cases k1 : p = u
            · have d1 : ((p.toNat : Int) == (u.toNat : Int)) = true := b_eq k1
              by_cases k2 : q = t
              · have d2 : ((q.toNat : Int) == (t.toNat : Int)) = true := b_eq k2
                rw [if_pos ⟨k1, k2⟩] at HQ
                have H2 : Hid (seenB xs u t = some r) := by unfold Hid; rw [HR.out, ← HQ]
                clear HQ k1 k2
                go_wp2
                go_ret
                exact ⟨by rw [H2.out]; rfl, hb⟩
              · have d2 : ((q.toNat : Int) == (t.toNat : Int)) = false := b_ne k2
                rw [if_neg (fun e => k2 e.2)] at HQ
                have H2 := hide HQ
                clear HQ k1 k2
                go_wp2
                go_roundw
                case rel => exact ⟨k + 1, by omega, by go_num, hb, H2.out⟩
                case measure => simp [intOf]; omega
            · have d1 : ((p.toNat : Int) == (u.toNat : Int)) = false := b_ne k1
              rw [if_neg (fun e => k1 e.1)] at HQ
              have H2 := hide HQ
              clear HQ k1
              go_wp2
              go_roundw
              case rel => exact ⟨k + 1, by omega, by go_num, hb, H2.out⟩
              case measure => simp [intOf]; omega
          · rw [h.end_ hlt, seenGo] at HQ
            have H2 : Hid (seenB xs u t = none) := by unfold Hid; rw [HR.out, ← HQ]
            clear HQ
            go_wp2
            go_ret
            exact ⟨by rw [H2.out]; rfl, hb⟩

set_option maxHeartbeats 1000000 in
theorem seen_any (w : World) (A : Option Addr) (n c : Nat) (xs : List Rule) (u t : UInt8) (h : Sl3 Value.string w A n xs) (hu : Lets xs) :
    Calls Try.prog 73 #[.slice A n c, .int .u8 u.toNat, .int .u8 t.toNat] w fun e w' => e = .returned (.tuple #[.int .u8 (((seenB xs u t).getD 0).toNat : Int), .bool (seenB xs u t).isSome]) ∧ Below w.heap.size w w' := by
  have hn := h.max
  have HU := hide hu
  clear hu
  by_cases h1 : u = t
  · have c1 : ((u.toNat : Int) == (t.toNat : Int)) = true := b_eq h1
    have HR : Hid (seenB xs u t = some u) := by unfold Hid seenB; rw [if_pos (Or.inl h1)]
    clear h1
    go_enter Try.func73, Try.ntmps73
    go_wp2
    go_ret2
    exact ⟨by rw [HR.out]; rfl, Below.refl _ _⟩
  · have c1 : ((u.toNat : Int) == (t.toNat : Int)) = false := b_ne h1
    by_cases h2 : t = 32
    · have c2 : ((t.toNat : Int) == 32) = true := b_eq (c := 32) h2
      have HR : Hid (seenB xs u t = some u) := by unfold Hid seenB; rw [if_pos (Or.inr h2)]
      clear h1 h2
      go_enter Try.func73, Try.ntmps73
      go_wp2
      go_ret2
      exact ⟨by rw [HR.out]; rfl, Below.refl _ _⟩
    · have c2 : ((t.toNat : Int) == 32) = false := b_ne (c := 32) h2
      by_cases h3 : u = 32
      · have c3 : ((u.toNat : Int) == 32) = true := b_eq (c := 32) h3
        have HR : Hid (seenB xs u t = some t) := by unfold Hid seenB; rw [if_neg (fun e => e.elim h1 h2), if_pos h3]
        clear h1 h2 h3
        go_enter Try.func73, Try.ntmps73
        go_wp2
        go_ret2
        exact ⟨by rw [HR.out]; rfl, Below.refl _ _⟩
      · have c3 : ((u.toNat : Int) == 32) = false := b_ne (c := 32) h3
        have HR : Hid (seenB xs u t = seenGo u t xs) := by unfold Hid seenB; rw [if_neg (fun e => e.elim h1 h2), if_neg h3]
        clear h1 h2 h3
        go_enter Try.func73, Try.ntmps73
        go_wp2
        go_loopw [25] (fun i wr => ∃ k : Nat, k ≤ n ∧ i = .int .i64 k ∧ Below w.heap.size w wr ∧ seenGo u t (xs.drop k) = seenGo u t xs) (fun i _ => n - (intOf i).toNat)
        case atStart => exact ⟨0, Nat.zero_le _, rfl, Below.refl _ _, by simp⟩
        case round =>
          obtain ⟨k, hk, rfl, hb, HQ⟩ := hrel
          by_cases hlt : k < n
          · obtain ⟨b, o, x, y, z, rfl, hbl, hx, e0, e1, e2⟩ := h.at_ hb hlt
            obtain ⟨l1, l2, l3⟩ := HU.out _ (List.mem_of_getElem? hx)
            simp only at l1 l2 l3
            rw [drop_get hx, seenGo] at HQ
            simp only at HQ
            obtain ⟨p, rfl, -, -⟩ := isLet_form l1
            obtain ⟨q, rfl, -, -⟩ := isLet_form l2
            obtain ⟨r, rfl, -, -⟩ := isLet_form l3
            rw [hd_one, hd_one, hd_one] at HQ
            have r1 := run_byte0 (s := ⟨#[p]⟩) (b := p) rfl
            have r2 := run_byte0 (s := ⟨#[q]⟩) (b := q) rfl
            have r3 := run_byte0 (s := ⟨#[r]⟩) (b := r) rfl
            clear hx l1 l2 l3
            by_cases k1 : p = u
            · have d1 : ((p.toNat : Int) == (u.toNat : Int)) = true := b_eq k1
              by_cases k2 : q = t
              · have d2 : ((q.toNat : Int) == (t.toNat : Int)) = true := b_eq k2
                rw [if_pos ⟨k1, k2⟩] at HQ
                have H2 : Hid (seenB xs u t = some r) := by unfold Hid; rw [HR.out, ← HQ]
                clear HQ k1 k2
                go_wp2
                go_ret2
                exact ⟨by rw [H2.out]; rfl, hb.alloc hb.size _⟩
              · have d2 : ((q.toNat : Int) == (t.toNat : Int)) = false := b_ne k2
                rw [if_neg (fun e => k2 e.2)] at HQ
                have H2 := hide HQ
                clear HQ k1 k2
                go_wp2
                go_roundw
                case rel => exact ⟨k + 1, by omega, by go_num, hb.alloc hb.size _, H2.out⟩
                case measure => simp [intOf]; omega
            · have d1 : ((p.toNat : Int) == (u.toNat : Int)) = false := b_ne k1
              rw [if_neg (fun e => k1 e.1)] at HQ
              have H2 := hide HQ
              clear HQ k1
              go_wp2
              go_roundw
              case rel => exact ⟨k + 1, by omega, by go_num, hb.alloc hb.size _, H2.out⟩
              case measure => simp [intOf]; omega
          · rw [h.end_ hlt, seenGo] at HQ
            have H2 : Hid (seenB xs u t = none) := by unfold Hid; rw [HR.out, ← HQ]
            clear HQ
            go_wp2
            go_ret2
            exact ⟨by rw [H2.out]; rfl, hb⟩

/-! ### the letter that makes one out of another -/
def topGo (u v : UInt8) : UInt8 → List Rule → UInt8
  | best, [] => best
  | best, r :: rs => if hd r.1 = u ∧ hd r.2.2 = v ∧ (best = 0 ∨ (hd r.2.1).toNat < best.toNat) then topGo u v (hd r.2.1) rs else topGo u v best rs
def topB (xs : List Rule) (u v : UInt8) : UInt8 := if u = 32 then v else topGo u v 0 xs


set_option maxHeartbeats 1000000 in
theorem l12Top_any (w : World) (A : Option Addr) (n c : Nat) (xs : List Rule) (u v : UInt8) (h : Sl3 Value.string w A n xs) (hu : Lets xs) :
    Calls Try.prog 87 #[.slice A n c, .int .u8 u.toNat, .int .u8 v.toNat] w fun e w' => e = .returned (.int .u8 ((topB xs u v).toNat : Int)) ∧ Below w.heap.size w w' := by
  have hn := h.max
  have HU := hide hu
  clear hu
  by_cases hs : u = 32
  · have HR : Hid (topB xs u v = v) := by unfold Hid topB; rw [if_pos hs]
    have ds : ((u.toNat : Int) == 32) = true := b_eq (c := 32) hs
    clear hs
    go_enter Try.func87, Try.ntmps87
    go_wp2
    go_loopw [7, 8] (fun bv i wr => ∃ (k : Nat) (z : UInt8), k ≤ n ∧ i = .int .i64 k ∧ bv = .int .u8 z.toNat ∧ Below w.heap.size w wr ∧ topGo u v z (xs.drop k) = topGo u v 0 xs) (fun _ i _ => n - (intOf i).toNat)
    case atStart => exact ⟨0, 0, Nat.zero_le _, rfl, rfl, Below.refl _ _, by simp⟩
    case round =>
      obtain ⟨k, z, hk, rfl, rfl, hb, HQ⟩ := hrel
      by_cases hlt : k < n
      · obtain ⟨b, o, x, y, s, rfl, hbl, hx, e0, e1, e2⟩ := h.at_ hb hlt
        obtain ⟨l1, l2, l3⟩ := HU.out _ (List.mem_of_getElem? hx)
        simp only at l1 l2 l3
        rw [drop_get hx, topGo] at HQ
        simp only at HQ
        obtain ⟨p, rfl, -, -⟩ := isLet_form l1
        obtain ⟨q, rfl, -, -⟩ := isLet_form l2
        obtain ⟨r, rfl, -, -⟩ := isLet_form l3
        rw [hd_one, hd_one, hd_one] at HQ
        have r1 := run_byte0 (s := ⟨#[p]⟩) (b := p) rfl
        have r2 := run_byte0 (s := ⟨#[q]⟩) (b := q) rfl
        have r3 := run_byte0 (s := ⟨#[r]⟩) (b := r) rfl
        clear hx l1 l2 l3
        by_cases k1 : p = u
        · have d1 : ((p.toNat : Int) == (u.toNat : Int)) = true := b_eq k1
          by_cases k2 : r = v
          · have d2 : ((r.toNat : Int) == (v.toNat : Int)) = true := b_eq k2
            by_cases k3 : z = 0
            · have d3 : ((z.toNat : Int) == 0) = true := b_eq (c := 0) k3
              rw [if_pos ⟨k1, k2, Or.inl k3⟩] at HQ
              have H2 := hide HQ
              clear HQ k1 k2 k3
              go_wp2
              go_roundw
              case rel => exact ⟨k + 1, q, by omega, by go_num, rfl, hb, H2.out⟩
              case measure => simp [intOf]; omega
            · have d3 : ((z.toNat : Int) == 0) = false := b_ne (c := 0) k3
              by_cases k4 : (q.toNat : Int) < (z.toNat : Int)
              · rw [if_pos ⟨k1, k2, Or.inr (by omega)⟩] at HQ
                have H2 := hide HQ
                clear HQ k1 k2 k3
                go_wp2
                go_roundw
                case rel => exact ⟨k + 1, q, by omega, by go_num, rfl, hb, H2.out⟩
                case measure => simp [intOf]; omega
              · rw [if_neg (fun e => e.2.2.elim k3 (fun e => k4 (by omega)))] at HQ
                have H2 := hide HQ
                clear HQ k1 k2 k3
                go_wp2
                go_roundw
                case rel => exact ⟨k + 1, z, by omega, by go_num, rfl, hb, H2.out⟩
                case measure => simp [intOf]; omega
          · have d2 : ((r.toNat : Int) == (v.toNat : Int)) = false := b_ne k2
            rw [if_neg (fun e => k2 e.2.1)] at HQ
            have H2 := hide HQ
            clear HQ k1 k2
            go_wp2
            go_roundw
            case rel => exact ⟨k + 1, z, by omega, by go_num, rfl, hb, H2.out⟩
            case measure => simp [intOf]; omega
        · have d1 : ((p.toNat : Int) == (u.toNat : Int)) = false := b_ne k1
          rw [if_neg (fun e => k1 e.1)] at HQ
          have H2 := hide HQ
          clear HQ k1
          go_wp2
          go_roundw
          case rel => exact ⟨k + 1, z, by omega, by go_num, rfl, hb, H2.out⟩
          case measure => simp [intOf]; omega
      · rw [h.end_ hlt, topGo] at HQ
        have H2 := hide HQ
        clear HQ
        go_wp2; go_ret; exact ⟨ret_int (by rw [HR.out]), hb⟩
  · have HR : Hid (topB xs u v = topGo u v 0 xs) := by unfold Hid topB; rw [if_neg hs]
    have ds : ((u.toNat : Int) == 32) = false := b_ne (c := 32) hs
    clear hs
    go_enter Try.func87, Try.ntmps87
    go_wp2
    go_loopw [7, 8] (fun bv i wr => ∃ (k : Nat) (z : UInt8), k ≤ n ∧ i = .int .i64 k ∧ bv = .int .u8 z.toNat ∧ Below w.heap.size w wr ∧ topGo u v z (xs.drop k) = topGo u v 0 xs) (fun _ i _ => n - (intOf i).toNat)
    case atStart => exact ⟨0, 0, Nat.zero_le _, rfl, rfl, Below.refl _ _, by simp⟩
    case round =>
      obtain ⟨k, z, hk, rfl, rfl, hb, HQ⟩ := hrel
      by_cases hlt : k < n
      · obtain ⟨b, o, x, y, s, rfl, hbl, hx, e0, e1, e2⟩ := h.at_ hb hlt
        obtain ⟨l1, l2, l3⟩ := HU.out _ (List.mem_of_getElem? hx)
        simp only at l1 l2 l3
        rw [drop_get hx, topGo] at HQ
        simp only at HQ
        obtain ⟨p, rfl, -, -⟩ := isLet_form l1
        obtain ⟨q, rfl, -, -⟩ := isLet_form l2
        obtain ⟨r, rfl, -, -⟩ := isLet_form l3
        rw [hd_one, hd_one, hd_one] at HQ
        have r1 := run_byte0 (s := ⟨#[p]⟩) (b := p) rfl
        have r2 := run_byte0 (s := ⟨#[q]⟩) (b := q) rfl
        have r3 := run_byte0 (s := ⟨#[r]⟩) (b := r) rfl
        clear hx l1 l2 l3
        by_cases k1 : p = u
        · have d1 : ((p.toNat : Int) == (u.toNat : Int)) = true := b_eq k1
          by_cases k2 : r = v
          · have d2 : ((r.toNat : Int) == (v.toNat : Int)) = true := b_eq k2
            by_cases k3 : z = 0
            · have d3 : ((z.toNat : Int) == 0) = true := b_eq (c := 0) k3
              rw [if_pos ⟨k1, k2, Or.inl k3⟩] at HQ
              have H2 := hide HQ
              clear HQ k1 k2 k3
              go_wp2
              go_roundw
              case rel => exact ⟨k + 1, q, by omega, by go_num, rfl, hb, H2.out⟩
              case measure => simp [intOf]; omega
            · have d3 : ((z.toNat : Int) == 0) = false := b_ne (c := 0) k3
              by_cases k4 : (q.toNat : Int) < (z.toNat : Int)
              · rw [if_pos ⟨k1, k2, Or.inr (by omega)⟩] at HQ
                have H2 := hide HQ
                clear HQ k1 k2 k3
                go_wp2
                go_roundw
                case rel => exact ⟨k + 1, q, by omega, by go_num, rfl, hb, H2.out⟩
                case measure => simp [intOf]; omega
              · rw [if_neg (fun e => e.2.2.elim k3 (fun e => k4 (by omega)))] at HQ
                have H2 := hide HQ
                clear HQ k1 k2 k3
                go_wp2
                go_roundw
                case rel => exact ⟨k + 1, z, by omega, by go_num, rfl, hb, H2.out⟩
                case measure => simp [intOf]; omega
          · have d2 : ((r.toNat : Int) == (v.toNat : Int)) = false := b_ne k2
            rw [if_neg (fun e => k2 e.2.1)] at HQ
            have H2 := hide HQ
            clear HQ k1 k2
            go_wp2
            go_roundw
            case rel => exact ⟨k + 1, z, by omega, by go_num, rfl, hb, H2.out⟩
            case measure => simp [intOf]; omega
        · have d1 : ((p.toNat : Int) == (u.toNat : Int)) = false := b_ne k1
          rw [if_neg (fun e => k1 e.1)] at HQ
          have H2 := hide HQ
          clear HQ k1
          go_wp2
          go_roundw
          case rel => exact ⟨k + 1, z, by omega, by go_num, rfl, hb, H2.out⟩
          case measure => simp [intOf]; omega
      · rw [h.end_ hlt, topGo] at HQ
        have H2 := hide HQ
        clear HQ
        go_wp2; go_ret; exact ⟨ret_int (by rw [HR.out, ← H2.out]), hb⟩

set_option maxHeartbeats 1000000 in
theorem topFor_any (w : World) (A : Option Addr) (n c : Nat) (xs : List Rule) (u v : UInt8) (h : Sl3 Value.string w A n xs) (hu : Lets xs) :
    Calls Try.prog 77 #[.slice A n c, .int .u8 u.toNat, .int .u8 v.toNat] w fun e w' => e = .returned (.int .u8 ((topGo u v 0 xs).toNat : Int)) ∧ Below w.heap.size w w' := by
  have hn := h.max
  have HU := hide hu
  clear hu
  go_enter Try.func77, Try.ntmps77
  go_wp2
  go_loopw [7, 12] (fun bv i wr => ∃ (k : Nat) (z : UInt8), k ≤ n ∧ i = .int .i64 k ∧ bv = .int .u8 z.toNat ∧ Below w.heap.size w wr ∧ topGo u v z (xs.drop k) = topGo u v 0 xs) (fun _ i _ => n - (intOf i).toNat)
  case atStart => exact ⟨0, 0, Nat.zero_le _, rfl, rfl, Below.refl _ _, by simp⟩
  case round =>
    obtain ⟨k, z, hk, rfl, rfl, hb, HQ⟩ := hrel
    by_cases hlt : k < n
    · obtain ⟨b, o, x, y, s, rfl, hbl, hx, e0, e1, e2⟩ := h.at_ hb hlt
      obtain ⟨l1, l2, l3⟩ := HU.out _ (List.mem_of_getElem? hx)
      simp only at l1 l2 l3
      rw [drop_get hx, topGo] at HQ
      simp only at HQ
      obtain ⟨p, rfl, -, -⟩ := isLet_form l1
      obtain ⟨q, rfl, -, -⟩ := isLet_form l2
      obtain ⟨r, rfl, -, -⟩ := isLet_form l3
      rw [hd_one, hd_one, hd_one] at HQ
      have r1 := run_byte0 (s := ⟨#[p]⟩) (b := p) rfl
      have r2 := run_byte0 (s := ⟨#[q]⟩) (b := q) rfl
      have r3 := run_byte0 (s := ⟨#[r]⟩) (b := r) rfl
      clear hx l1 l2 l3
      by_cases k1 : p = u
      · have d1 : ((p.toNat : Int) == (u.toNat : Int)) = true := b_eq k1
        by_cases k2 : r = v
        · have d2 : ((r.toNat : Int) == (v.toNat : Int)) = true := b_eq k2
          by_cases k3 : z = 0
          · have d3 : ((z.toNat : Int) == 0) = true := b_eq (c := 0) k3
            rw [if_pos ⟨k1, k2, Or.inl k3⟩] at HQ
            have H2 := hide HQ
            clear HQ k1 k2 k3
            go_wp2
            go_roundw
            case rel => exact ⟨k + 1, q, by omega, by go_num, rfl, hb.alloc hb.size _, H2.out⟩
            case measure => simp [intOf]; omega
          · have d3 : ((z.toNat : Int) == 0) = false := b_ne (c := 0) k3
            by_cases k4 : (q.toNat : Int) < (z.toNat : Int)
            · rw [if_pos ⟨k1, k2, Or.inr (by omega)⟩] at HQ
              have H2 := hide HQ
              clear HQ k1 k2 k3
              go_wp2
              go_roundw
              case rel => exact ⟨k + 1, q, by omega, by go_num, rfl, hb.alloc hb.size _, H2.out⟩
              case measure => simp [intOf]; omega
            · rw [if_neg (fun e => e.2.2.elim k3 (fun e => k4 (by omega)))] at HQ
              have H2 := hide HQ
              clear HQ k1 k2 k3
              go_wp2
              go_roundw
              case rel => exact ⟨k + 1, z, by omega, by go_num, rfl, hb.alloc hb.size _, H2.out⟩
              case measure => simp [intOf]; omega
        · have d2 : ((r.toNat : Int) == (v.toNat : Int)) = false := b_ne k2
          rw [if_neg (fun e => k2 e.2.1)] at HQ
          have H2 := hide HQ
          clear HQ k1 k2
          go_wp2
          go_roundw
          case rel => exact ⟨k + 1, z, by omega, by go_num, rfl, hb.alloc hb.size _, H2.out⟩
          case measure => simp [intOf]; omega
      · have d1 : ((p.toNat : Int) == (u.toNat : Int)) = false := b_ne k1
        rw [if_neg (fun e => k1 e.1)] at HQ
        have H2 := hide HQ
        clear HQ k1
        go_wp2
        go_roundw
        case rel => exact ⟨k + 1, z, by omega, by go_num, rfl, hb.alloc hb.size _, H2.out⟩
        case measure => simp [intOf]; omega
    · rw [h.end_ hlt, topGo] at HQ
      have H2 := hide HQ
      clear HQ
      go_wp2; go_ret; exact ⟨ret_int (by rw [← H2.out]), hb⟩

/-! ### codes -/
def overCode (xs : List Rule) (s t : ByteArray) : Int :=
  if okOvers xs = true then (if isTxt 32 60 s = true ∧ isTxt 32 60 t = true then (if s.size = t.size then 0 else 8) else 2) else 1
theorem overCode_ok {xs : List Rule} {s t : ByteArray} (h : overCode xs s t = 0) : okOvers xs = true ∧ isTxt 32 60 s = true ∧ isTxt 32 60 t = true ∧ s.size = t.size := by
  unfold overCode at h
  split at h
  · rename_i h1
    split at h
    · rename_i h2
      split at h
      · rename_i h3
        exact ⟨h1, h2.1, h2.2, h3⟩
      · omega
    · omega
  · omega

theorem l12Code_any (w : World) (A : Option Addr) (n c : Nat) (xs : List Rule) (s t : ByteArray) (h : Sl3 Value.string w A n xs) (hcap : n ≤ c) (hu : OvB xs) (hs : s.size ≤ 1048576) (ht : t.size ≤ 1048576) :
    Calls Try.prog 74 #[.slice A n c, .string s, .string t] w fun e w' => e = .returned (.int .i64 (overCode xs s t)) ∧ Below w.heap.size w w' := by
  replace hu := hide hu
  have _hc := hcap
  by_cases h1 : okOvers xs = true
  · by_cases h2 : isTxt 32 60 s = true
    · by_cases h3 : isTxt 32 60 t = true
      · by_cases h4 : s.size = t.size
        · have HR : Hid (overCode xs s t = 0) := by unfold Hid overCode; rw [if_pos h1, if_pos ⟨h2, h3⟩, if_pos h4]
          have c4 : ((s.size : Int) != (t.size : Int)) = false := by simp; omega
          clear h4
          go_enter Try.func74, Try.ntmps74
          go_wp2_with (first | (go_at_call 68; refine (l12Ok_any _ _ _ _ xs h hu.out).mono ?_; rintro e w1 ⟨rfl, hb⟩; have hsz := hb.size; obtain ⟨hcw, hfw⟩ := bcell hb) | (go_at_call 61; refine (l12Line_any _ _ (by assumption)).mono ?_; rintro e w1 ⟨rfl, rfl⟩))
          go_ret
          exact ⟨ret_int HR.out.symm, by (repeat first | exact Below.refl _ _ | (refine Below.alloc ?_ (by go_size) _) | (refine Below.step ?_ (by assumption)))⟩
        · have HR : Hid (overCode xs s t = 8) := by unfold Hid overCode; rw [if_pos h1, if_pos ⟨h2, h3⟩, if_neg h4]
          have c4 : ((s.size : Int) != (t.size : Int)) = true := by simp; omega
          clear h4
          go_enter Try.func74, Try.ntmps74
          go_wp2_with (first | (go_at_call 68; refine (l12Ok_any _ _ _ _ xs h hu.out).mono ?_; rintro e w1 ⟨rfl, hb⟩; have hsz := hb.size; obtain ⟨hcw, hfw⟩ := bcell hb) | (go_at_call 61; refine (l12Line_any _ _ (by assumption)).mono ?_; rintro e w1 ⟨rfl, rfl⟩))
          go_ret
          exact ⟨ret_int HR.out.symm, by (repeat first | exact Below.refl _ _ | (refine Below.alloc ?_ (by go_size) _) | (refine Below.step ?_ (by assumption)))⟩
      · have HR : Hid (overCode xs s t = 2) := by unfold Hid overCode; rw [if_pos h1, if_neg (fun e => h3 e.2)]
        replace h3 : isTxt 32 60 t = false := by simpa using h3
        go_enter Try.func74, Try.ntmps74
        go_wp2_with (first | (go_at_call 68; refine (l12Ok_any _ _ _ _ xs h hu.out).mono ?_; rintro e w1 ⟨rfl, hb⟩; have hsz := hb.size; obtain ⟨hcw, hfw⟩ := bcell hb) | (go_at_call 61; refine (l12Line_any _ _ (by assumption)).mono ?_; rintro e w1 ⟨rfl, rfl⟩))
        go_ret
        exact ⟨ret_int HR.out.symm, by (repeat first | exact Below.refl _ _ | (refine Below.alloc ?_ (by go_size) _) | (refine Below.step ?_ (by assumption)))⟩
    · have HR : Hid (overCode xs s t = 2) := by unfold Hid overCode; rw [if_pos h1, if_neg (fun e => h2 e.1)]
      replace h2 : isTxt 32 60 s = false := by simpa using h2
      go_enter Try.func74, Try.ntmps74
      go_wp2_with (first | (go_at_call 68; refine (l12Ok_any _ _ _ _ xs h hu.out).mono ?_; rintro e w1 ⟨rfl, hb⟩; have hsz := hb.size; obtain ⟨hcw, hfw⟩ := bcell hb) | (go_at_call 61; refine (l12Line_any _ _ (by assumption)).mono ?_; rintro e w1 ⟨rfl, rfl⟩))
      go_ret
      exact ⟨ret_int HR.out.symm, by (repeat first | exact Below.refl _ _ | (refine Below.alloc ?_ (by go_size) _) | (refine Below.step ?_ (by assumption)))⟩
  · have HR : Hid (overCode xs s t = 1) := by unfold Hid overCode; rw [if_neg h1]
    replace h1 : okOvers xs = false := by simpa using h1
    go_enter Try.func74, Try.ntmps74
    go_wp2_with (go_at_call 68; refine (l12Ok_any _ _ _ _ xs h hu.out).mono ?_; rintro e w1 ⟨rfl, hb⟩; have hsz := hb.size; obtain ⟨hcw, hfw⟩ := bcell hb)
    go_ret
    exact ⟨ret_int HR.out.symm, by (repeat first | exact Below.refl _ _ | (refine Below.alloc ?_ (by go_size) _) | (refine Below.step ?_ (by assumption)))⟩
theorem correctCode_any (w : World) (A : Option Addr) (n c : Nat) (xs : List Rule) (s t : ByteArray) (h : Sl3 Value.string w A n xs) (hcap : n ≤ c) (hu : OvB xs) (hs : s.size ≤ 1048576) (ht : t.size ≤ 1048576) :
    Calls Try.prog 76 #[.slice A n c, .string s, .string t] w fun e w' => e = .returned (.int .i64 (overCode xs s t)) ∧ Below w.heap.size w w' := by
  replace hu := hide hu
  have _hc := hcap
  by_cases h1 : okOvers xs = true
  · by_cases h2 : isTxt 32 60 s = true
    · by_cases h3 : isTxt 32 60 t = true
      · by_cases h4 : s.size = t.size
        · have HR : Hid (overCode xs s t = 0) := by unfold Hid overCode; rw [if_pos h1, if_pos ⟨h2, h3⟩, if_pos h4]
          have c4 : ((s.size : Int) != (t.size : Int)) = false := by simp; omega
          clear h4
          go_enter Try.func76, Try.ntmps76
          go_wp2_with (first | (go_at_call 34; refine (ValidOvers_any _ _ _ _ xs h hcap hu.out).mono ?_; rintro e w1 ⟨rfl, hb⟩; have hsz := hb.size; obtain ⟨hcw, hfw⟩ := bcell hb) | (go_at_call 64; refine (isCorrectLine_any _ _ (by assumption)).mono ?_; rintro e w1 ⟨rfl, rfl⟩))
          go_ret
          exact ⟨ret_int HR.out.symm, by (repeat first | exact Below.refl _ _ | (refine Below.alloc ?_ (by go_size) _) | (refine Below.step ?_ (by assumption)))⟩
        · have HR : Hid (overCode xs s t = 8) := by unfold Hid overCode; rw [if_pos h1, if_pos ⟨h2, h3⟩, if_neg h4]
          have c4 : ((s.size : Int) != (t.size : Int)) = true := by simp; omega
          clear h4
          go_enter Try.func76, Try.ntmps76
          go_wp2_with (first | (go_at_call 34; refine (ValidOvers_any _ _ _ _ xs h hcap hu.out).mono ?_; rintro e w1 ⟨rfl, hb⟩; have hsz := hb.size; obtain ⟨hcw, hfw⟩ := bcell hb) | (go_at_call 64; refine (isCorrectLine_any _ _ (by assumption)).mono ?_; rintro e w1 ⟨rfl, rfl⟩))
          go_ret
          exact ⟨ret_int HR.out.symm, by (repeat first | exact Below.refl _ _ | (refine Below.alloc ?_ (by go_size) _) | (refine Below.step ?_ (by assumption)))⟩
      · have HR : Hid (overCode xs s t = 2) := by unfold Hid overCode; rw [if_pos h1, if_neg (fun e => h3 e.2)]
        replace h3 : isTxt 32 60 t = false := by simpa using h3
        go_enter Try.func76, Try.ntmps76
        go_wp2_with (first | (go_at_call 34; refine (ValidOvers_any _ _ _ _ xs h hcap hu.out).mono ?_; rintro e w1 ⟨rfl, hb⟩; have hsz := hb.size; obtain ⟨hcw, hfw⟩ := bcell hb) | (go_at_call 64; refine (isCorrectLine_any _ _ (by assumption)).mono ?_; rintro e w1 ⟨rfl, rfl⟩))
        go_ret
        exact ⟨ret_int HR.out.symm, by (repeat first | exact Below.refl _ _ | (refine Below.alloc ?_ (by go_size) _) | (refine Below.step ?_ (by assumption)))⟩
    · have HR : Hid (overCode xs s t = 2) := by unfold Hid overCode; rw [if_pos h1, if_neg (fun e => h2 e.1)]
      replace h2 : isTxt 32 60 s = false := by simpa using h2
      go_enter Try.func76, Try.ntmps76
      go_wp2_with (first | (go_at_call 34; refine (ValidOvers_any _ _ _ _ xs h hcap hu.out).mono ?_; rintro e w1 ⟨rfl, hb⟩; have hsz := hb.size; obtain ⟨hcw, hfw⟩ := bcell hb) | (go_at_call 64; refine (isCorrectLine_any _ _ (by assumption)).mono ?_; rintro e w1 ⟨rfl, rfl⟩))
      go_ret
      exact ⟨ret_int HR.out.symm, by (repeat first | exact Below.refl _ _ | (refine Below.alloc ?_ (by go_size) _) | (refine Below.step ?_ (by assumption)))⟩
  · have HR : Hid (overCode xs s t = 1) := by unfold Hid overCode; rw [if_neg h1]
    replace h1 : okOvers xs = false := by simpa using h1
    go_enter Try.func76, Try.ntmps76
    go_wp2_with (go_at_call 34; refine (ValidOvers_any _ _ _ _ xs h hcap hu.out).mono ?_; rintro e w1 ⟨rfl, hb⟩; have hsz := hb.size; obtain ⟨hcw, hfw⟩ := bcell hb)
    go_ret
    exact ⟨ret_int HR.out.symm, by (repeat first | exact Below.refl _ _ | (refine Below.alloc ?_ (by go_size) _) | (refine Below.step ?_ (by assumption)))⟩
end Go.Proofs.Ytokdbkkjneadgaa
