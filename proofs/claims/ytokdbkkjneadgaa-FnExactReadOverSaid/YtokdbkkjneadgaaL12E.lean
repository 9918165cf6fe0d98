/-
  OverText and ReadOver: what each returns, for all arguments.
-/
import Derived.Test.YtokdbkkjneadgaaL12D
import Derived.RegionTactic
namespace Go.Proofs.Ytokdbkkjneadgaa
set_option maxRecDepth 100000
open Go.RowKit

theorem isLet_one {s : ByteArray} (h : isLet s = true) : s.size = 1 := by
  obtain ⟨b, rfl, _⟩ := isLet_form h
  rfl
theorem ovOk_sizes {x y z : ByteArray} (h : ovOk x y z = true) : x.size ≤ 1 ∧ y.size ≤ 1 ∧ z.size ≤ 1 := by
  obtain ⟨h1, h2, h3, _⟩ := ovOk_iff.1 h
  have := isLet_one h1; have := isLet_one h2; have := isLet_one h3
  omega
def overText (x y z : ByteArray) : ByteArray := if ovOk x y z = true then x ++ ⟨#[60]⟩ ++ y ++ ⟨#[61]⟩ ++ z else ⟨#[]⟩
theorem lit_size (b : UInt8) : (⟨#[b]⟩ : ByteArray).size = 1 := rfl

theorem OverText_I (w : World) (x y z : ByteArray) (hx : x.size ≤ 1048576) (hy : y.size ≤ 1048576) (hz : z.size ≤ 1048576) :
    Calls Try.prog 23 #[.agg #[.string x, .string y, .string z]] w fun e w' => e = .returned (.string (overText x y z)) ∧ Below w.heap.size w w' := by
  by_cases h1 : ovOk x y z = true
  · have HR : Hid (overText x y z = x ++ ⟨#[60]⟩ ++ y ++ ⟨#[61]⟩ ++ z) := by unfold Hid overText; rw [if_pos h1]
    obtain ⟨q1, q2, q3⟩ := ovOk_sizes h1
    have s1 := lit_size 60
    have s2 := lit_size 61
    go_enter Try.func23, Try.ntmps23
    go_wp2_with fail
    refine (validOver_any _ x y z hx hy hz).mono ?_; rintro e w1 ⟨rfl, hb⟩; obtain ⟨hcw, hfw⟩ := bcell hb
    go_wp2
    go_ret
    exact ⟨by rw [HR.out]; rfl, by (repeat first | exact Below.refl _ _ | (refine Below.alloc ?_ (by go_size) _) | (refine Below.step ?_ (by assumption)))⟩
  · have HR : Hid (overText x y z = ⟨#[]⟩) := by unfold Hid overText; rw [if_neg h1]
    replace h1 : ovOk x y z = false := by simpa using h1
    go_enter Try.func23, Try.ntmps23
    go_wp2_with fail
    refine (validOver_any _ x y z hx hy hz).mono ?_; rintro e w1 ⟨rfl, hb⟩; obtain ⟨hcw, hfw⟩ := bcell hb
    go_wp2
    go_ret
    exact ⟨by rw [HR.out]; rfl, by (repeat first | exact Below.refl _ _ | (refine Below.alloc ?_ (by go_size) _) | (refine Below.step ?_ (by assumption)))⟩
theorem OverText_S (w : World) (x y z : ByteArray) (hx : x.size ≤ 1048576) (hy : y.size ≤ 1048576) (hz : z.size ≤ 1048576) :
    Calls Try.prog 21 #[.agg #[.string x, .string y, .string z]] w fun e w' => e = .returned (.string (overText x y z)) ∧ Below w.heap.size w w' := by
  by_cases h1 : ovOk x y z = true
  · have HR : Hid (overText x y z = x ++ ⟨#[60]⟩ ++ y ++ ⟨#[61]⟩ ++ z) := by unfold Hid overText; rw [if_pos h1]
    obtain ⟨q1, q2, q3⟩ := ovOk_sizes h1
    have s1 := lit_size 60
    have s2 := lit_size 61
    go_enter Try.func21, Try.ntmps21
    go_wp2_with fail
    refine (l12One_any _ _ _ x y z hx hy hz (by go_simp) (by go_simp) (by go_simp)).mono ?_; rintro e w1 ⟨rfl, hb⟩; obtain ⟨hcw, hfw⟩ := bcell hb
    go_wp2
    go_ret
    exact ⟨by rw [HR.out]; rfl, by (repeat first | exact Below.refl _ _ | (refine Below.alloc ?_ (by go_size) _) | (refine Below.step ?_ (by assumption)))⟩
  · have HR : Hid (overText x y z = ⟨#[]⟩) := by unfold Hid overText; rw [if_neg h1]
    replace h1 : ovOk x y z = false := by simpa using h1
    go_enter Try.func21, Try.ntmps21
    go_wp2_with fail
    refine (l12One_any _ _ _ x y z hx hy hz (by go_simp) (by go_simp) (by go_simp)).mono ?_; rintro e w1 ⟨rfl, hb⟩; obtain ⟨hcw, hfw⟩ := bcell hb
    go_wp2
    go_ret
    exact ⟨by rw [HR.out]; rfl, by (repeat first | exact Below.refl _ _ | (refine Below.alloc ?_ (by go_size) _) | (refine Below.step ?_ (by assumption)))⟩

/-! ### ReadOver -/
def rovOk (s : ByteArray) : Bool := decide (s.size = 5) && (by_ s)[1]? == some 60 && (by_ s)[3]? == some 61 && ovOk (s.extract 0 1) (s.extract 2 3) (s.extract 4 s.size)
def readOver (s : ByteArray) : ByteArray × ByteArray × ByteArray := if rovOk s = true then (s.extract 0 1, s.extract 2 3, s.extract 4 s.size) else (⟨#[]⟩, ⟨#[]⟩, ⟨#[]⟩)
theorem ex_le (s : ByteArray) (a b : Nat) (h : s.size ≤ 1048576) : (s.extract a b).size ≤ 1048576 := by
  rw [ByteArray.size_extract]; omega

def RovOut (s : ByteArray) (r : Bool) (w : World) (e : Ending) (w' : World) : Prop := e = .returned (.tuple #[.agg #[.string (readOver s).1, .string (readOver s).2.1, .string (readOver s).2.2], .bool r]) ∧ Below w.heap.size w w'

set_option maxHeartbeats 1000000 in
theorem ReadOver_I (w : World) (s : ByteArray) (hs : s.size ≤ 1048576) :
    Calls Try.prog 18 #[.string s] w (RovOut s (rovOk s) w) := by
  by_cases h1 : s.size = 5
  · have z1 : ((s.size : Int) != 5) = false := by simp; omega
    have z2 : 5 ≤ s.size := by omega
    have y1 : (1 : Int) ≤ (s.size : Int) := by omega
    have y3 : (3 : Int) ≤ (s.size : Int) := by omega
    have y4 : (4 : Int) ≤ (s.size : Int) := by omega
    have z3 : s.size ≤ 5 := by omega
    have hx1 := by_get (show 1 < s.size by omega)
    have hx3 := by_get (show 3 < s.size by omega)
    obtain ⟨b1, hb1⟩ : ∃ b, s[1] = b := ⟨_, rfl⟩
    obtain ⟨b3, hb3⟩ : ∃ b, s[3] = b := ⟨_, rfl⟩
    rw [hb1] at hx1
    rw [hb3] at hx3
    have hr1 : ∀ W : World, (Instr.index 9 (.string s) (.int .i64 1)).run Try.prog W = .ok (.int .u8 (b1.toNat : Int)) W := fun W => run_byte (k := 1) hx1 W
    have hr3 : ∀ W : World, (Instr.index 9 (.string s) (.int .i64 3)).run Try.prog W = .ok (.int .u8 (b3.toNat : Int)) W := fun W => run_byte (k := 3) hx3 W
    have HR : Hid (rovOk s = (b1 == 60 && b3 == 61 && ovOk (s.extract 0 1) (s.extract 2 3) (s.extract 4 s.size))) := by
      unfold Hid rovOk; rw [hx1, hx3]; simp [h1]
    clear h1 hx1 hx3 hb1 hb3
    by_cases e1 : b1 = 60
    · have c1 : ((b1.toNat : Int) != 60) = false := bn_eq (c := 60) e1
      by_cases e3 : b3 = 61
      · have c3 : ((b3.toNat : Int) != 61) = false := bn_eq (c := 61) e3
        have l0 := ex_le s 0 1 hs
        have l1 := ex_le s 2 3 hs
        have l2 := ex_le s 4 s.size hs
        by_cases ho : ovOk (s.extract 0 1) (s.extract 2 3) (s.extract 4 s.size) = true
        · have H2 : Hid (rovOk s = true ∧ readOver s = (s.extract 0 1, s.extract 2 3, s.extract 4 s.size)) := by
            have : rovOk s = true := by rw [HR.out, ho]; simp [e1, e3]
            exact ⟨this, by unfold readOver; rw [if_pos this]⟩
          clear e1 e3 HR
          go_enter Try.func18, Try.ntmps18
          go_wp2_with fail
          go_region
          all_goals
            go_wp2_with fail
            refine (validOver_any _ _ _ _ l0 l1 l2).mono ?_
            rintro e w1 ⟨rfl, hb⟩
            obtain ⟨hcw, hfw⟩ := bcell hb
            have k0 : w1.cell? ⟨w.heap.size, 0, none⟩ = some (.string ⟨#[]⟩) := by rw [hcw _ _ (by simp; omega)]; go_simp
            have k1 : w1.cell? ⟨w.heap.size, 1, none⟩ = some (.string ⟨#[]⟩) := by rw [hcw _ _ (by simp; omega)]; go_simp
            have k2 : w1.cell? ⟨w.heap.size, 2, none⟩ = some (.string ⟨#[]⟩) := by rw [hcw _ _ (by simp; omega)]; go_simp
            go_wp2
            refine bodyPost_ret (v := .tuple #[.agg #[.string (readOver s).1, .string (readOver s).2.1, .string (readOver s).2.2], .bool (rovOk s)]) (by rw [H2.out.1, H2.out.2]; simp [results, Try.results18, go_sem, k0, k1, k2]) rfl ⟨rfl, ?_⟩
            exact ((((((Below.refl _ _).alloc (Nat.le_refl _) _).alloc (by simp) _).drew).trans (hb.mono (by simp; omega))).setCell (by simp) _).setCell (by simp) _ |>.setCell (by simp) _
        · have H2 : Hid (rovOk s = false ∧ readOver s = (⟨#[]⟩, ⟨#[]⟩, ⟨#[]⟩)) := by
            have : rovOk s = false := by rw [HR.out]; simp [ho]
            exact ⟨this, by unfold readOver; rw [this]; rfl⟩
          replace ho : ovOk (s.extract 0 1) (s.extract 2 3) (s.extract 4 s.size) = false := by simpa using ho
          clear e1 e3 HR
          go_enter Try.func18, Try.ntmps18
          go_wp2_with fail
          go_region
          all_goals
            go_wp2_with fail
            refine (validOver_any _ _ _ _ l0 l1 l2).mono ?_
            rintro e w1 ⟨rfl, hb⟩
            obtain ⟨hcw, hfw⟩ := bcell hb
            have k0 : w1.cell? ⟨w.heap.size, 0, none⟩ = some (.string ⟨#[]⟩) := by rw [hcw _ _ (by simp; omega)]; go_simp
            have k1 : w1.cell? ⟨w.heap.size, 1, none⟩ = some (.string ⟨#[]⟩) := by rw [hcw _ _ (by simp; omega)]; go_simp
            have k2 : w1.cell? ⟨w.heap.size, 2, none⟩ = some (.string ⟨#[]⟩) := by rw [hcw _ _ (by simp; omega)]; go_simp
            go_wp2
            refine bodyPost_ret (v := .tuple #[.agg #[.string (readOver s).1, .string (readOver s).2.1, .string (readOver s).2.2], .bool (rovOk s)]) (by rw [H2.out.1, H2.out.2]; simp [results, Try.results18, go_sem, k0, k1, k2]) rfl ⟨rfl, ?_⟩
            exact ((((((Below.refl _ _).alloc (Nat.le_refl _) _).alloc (by simp) _).drew).trans (hb.mono (by simp; omega))).setCell (by simp) _).setCell (by simp) _ |>.setCell (by simp) _
      · have c3 : ((b3.toNat : Int) != 61) = true := bn_ne (c := 61) e3
        have H2 : Hid (rovOk s = false ∧ readOver s = (⟨#[]⟩, ⟨#[]⟩, ⟨#[]⟩)) := by
          have : rovOk s = false := by rw [HR.out]; simp [e3]
          exact ⟨this, by unfold readOver; rw [this]; rfl⟩
        clear e1 e3 HR
        go_enter Try.func18, Try.ntmps18
        go_wp2
        go_returns
        exact ⟨by rw [H2.out.1, H2.out.2]; try rfl, by (repeat first | exact Below.refl _ _ | (refine Below.alloc ?_ (by go_size) _) | (refine Below.step ?_ (by assumption)))⟩
    · have c1 : ((b1.toNat : Int) != 60) = true := bn_ne (c := 60) e1
      have H2 : Hid (rovOk s = false ∧ readOver s = (⟨#[]⟩, ⟨#[]⟩, ⟨#[]⟩)) := by
        have : rovOk s = false := by rw [HR.out]; simp [e1]
        exact ⟨this, by unfold readOver; rw [this]; rfl⟩
      clear e1 HR
      go_enter Try.func18, Try.ntmps18
      go_wp2
      go_returns
      exact ⟨by rw [H2.out.1, H2.out.2]; try rfl, by (repeat first | exact Below.refl _ _ | (refine Below.alloc ?_ (by go_size) _) | (refine Below.step ?_ (by assumption)))⟩
  · have z1 : ((s.size : Int) != 5) = true := by simp; omega
    have H2 : Hid (rovOk s = false ∧ readOver s = (⟨#[]⟩, ⟨#[]⟩, ⟨#[]⟩)) := by
      have : rovOk s = false := by unfold rovOk; simp [h1]
      exact ⟨this, by unfold readOver; rw [this]; rfl⟩
    clear h1
    go_enter Try.func18, Try.ntmps18
    go_wp2
    go_returns
    exact ⟨by rw [H2.out.1, H2.out.2]; try rfl, by (repeat first | exact Below.refl _ _ | (refine Below.alloc ?_ (by go_size) _) | (refine Below.step ?_ (by assumption)))⟩
set_option maxHeartbeats 1000000 in
theorem ReadOver_S (w : World) (s : ByteArray) (hs : s.size ≤ 1048576) :
    Calls Try.prog 17 #[.string s] w (RovOut s (rovOk s) w) := by
  by_cases h1 : s.size = 5
  · have z1 : ((s.size : Int) != 5) = false := by simp; omega
    have z2 : 5 ≤ s.size := by omega
    have y1 : (1 : Int) ≤ (s.size : Int) := by omega
    have y3 : (3 : Int) ≤ (s.size : Int) := by omega
    have y4 : (4 : Int) ≤ (s.size : Int) := by omega
    have z3 : s.size ≤ 5 := by omega
    have hx1 := by_get (show 1 < s.size by omega)
    have hx3 := by_get (show 3 < s.size by omega)
    obtain ⟨b1, hb1⟩ : ∃ b, s[1] = b := ⟨_, rfl⟩
    obtain ⟨b3, hb3⟩ : ∃ b, s[3] = b := ⟨_, rfl⟩
    rw [hb1] at hx1
    rw [hb3] at hx3
    have hr1 : ∀ W : World, (Instr.index 9 (.string s) (.int .i64 1)).run Try.prog W = .ok (.int .u8 (b1.toNat : Int)) W := fun W => run_byte (k := 1) hx1 W
    have hr3 : ∀ W : World, (Instr.index 9 (.string s) (.int .i64 3)).run Try.prog W = .ok (.int .u8 (b3.toNat : Int)) W := fun W => run_byte (k := 3) hx3 W
    have HR : Hid (rovOk s = (b1 == 60 && b3 == 61 && ovOk (s.extract 0 1) (s.extract 2 3) (s.extract 4 s.size))) := by
      unfold Hid rovOk; rw [hx1, hx3]; simp [h1]
    clear h1 hx1 hx3 hb1 hb3
    by_cases e1 : b1 = 60
    · have c1 : ((b1.toNat : Int) != 60) = false := bn_eq (c := 60) e1
      by_cases e3 : b3 = 61
      · have c3 : ((b3.toNat : Int) != 61) = false := bn_eq (c := 61) e3
        have l0 := ex_le s 0 1 hs
        have l1 := ex_le s 2 3 hs
        have l2 := ex_le s 4 s.size hs
        by_cases ho : ovOk (s.extract 0 1) (s.extract 2 3) (s.extract 4 s.size) = true
        · have H2 : Hid (rovOk s = true ∧ readOver s = (s.extract 0 1, s.extract 2 3, s.extract 4 s.size)) := by
            have : rovOk s = true := by rw [HR.out, ho]; simp [e1, e3]
            exact ⟨this, by unfold readOver; rw [if_pos this]⟩
          clear e1 e3 HR
          go_enter Try.func17, Try.ntmps17
          go_wp2_with fail
          go_region
          all_goals
            go_wp2_with fail
            refine (l12One_any _ _ _ _ _ _ l0 l1 l2 (by go_simp) (by go_simp) (by go_simp)).mono ?_
            rintro e w1 ⟨rfl, hb⟩
            obtain ⟨hcw, hfw⟩ := bcell hb
            have k0 : w1.cell? ⟨w.heap.size, 0, none⟩ = some (.string ⟨#[]⟩) := by rw [hcw _ _ (by simp; omega)]; go_simp
            have k1 : w1.cell? ⟨w.heap.size, 1, none⟩ = some (.string ⟨#[]⟩) := by rw [hcw _ _ (by simp; omega)]; go_simp
            have k2 : w1.cell? ⟨w.heap.size, 2, none⟩ = some (.string ⟨#[]⟩) := by rw [hcw _ _ (by simp; omega)]; go_simp
            go_wp2
            refine bodyPost_ret (v := .tuple #[.agg #[.string (readOver s).1, .string (readOver s).2.1, .string (readOver s).2.2], .bool (rovOk s)]) (by rw [H2.out.1, H2.out.2]; simp [results, Try.results17, go_sem, k0, k1, k2]) rfl ⟨rfl, ?_⟩
            exact ((((((Below.refl _ _).alloc (Nat.le_refl _) _).alloc (by simp) _).drew).trans (hb.mono (by simp; omega))).setCell (by simp) _).setCell (by simp) _ |>.setCell (by simp) _
        · have H2 : Hid (rovOk s = false ∧ readOver s = (⟨#[]⟩, ⟨#[]⟩, ⟨#[]⟩)) := by
            have : rovOk s = false := by rw [HR.out]; simp [ho]
            exact ⟨this, by unfold readOver; rw [this]; rfl⟩
          replace ho : ovOk (s.extract 0 1) (s.extract 2 3) (s.extract 4 s.size) = false := by simpa using ho
          clear e1 e3 HR
          go_enter Try.func17, Try.ntmps17
          go_wp2_with fail
          go_region
          all_goals
            go_wp2_with fail
            refine (l12One_any _ _ _ _ _ _ l0 l1 l2 (by go_simp) (by go_simp) (by go_simp)).mono ?_
            rintro e w1 ⟨rfl, hb⟩
            obtain ⟨hcw, hfw⟩ := bcell hb
            have k0 : w1.cell? ⟨w.heap.size, 0, none⟩ = some (.string ⟨#[]⟩) := by rw [hcw _ _ (by simp; omega)]; go_simp
            have k1 : w1.cell? ⟨w.heap.size, 1, none⟩ = some (.string ⟨#[]⟩) := by rw [hcw _ _ (by simp; omega)]; go_simp
            have k2 : w1.cell? ⟨w.heap.size, 2, none⟩ = some (.string ⟨#[]⟩) := by rw [hcw _ _ (by simp; omega)]; go_simp
            go_wp2
            refine bodyPost_ret (v := .tuple #[.agg #[.string (readOver s).1, .string (readOver s).2.1, .string (readOver s).2.2], .bool (rovOk s)]) (by rw [H2.out.1, H2.out.2]; simp [results, Try.results17, go_sem, k0, k1, k2]) rfl ⟨rfl, ?_⟩
            exact ((((((Below.refl _ _).alloc (Nat.le_refl _) _).alloc (by simp) _).drew).trans (hb.mono (by simp; omega))).setCell (by simp) _).setCell (by simp) _ |>.setCell (by simp) _
      · have c3 : ((b3.toNat : Int) != 61) = true := bn_ne (c := 61) e3
        have H2 : Hid (rovOk s = false ∧ readOver s = (⟨#[]⟩, ⟨#[]⟩, ⟨#[]⟩)) := by
          have : rovOk s = false := by rw [HR.out]; simp [e3]
          exact ⟨this, by unfold readOver; rw [this]; rfl⟩
        clear e1 e3 HR
        go_enter Try.func17, Try.ntmps17
        go_wp2
        go_returns
        exact ⟨by rw [H2.out.1, H2.out.2]; try rfl, by (repeat first | exact Below.refl _ _ | (refine Below.alloc ?_ (by go_size) _) | (refine Below.step ?_ (by assumption)))⟩
    · have c1 : ((b1.toNat : Int) != 60) = true := bn_ne (c := 60) e1
      have H2 : Hid (rovOk s = false ∧ readOver s = (⟨#[]⟩, ⟨#[]⟩, ⟨#[]⟩)) := by
        have : rovOk s = false := by rw [HR.out]; simp [e1]
        exact ⟨this, by unfold readOver; rw [this]; rfl⟩
      clear e1 HR
      go_enter Try.func17, Try.ntmps17
      go_wp2
      go_returns
      exact ⟨by rw [H2.out.1, H2.out.2]; try rfl, by (repeat first | exact Below.refl _ _ | (refine Below.alloc ?_ (by go_size) _) | (refine Below.step ?_ (by assumption)))⟩
  · have z1 : ((s.size : Int) != 5) = true := by simp; omega
    have H2 : Hid (rovOk s = false ∧ readOver s = (⟨#[]⟩, ⟨#[]⟩, ⟨#[]⟩)) := by
      have : rovOk s = false := by unfold rovOk; simp [h1]
      exact ⟨this, by unfold readOver; rw [this]; rfl⟩
    clear h1
    go_enter Try.func17, Try.ntmps17
    go_wp2
    go_returns
    exact ⟨by rw [H2.out.1, H2.out.2]; try rfl, by (repeat first | exact Below.refl _ _ | (refine Below.alloc ?_ (by go_size) _) | (refine Below.step ?_ (by assumption)))⟩
end Go.Proofs.Ytokdbkkjneadgaa
