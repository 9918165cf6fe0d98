/-
  BestLayout of the reference: what it returns, for all arguments.
-/
import Derived.Test.YtcgjgelapjdihaaL07T
namespace Go.Proofs.Ytcgjgelapjdihaa
set_option maxRecDepth 100000
open Go.RowKit

def foundL (xs : List Pl) (s t : ByteArray) : ByteArray × Int := (wkB (by_ s) s.size []).foldl (updL xs t) (⟨#[]⟩, -1)
def bestLay (xs : List Pl) (s t : ByteArray) : ByteArray × Int × Int :=
  if codeB xs s t = 0 then ((foundL xs s t).1, (foundL xs s t).2, 0) else (⟨#[]⟩, 0, codeB xs s t)

set_option maxHeartbeats 2000000 in
theorem BestLayout_S (w : World) (A : Option Addr) (n c : Nat) (xs : List Pl) (s t : ByteArray) (h : Sl3 (Value.int .i64) w A n xs) (hs : s.size ≤ 1048576) (ht : t.size ≤ 1048576) :
    Calls Try.prog 5 #[.slice A n c, .string s, .string t] w fun e w' => e = .returned (.tuple #[.string (bestLay xs s t).1, .int .i64 (bestLay xs s t).2.1, .int .i64 (bestLay xs s t).2.2]) ∧ Below w.heap.size w w' := by
  by_cases h0 : codeB xs s t = 0
  · obtain ⟨⟨rb, rq⟩, hr⟩ : ∃ r, foundL xs s t = r := ⟨_, rfl⟩
    have HR : Hid (bestLay xs s t = (rb, rq, 0)) := by unfold Hid bestLay; rw [if_pos h0, hr]
    have HF := hide hr
    have HC := hide h0
    clear h0 hr
    go_enter Try.func5, Try.ntmps5
    go_wp2_with (go_at_call 9; refine (l07Code_any _ _ _ _ xs s t h hs ht).mono ?_; rintro e w1 ⟨rfl, hb1⟩; rw [HC.out])
    have hba : Below w1.heap.size w1 (w1.alloc (.cells #[.slice A n c, .string s, .string t, .string ⟨#[]⟩, .string ⟨#[]⟩, .int .i64 (-1)] 33)) := (Below.refl _ _).alloc (Nat.le_refl _) _
    have hA : Arr (w1.alloc (.cells #[.slice A n c, .string s, .string t, .string ⟨#[]⟩, .string ⟨#[]⟩, .int .i64 (-1)] 33)) w1.heap.size 33 (wsL (.slice A n c) s t ⟨#[]⟩ (⟨#[]⟩, -1)) := Arr.new_ w1 33 (wsL (.slice A n c) s t ⟨#[]⟩ (⟨#[]⟩, -1))
    have hwk := walk7_any xs s t w1 A n c (h.on hb1) hs ht HC.out w1.heap.size (Nat.le_refl _) s.size _ ⟨#[]⟩ (⟨#[]⟩, -1) (Nat.zero_add _) List.Pairwise.nil (fun b hb => absurd hb (by exact List.not_mem_nil)) hba hA
    have hb0 : by_ (⟨#[]⟩ : ByteArray) = [] := rfl
    have hf2 : (wkB (by_ s) s.size []).foldl (updL xs t) (⟨#[]⟩, -1) = (rb, rq) := HF.out
    rw [hb0, hf2] at hwk
    have HBA := hide hba
    have HB1 := hide hb1
    clear hba hA hb0 hf2
    refine hwk.mono ?_
    rintro e w4 ⟨rfl, hA, hgr⟩
    have c4 : w4.cell? ⟨w1.heap.size, 4, none⟩ = some (.string rb) := hA.cell 4
    have c5 : w4.cell? ⟨w1.heap.size, 5, none⟩ = some (.int .i64 rq) := hA.cell 5
    have HBW : Hid (Below w.heap.size w w4) := Below.step HB1.out (HBA.out.grown hgr HBA.out.size (fun q hq => by cases hq; exact Nat.le_refl _))
    clear hwk hgr hA
    go_wp2
    go_quiet (fail)
    go_wp2
    go_ret3
    exact ⟨by rw [HR.out]; rfl, below_drewN HBW.out _⟩
  · obtain ⟨q, hq⟩ : ∃ q, codeB xs s t = q := ⟨_, rfl⟩
    have HR : Hid (bestLay xs s t = (⟨#[]⟩, 0, q)) := by unfold Hid bestLay; rw [if_neg h0, hq]
    have HQ := hide hq
    rw [hq] at h0
    have hq1 : (q == 0) = false := beq_eq_false_iff_ne.2 h0
    have hq2 : (q != 0) = true := by rw [bne, hq1]; rfl
    clear hq h0
    go_enter Try.func5, Try.ntmps5
    go_wp2_with (go_at_call 9; refine (l07Code_any _ _ _ _ xs s t h hs ht).mono ?_; rintro e w1 ⟨rfl, hb1⟩; rw [HQ.out])
    go_ret3
    exact ⟨by rw [HR.out]; rfl, hb1⟩
end Go.Proofs.Ytcgjgelapjdihaa
