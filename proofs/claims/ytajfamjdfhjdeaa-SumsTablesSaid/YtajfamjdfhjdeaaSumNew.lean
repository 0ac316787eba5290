/- sums.New; Do of the reads that wakes asks. -/
import Derived.Test.YtajfamjdfhjdeaaTable
import Derived.Test.YtajfamjdfhjdeaaDoG
namespace Go.Proofs.Ytajfamjdfhjdeaa
open Go.RowKit

theorem and_u8 : ∀ a < 16, ∀ b < 16, bits .and .u8 ((a : Nat) : Int) ((b : Nat) : Int) = ((a &&& b : Nat) : Int) := by decide +kernel

set_option maxHeartbeats 1000000 in
theorem sumNew_any {w : World} {Hf Ht mf mt : Nat} {szf szt : Int} {rdf rdt : Int → Int → Int × List Int} (hf : Open w Hf mf szf rdf) (ht : Open w Ht mt szt rdt) :
    Calls Try.prog 13 #[.pointer (some ⟨Hf, 0, none⟩), .pointer (some ⟨Ht, 0, none⟩)] w fun e w' =>
      ∃ H P b, e = .returned (.tuple #[.pointer (some ⟨H, 0, none⟩), .int .i64 0]) ∧ NewHand w.heap.size w' H P (9 &&& (mf &&& mt &&& 9)) 77 (.pointer (some ⟨b, 0, none⟩)) ∧ SumAt w' b Hf Ht ∧ w.heap.size ≤ b ∧ Below w.heap.size w w' := by
  obtain ⟨P1, T1, v1, h1, -⟩ := hf
  obtain ⟨P2, T2, v2, h2, -⟩ := ht
  have m1 := h1.lt
  have m2 := h2.lt
  have a1 := and_u8 mf m1 mt m2
  have a2 : bits .and .u8 ((mf &&& mt : Nat) : Int) 9 = ((mf &&& mt &&& 9 : Nat) : Int) := and_u8 (mf &&& mt) (and_lt16 m1) 9 (by omega)
  have hc16 : mf &&& mt &&& 9 < 16 := and_lt16 (and_lt16 m1)
  have hcan1 := box (fun W (hW : Below w.heap.size w W) => can_any (h1.grown hW))
  have hcan2 := box (fun W (hW : Below w.heap.size w W) => can_any (h2.grown hW))
  have b1 := Below.alloc (Below.refl w.heap.size w) (Nat.le_refl _) (.cells #[.pointer (some ⟨Hf, 0, none⟩), .pointer (some ⟨Ht, 0, none⟩)] 79)
  have hS : SumAt (w.alloc (.cells #[.pointer (some ⟨Hf, 0, none⟩), .pointer (some ⟨Ht, 0, none⟩)] 79)) w.heap.size Hf Ht := heap_alloc_new _ _
  have hmk := box (fun W => make9 77 (.pointer (some ⟨w.heap.size, 0, none⟩)) W)
  have hon := box (fun W H P c (hc : c < 256) (hH : Hand W H P 9 77 (.pointer (some ⟨w.heap.size, 0, none⟩))) => only_any (c := c) hH hc)
  replace b1 := box b1
  replace hS := box hS
  clear h1 h2 m1 m2
  generalize mf &&& mt &&& 9 = cc at *
  generalize mf &&& mt = cm at *
  go_enter Try.func13, Try.ntmps13
  go_wp2_with fail
  refine (hmk.out _).mono ?_
  rintro e w1 ⟨rfl, hw1⟩
  have HW1 := box hw1
  clear hw1
  have hn := handAt_at (size_alloc w (.cells #[.pointer (some ⟨Hf, 0, none⟩), .pointer (some ⟨Ht, 0, none⟩)] 79)) (show 9 < 16 by omega) 77 (.pointer (some ⟨w.heap.size, 0, none⟩)) (Nat.le_succ w.heap.size)
  rw [← HW1.out] at hn
  have hb := box (handAt_below (w.alloc (.cells #[.pointer (some ⟨Hf, 0, none⟩), .pointer (some ⟨Ht, 0, none⟩)] 79)) 9 (.iface 77 (.pointer (some ⟨w.heap.size, 0, none⟩))) (Nat.le_refl _))
  rw [← HW1.out] at hb
  replace hn := box hn
  have hall := box (b1.out.trans (hb.out.mono (by simp)))
  go_wp2_with fail
  refine (hcan1.out _ hall.out).mono ?_
  rintro e w2 ⟨rfl, rfl⟩
  go_wp2_with fail
  refine (hcan2.out _ hall.out).mono ?_
  rintro e w3 ⟨rfl, rfl⟩
  go_wp2_with fail
  refine (hon.out _ _ _ cc (by omega) hn.out.hand).mono ?_
  rintro e w4 ⟨H, P, rfl, hN, hb2⟩
  have HN := box hN
  have HB := box hb2
  clear hN hb2 hn
  go_wp2
  go_ret2
  have hg := grown_trans hb.out HB.out
  have h3 := HN.out
  have hsz : w.heap.size ≤ w3.heap.size := by have := hb.out.size; simp at this; omega
  exact ⟨H, P, w.heap.size, rfl, ⟨h3.hand, by have := h3.hH; omega, by have := h3.hP; omega, h3.ne, h3.ltH, h3.ltP⟩, (hg.block _ (by simp)).trans hS.out, Nat.le_refl _, hall.out.trans (HB.out.mono hsz)⟩

theorem sumRow_read (fuel : Nat) (b : Nat) (W : World) : (method (fuel + 1) 77 (.pointer (some ⟨b, 0, none⟩)) "ReadAt").run Try.prog W = .ok (105, .pointer (some ⟨b, 0, none⟩)) W := by kernel_rfl
end Go.Proofs.Ytajfamjdfhjdeaa
