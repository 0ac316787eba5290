/- mantlelaw11.PackTells answers true: the walk. -/
import Derived.Test.YtfhibpgmmffgjaaKeptU
import Derived.Test.YtfhibpgmmffgjaaRPack
import Derived.Test.YtfhibpgmmffgjaaRUnpack
namespace Go.Proofs.Ytfhibpgmmffgjaa
open Go.RowKit
/-- The reference's answers in the same form. -/
theorem rpack_is (p : Option Addr) (len cap : Nat) (zs : List Int) (w : World) (hb : Byt w w.heap.size p len zs) (hlc : len ≤ cap) (hcap : cap ≤ 9223372036854775807) :
    Calls Try.prog 12 #[.slice p len cap] w fun e w' => ∃ A k, e = .returned (.tuple #[.slice A (packR zs).2.length k, .int .i64 (packR zs).1]) ∧ Below w.heap.size w w' ∧
      w'.ownsRow w.heap.size 5 1 (.slice A (packR zs).2.length k) (packR zs).2.length (u8s (packR zs).2) := by
  have hl := hb.len
  unfold packR
  by_cases h : 65536 < zs.length
  · rw [if_pos h]
    refine (rpack_long p len cap w (by omega)).mono ?_
    rintro e w' ⟨rfl, rfl⟩
    exact ⟨none, 0, rfl, Below.refl _ _, World.ownsRow_nil _ _ _ _⟩
  · rw [if_neg h]
    refine (rpack_any p len cap zs w hb hlc hcap (by omega)).mono ?_
    rintro e w' ⟨A, k, h1, h2, h3⟩
    exact ⟨A, k, h1, h3, h2⟩
theorem runpack_is' (p : Option Addr) (len cap : Nat) (zs : List Int) (w : World) (hb : Byt w w.heap.size p len zs) (hlc : len ≤ cap) (hcap : cap ≤ 9223372036854775807) :
    Calls Try.prog 15 #[.slice p len cap] w fun e w' => ∃ A k, e = .returned (.tuple #[.slice A (unpackS zs).2.length k, .int .i64 (unpackS zs).1]) ∧ Below w.heap.size w w' ∧
      w'.ownsRow w.heap.size 5 1 (.slice A (unpackS zs).2.length k) (unpackS zs).2.length (u8s (unpackS zs).2) := by
  refine (runpack_is p len cap zs w hb hlc hcap).mono ?_
  rintro e w' ⟨hbel, h⟩
  rcases h with ⟨h1, h2⟩ | ⟨h1, A, c, h2, h3⟩
  · have e0 := unpackS_err h1
    refine ⟨none, 0, ?_, hbel, ?_⟩
    · rw [h2, e0]; rfl
    · rw [e0]; exact World.ownsRow_nil _ _ _ _
  · refine ⟨A, c, ?_, hbel, h3⟩
    rw [h2, h1]

set_option maxHeartbeats 2000000 in
set_option maxRecDepth 100000 in
theorem tells_any (p : Option Addr) (len cap : Nat) (zs : List Int) (w : World) (hb : Byt w w.heap.size p len zs) (hlc : len ≤ cap) (hcap : cap ≤ 9223372036854775807) :
    Calls Try.prog 3 #[.slice p len cap] w fun e w' => e = .returned (.bool true) ∧ Below w.heap.size w w' := by
  by_cases h20 : 1048576 < len
  · have h20' : (1048576 : Int) < (len : Int) := by omega
    go_enter Try.func3, Try.ntmps3
    go_wp2_with fail
    refine (works_any _).mono ?_
    rintro e w1 ⟨rfl, b1⟩
    go_wp2_with fail
    refine (works_any _).mono ?_
    rintro e w2 ⟨rfl, b2⟩
    go_wp2_with fail
    go_ret
    exact ⟨rfl, b1.trans (b2.mono b1.size)⟩
  · have h20' : ¬ (1048576 : Int) < (len : Int) := by omega
    obtain ⟨po, hpo⟩ : ∃ po, (packR zs).2 = po := ⟨_, rfl⟩
    obtain ⟨pc, hpc⟩ : ∃ pc, (packR zs).1 = pc := ⟨_, rfl⟩
    obtain ⟨uo, huo⟩ : ∃ uo, (unpackS zs).2 = uo := ⟨_, rfl⟩
    obtain ⟨uc, huc⟩ : ∃ uc, (unpackS zs).1 = uc := ⟨_, rfl⟩
    have pb := packR_bs zs hb.bs
    have ub := unpackS_bs zs hb.bs
    rw [hpo] at pb
    rw [huo] at ub
    have HPO := box hpo
    have HPC := box hpc
    have HUO := box huo
    have HUC := box huc
    have PB := box pb
    have UB := box ub
    have HB := box hb
    clear hpo hpc huo huc pb ub hb
    have t1 : (pc != pc) = false := by simp
    have t2 : (uc == uc) = true := by simp
    go_enter Try.func3, Try.ntmps3
    go_wp2_with fail
    refine (works_any _).mono ?_
    rintro e w1 ⟨rfl, b1⟩
    go_wp2_with fail
    have c1 := kept_pack p len cap zs w1 ((HB.out.below b1).more b1.size) hlc hcap (by omega)
    rw [HPO.out, HPC.out] at c1
    refine c1.mono ?_
    rintro e w2 ⟨A2, k2, rfl, b2, y2⟩
    clear c1
    go_wp2_with fail
    have b12 := b1.trans (b2.mono b1.size)
    have c2 := rpack_is p len cap zs w2 ((HB.out.below b12).more b12.size) hlc hcap
    rw [HPO.out, HPC.out] at c2
    refine c2.mono ?_
    rintro e w3 ⟨A3, k3, rfl, b3, o3⟩
    clear c2
    have b13 := b12.trans (b3.mono b12.size)
    have Y2 := box (y2.below b3)
    have Y3 := box (Byt.of_own o3 PB.out)
    clear y2 o3
    go_wp2_with fail
    have c3 := equal_any A2 A3 po.length k2 po.length k3 _ _ po po w3 Y2.out Y3.out
    rw [decide_eq_true (rfl : po = po)] at c3
    refine c3.mono ?_
    rintro e w4 ⟨rfl, rfl⟩
    clear c3
    go_wp2_with fail
    have c4 := kept_unpack p len cap zs w3 ((HB.out.below b13).more b13.size) hlc hcap (by omega)
    rw [HUO.out, HUC.out] at c4
    refine c4.mono ?_
    rintro e w5 ⟨A5, k5, rfl, b5, y5⟩
    clear c4
    have b15 := b13.trans (b5.mono b13.size)
    go_wp2_with fail
    have c5 := runpack_is' p len cap zs w5 ((HB.out.below b15).more b15.size) hlc hcap
    rw [HUO.out, HUC.out] at c5
    refine c5.mono ?_
    rintro e w6 ⟨A6, k6, rfl, b6, o6⟩
    clear c5
    have b16 := b15.trans (b6.mono b15.size)
    have Y5 := box (y5.below b6)
    have Y6 := box (Byt.of_own o6 UB.out)
    clear y5 o6
    go_wp2_with fail
    have c6 := equal_any A5 A6 uo.length k5 uo.length k6 _ _ uo uo w6 Y5.out Y6.out
    rw [decide_eq_true (rfl : uo = uo)] at c6
    refine c6.mono ?_
    rintro e w7 ⟨rfl, rfl⟩
    clear c6
    go_wp2_with fail
    go_ret
    exact ⟨rfl, b16⟩
#print axioms tells_any
end Go.Proofs.Ytfhibpgmmffgjaa
