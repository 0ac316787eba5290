/- mantlelaw11.kept over Unpack: the walk. (Written by a program out of the text over Pack.) -/
import Derived.Test.YtfhibpgmmffgjaaKept
namespace Go.Proofs.Ytfhibpgmmffgjaa
open Go.RowKit
set_option maxHeartbeats 2000000 in
set_option maxRecDepth 100000 in
theorem kept_unpack (p : Option Addr) (len cap : Nat) (zs : List Int) (w : World) (hb : Byt w w.heap.size p len zs) (hlc : len ≤ cap) (_hcap : cap ≤ 9223372036854775807) (hlen : len ≤ 1048576) :
    Calls Try.prog 10 #[.func (.func 14) #[] #[], .slice p len cap] w fun e w' => ∃ A k, e = .returned (.tuple #[.slice A (unpackS zs).2.length k, .int .i64 (unpackS zs).1, .bool true]) ∧ Below w.heap.size w w' ∧
      Byt w' w'.heap.size A (unpackS zs).2.length (unpackS zs).2 := by
  obtain ⟨i0, hi0, hz0, hz1, hz2⟩ := info_parts u8_info
  have cis := fun p len cap zs w hb hlc hcap => unpack_is p len cap zs w hb hlc hcap
  obtain ⟨out, hout⟩ : ∃ out, (unpackS zs).2 = out := ⟨_, rfl⟩
  obtain ⟨cd, hcd⟩ : ∃ cd, (unpackS zs).1 = cd := ⟨_, rfl⟩
  have hob := unpackS_bs zs hb.bs
  have hol := unpackS_len zs
  rw [hout] at hob hol ⊢
  rw [hcd]
  have HOUT := box hout
  have HCD := box hcd
  have HOB := box hob
  have HB := box hb
  have HS := box hb.src
  have CIS := box cis
  clear hout hcd hob hb cis
  go_enter Try.func10, Try.ntmps10
  go_wp2_with (first
      | (at_builtin; refine wpList_app _ rfl (.const (.slice none 0 0)) (.tmp 14) _ rfl w.heap.size 5 i0 (.int .u8 0) 1 1 Try.underlying22 hi0 hz0 hz1 hz2 rfl (by omega) _ 0 [] rfl (World.ownsRow_nil _ _ _ _) w.heap.size p len cap (u8s zs) rfl HS.out (u8s_one _) (by simp only [maxLen]; omega) (by omega) (Nat.le_refl _) ?_; intro A1 c1 w1 L1; have b1 : Below w.heap.size w w1 := Below.app (Below.refl _ _) L1 (World.ownsRow_nil _ _ _ _) (Nat.le_refl _) (Nat.le_refl _); have O1 : w1.ownsRow w.heap.size 5 1 (.slice A1 len c1) len (u8s zs) := by simpa using L1.1)
      | (at_builtin; refine wpList_app _ rfl (.tmp 15) (.tmp 16) _ rfl w.heap.size 5 i0 (.int .u8 0) 1 1 Try.underlying22 hi0 hz0 hz1 hz2 rfl (by omega) _ len (u8s zs) rfl (O1.alloc _) (w1.heap.size + 1) (some ⟨w1.heap.size, 0, none⟩) 1 1 (u8s [78]) rfl (Src.new w1 #[.int .u8 78] 5 1 1 rfl) (u8s_one _) (by simp only [maxLen]; omega) (by omega) (by have := b1.size; simp; omega) ?_; intro A2 c2 w2 L2; have b2 : Below w.heap.size w w2 := Below.app (b1.alloc b1.size _) L2 (O1.alloc _) (Nat.le_refl _) (by have := b1.size; simp; omega); have hsl : (len : Int) ≤ (c2 : Int) := by (have := own_cap L2.1; omega)))
  obtain ⟨g2, kk, hA2, hg2, hlt2⟩ := L2.1.form (by omega)
  injection hA2 with hA2 _ hkk
  subst hA2
  clear hkk
  have O2 : w2.ownsRow w.heap.size 5 1 (.slice (some ⟨g2, 0, none⟩) (len + 1) c2) (len + 1) (u8s (zs ++ [78])) := by rw [u8s_append]; exact L2.1
  have hc2 := own_cap O2
  have Y2 : Byt w2 w2.heap.size (some ⟨g2, 0, none⟩) (len + 1) (zs ++ [78]) := Byt.of_own O2 (HB.out.bs.app (by unfold Bs; decide))
  have hlz := HB.out.len
  have Z2 : Byt w2 w2.heap.size (some ⟨g2, 0, none⟩) len zs := by
    have := Y2.take (k := len) (by omega)
    rwa [← hlz, List.take_left, hlz] at this
  have B2 := box b2
  have YY := box Y2
  have ZZ := box Z2
  have HLZ := box hlz
  clear L1 O1 L2 O2 b1 b2 Y2 Z2 hlz
  have k1 := CIS.out (some ⟨g2, 0, none⟩) len c2 zs w2 ZZ.out (by omega) hc2.2
  rw [HOUT.out, HCD.out] at k1
  refine k1.mono ?_
  rintro e w3 ⟨A3, q3, rfl, b3, own3⟩
  clear k1
  have B3 := box b3
  have O3 := box own3
  clear own3 b3
  go_wp2_with fail
  have k2 := CIS.out (some ⟨g2, 0, none⟩) len c2 zs w3 (ZZ.out.past B3.out (Nat.le_refl _) |>.more B3.out.size) (by omega) hc2.2
  rw [HOUT.out, HCD.out] at k2
  refine k2.mono ?_
  rintro e w4 ⟨A4, q4, rfl, b4, own4⟩
  clear k2
  have B4 := box b4
  have O4 := box own4
  clear own4 b4
  have t1 : (cd != cd) = false := by simp
  go_wp2_with fail
  have B24 : Box (Below w2.heap.size w2 w4) := ⟨B3.out.trans (B4.out.mono B3.out.size)⟩
  have y3 : Byt w4 w3.heap.size A3 out.length out := (Byt.of_own O3.out HOB.out).below B4.out
  have y4 : Byt w4 w4.heap.size A4 out.length out := Byt.of_own O4.out HOB.out
  have k3 := equal_any A3 A4 out.length q3 out.length q4 _ _ out out w4 y3 y4
  rw [decide_eq_true (rfl : out = out)] at k3
  refine k3.mono ?_
  rintro e w5 ⟨rfl, rfl⟩
  clear k3 y3 y4
  go_wp2_with fail
  have y5 : Byt w4 w2.heap.size (some ⟨g2, 0, none⟩) len zs := ZZ.out.below B24.out
  have y6 : Byt w4 w.heap.size p len zs := HB.out.below (B2.out.trans (B24.out.mono B2.out.size))
  have k4 := equal_any (some ⟨g2, 0, none⟩) p len c2 len cap _ _ zs zs w4 y5 y6
  rw [decide_eq_true (rfl : zs = zs)] at k4
  refine k4.mono ?_
  rintro e w5 ⟨rfl, rfl⟩
  clear k4 y5 y6
  have c78 : ∀ W, Below w2.heap.size w2 W → W.cell? ⟨g2, len, none⟩ = some (.int .u8 78) := fun W hW => by
    obtain ⟨b', o', e', _, hc'⟩ := YY.out.at_ (by omega)
    cases e'
    rw [hW.cell hlt2]
    have := hc' len (by omega)
    rw [Nat.zero_add] at this
    rw [this]
    have hlz := HLZ.out
    subst hlz
    simp [List.getD]
  have C78 := box c78
  have d1 := c78 w4 B24.out
  clear c78
  go_wp2_with fail
  clear d1 t1
  go_loopg [65] out.length (fun g s65 wx => ∃ i : Nat, i + g = out.length ∧ s65 = .int .i64 i ∧ Box (∃ vs : List Int, Bs vs ∧ wx.ownsRow w2.heap.size 5 1 (.slice A3 out.length q3) out.length (u8s vs) ∧ w4.grownBy wx (Value.slice A3 out.length q3).ownBlock))
  case atStart => exact ⟨0, by omega, rfl, ⟨out, HOB.out, own_past O3.out B4.out, World.grownBy.refl w4 _⟩⟩
  case round =>
    obtain ⟨i, hig, rfl, HV⟩ := hrel
    by_cases hg : gk = 0
    · subst hg
      have t1 : ¬ (i : Int) < (out.length : Int) := by omega
      obtain ⟨vs, hvs, hown, hgr⟩ := HV.out
      have hrow : ∀ k, (Value.slice A3 out.length q3).ownBlock = some k → w2.heap.size ≤ k ∧ k < w3.heap.size := fun k hk => O3.out.lt k hk
      have b2r : Below w2.heap.size w2 wr := B24.out.grown hgr B24.out.size fun k hk => (hrow k hk).1
      have hwr3 : w3.heap.size ≤ wr.heap.size := Nat.le_trans B4.out.size hgr.size
      have VS := box hvs
      have OWN := box hown
      have GR := box hgr
      have ROW := box hrow
      have B2R := box b2r
      clear hvs hown hgr hrow b2r HV
      have t2 : ((out.length : Int) + 1 == (out.length : Int) + 1) = true := by simp
      go_wp2_with (at_builtin; refine wpList_app _ rfl (.tmp 72) (.tmp 73) _ rfl w2.heap.size 5 i0 (.int .u8 0) 1 1 Try.underlying22 hi0 hz0 hz1 hz2 rfl (by omega) _ out.length (u8s vs) rfl (OWN.out.alloc _) (wr.heap.size + 1) (some ⟨wr.heap.size, 0, none⟩) 1 1 (u8s [79]) rfl (Src.new wr #[.int .u8 79] 5 1 1 rfl) (u8s_one _) (by simp only [maxLen]; omega) (by omega) (by have := B2R.out.size; simp; omega) ?_; intro A6 c6 w6 L6; have B26 : Box (Below w2.heap.size w2 w6) := ⟨Below.app (B2R.out.alloc B2R.out.size _) L6 (OWN.out.alloc _) (Nat.le_refl _) (by have := B2R.out.size; simp; omega)⟩; have HL6 := box L6; clear L6)
      have y5 : Byt w6 w2.heap.size (some ⟨g2, 0, none⟩) len zs := ZZ.out.below B26.out
      have b6 : Below w.heap.size w w6 := B2.out.trans (B26.out.mono B2.out.size)
      have y6 : Byt w6 w.heap.size p len zs := HB.out.below b6
      have k4 := equal_any (some ⟨g2, 0, none⟩) p len c2 len cap _ _ zs zs w6 y5 y6
      rw [decide_eq_true (rfl : zs = zs)] at k4
      refine k4.mono ?_
      rintro e w7 ⟨rfl, rfl⟩
      clear k4 y5 y6
      have d1 := C78.out w6 B26.out
      go_wp2_with fail
      refine bodyPost_ret (results_tmp3 rfl _ _ _) rfl ?_
      refine ⟨A4, q4, rfl, b6, ?_⟩
      have o4 : wr.ownsRow w3.heap.size 5 1 (.slice A4 out.length q4) out.length (u8s out) := by
        refine O4.out.kept GR.out ?_
        by_cases h0 : (Value.slice A4 out.length q4).ownBlock = none
        · exact .inl h0
        · refine .inr fun he => ?_
          cases hk : (Value.slice A4 out.length q4).ownBlock with
          | none => exact h0 hk
          | some k =>
            have e1 := (O4.out.lt k hk).1
            rw [hk] at he
            have e2 := (ROW.out k he.symm).2
            omega
      have o5 : w6.ownsRow w3.heap.size 5 1 (.slice A4 out.length q4) out.length (u8s out) := by
        refine (o4.alloc (.cells #[.int .u8 79] 5)).kept HL6.out.2.1 ?_
        by_cases h0 : (Value.slice A4 out.length q4).ownBlock = none
        · exact .inl h0
        · refine .inr fun he => ?_
          cases hk : (Value.slice A4 out.length q4).ownBlock with
          | none => exact h0 hk
          | some k =>
            have e1 := (O4.out.lt k hk).1
            rw [hk] at he
            have e2 := (ROW.out k he.symm).2
            omega
      exact Byt.of_own o5 HOB.out
    · obtain ⟨g, rfl⟩ : ∃ g, gk = g + 1 := ⟨gk - 1, by omega⟩
      have t1 : (i : Int) < (out.length : Int) := by omega
      obtain ⟨vs, hvs, hown, hgr⟩ := HV.out
      obtain ⟨g3, kk, hA3, _, _⟩ := hown.form (by omega)
      injection hA3 with hA3 _ hkk
      subst hA3
      clear hkk
      have hlv : vs.length = out.length := by have := hown.1; rw [u8s_length] at this; omega
      have cc : wr.cell? ⟨g3, i, none⟩ = some (.int .u8 (vs.getD i 0)) := by
        rw [hown.cellAt i (by omega), u8s_get _ _ (by omega)]
      obtain ⟨v0, hv0⟩ : ∃ v0, vs.getD i 0 = v0 := ⟨_, rfl⟩
      rw [hv0] at cc
      have cf : wr.frozen? ⟨g3, i, none⟩ = false := hown.frozenAt i
      obtain ⟨st1, st2⟩ := hown.stored i (.int .u8 77)
      have ST1 := box st1
      have ST2 := box st2
      have GR := box hgr
      have VS := box hvs
      clear st1 st2 hgr hvs hown hv0 HV hlv
      go_wp2
      go_roundg g
      case measure => omega
      case rel =>
        refine ⟨i + 1, by omega, by go_num, ⟨vs.set i 77, ?_, ?_, ?_⟩⟩
        · intro x hx
          rcases List.mem_or_eq_of_mem_set hx with h | h
          · exact VS.out x h
          · omega
        · have e1 : u8s (vs.set i 77) = (u8s vs).set i (.int .u8 77) := by unfold u8s; rw [List.map_set]
          rw [e1]
          exact ST1.out
        · exact GR.out.trans ST2.out
#print axioms kept_unpack
end Go.Proofs.Ytfhibpgmmffgjaa
