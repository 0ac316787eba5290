/- mantlelaw11.PackKnown answers true: the walk. -/
import Derived.Test.YtfhibpgmmffgjaaWorks
import Derived.Test.YtfhibpgmmffgjaaBackL
import Derived.Deep.LoopGhost
namespace Go.Proofs.Ytfhibpgmmffgjaa
open Go.RowKit
def zeros (n : Nat) : List Int := List.replicate n 0
theorem zeros_len (n : Nat) : (zeros n).length = n := List.length_replicate
theorem zeros_bs (n : Nat) : Bs (zeros n) := fun x hx => by
  rw [List.eq_of_mem_replicate hx]; omega
theorem pack_nil : packS [] = [0, 0, 0, 0] := by
  show packF [] 0 0 0 (head4 0) = _
  rw [packF_zero]
  decide +kernel
theorem pack_abc : packS [97, 98, 99, 97, 98, 99, 97, 98, 99] = [0, 0, 0, 9, 2, 97, 98, 99, 131, 3] := by
  have m0 : matchS [97, 98, 99, 97, 98, 99, 97, 98, 99] 0 = (0, 0) := by decide +kernel
  have m1 : matchS [97, 98, 99, 97, 98, 99, 97, 98, 99] 1 = (0, 0) := by decide +kernel
  have m2 : matchS [97, 98, 99, 97, 98, 99, 97, 98, 99] 2 = (0, 0) := by decide +kernel
  have m3 : matchS [97, 98, 99, 97, 98, 99, 97, 98, 99] 3 = (6, 3) := by decide +kernel
  show packF [97, 98, 99, 97, 98, 99, 97, 98, 99] 9 0 0 (head4 9) = _
  rw [packF_one _ 8 0 0 _ (by rw [m0]), packF_one _ 7 0 1 _ (by rw [m1]), packF_one _ 6 0 2 _ (by rw [m2]), packF_more _ 5 0 3 _ (by rw [m3]; decide), m3]
  show packF [97, 98, 99, 97, 98, 99, 97, 98, 99] 0 9 9 _ = _
  rw [packF_zero]
  decide +kernel
theorem unpack_0101 : unpackS [0, 1, 0, 1] = (3, []) := by decide +kernel
theorem unpack_bad0 : unpackS [0, 0, 0, 1, 0] = (110, []) := by decide +kernel
theorem unpack_bad1 : unpackS [0, 0, 0, 4, 0, 97, 128, 0] = (110, []) := by decide +kernel
theorem unpack_bad2 : unpackS [0, 0, 0, 4, 0, 97, 128, 2] = (110, []) := by decide +kernel
theorem unpack_bad3 : unpackS [0, 0, 0, 3, 0, 97, 128, 1] = (110, []) := by decide +kernel
theorem unpack_bad4 : unpackS [0, 0, 0, 0, 0, 97] = (110, []) := by decide +kernel
/-- The five texts that are no packed ones, laid side by side. -/
def five (w : World) (e : TypeId) : World := (World.alloc (World.alloc (World.alloc (World.alloc (World.alloc w (.cells #[.int .u8 0, .int .u8 0, .int .u8 0, .int .u8 1, .int .u8 0] e)) (.cells #[.int .u8 0, .int .u8 0, .int .u8 0, .int .u8 4, .int .u8 0, .int .u8 97, .int .u8 128, .int .u8 0] e)) (.cells #[.int .u8 0, .int .u8 0, .int .u8 0, .int .u8 4, .int .u8 0, .int .u8 97, .int .u8 128, .int .u8 2] e)) (.cells #[.int .u8 0, .int .u8 0, .int .u8 0, .int .u8 3, .int .u8 0, .int .u8 97, .int .u8 128, .int .u8 1] e)) (.cells #[.int .u8 0, .int .u8 0, .int .u8 0, .int .u8 0, .int .u8 0, .int .u8 97] e))
theorem five_size (w : World) (e : TypeId) : (five w e).heap.size = w.heap.size + 5 := by simp [five]
theorem five_below (w : World) (e : TypeId) : Below w.heap.size w (five w e) := by
  unfold five
  exact (((((Below.refl _ _).alloc (Nat.le_refl _) _).alloc (by simp) _).alloc (by simp; omega) _).alloc (by simp; omega) _).alloc (by simp; omega) _
theorem five_0 (w : World) (e : TypeId) : Byt (five w e) (w.heap.size + 5) (some ⟨w.heap.size + 0, 0, none⟩) 5 [0, 0, 0, 1, 0] := by
  have h := Byt.newm w e (0, 0) [0, 0, 0, 1, 0] #[.int .u8 0, .int .u8 0, .int .u8 0, .int .u8 1, .int .u8 0] rfl (by unfold Bs; decide) 5 rfl
  have h' := h.more (B' := w.heap.size + 1) (by simp)
  have hs : w.heap.size = w.heap.size + 0 := by simp
  rw [hs] at h'
  refine (h'.keep (w' := five w e) fun q hq => ?_).more (by omega)
  unfold five
  rw [World.cell?_alloc_lt _ _ _ (by simp; omega), World.cell?_alloc_lt _ _ _ (by simp; omega), World.cell?_alloc_lt _ _ _ (by simp; omega), World.cell?_alloc_lt _ _ _ (by simp; omega)]
theorem five_1 (w : World) (e : TypeId) : Byt (five w e) (w.heap.size + 5) (some ⟨w.heap.size + 1, 0, none⟩) 8 [0, 0, 0, 4, 0, 97, 128, 0] := by
  have h := Byt.newm (World.alloc w (.cells #[.int .u8 0, .int .u8 0, .int .u8 0, .int .u8 1, .int .u8 0] e)) e (0, 0) [0, 0, 0, 4, 0, 97, 128, 0] #[.int .u8 0, .int .u8 0, .int .u8 0, .int .u8 4, .int .u8 0, .int .u8 97, .int .u8 128, .int .u8 0] rfl (by unfold Bs; decide) 8 rfl
  have h' := h.more (B' := w.heap.size + 2) (by simp)
  have hs : (World.alloc w (.cells #[.int .u8 0, .int .u8 0, .int .u8 0, .int .u8 1, .int .u8 0] e)).heap.size = w.heap.size + 1 := by simp
  rw [hs] at h'
  refine (h'.keep (w' := five w e) fun q hq => ?_).more (by omega)
  unfold five
  rw [World.cell?_alloc_lt _ _ _ (by simp; omega), World.cell?_alloc_lt _ _ _ (by simp; omega), World.cell?_alloc_lt _ _ _ (by simp; omega)]
theorem five_2 (w : World) (e : TypeId) : Byt (five w e) (w.heap.size + 5) (some ⟨w.heap.size + 2, 0, none⟩) 8 [0, 0, 0, 4, 0, 97, 128, 2] := by
  have h := Byt.newm (World.alloc (World.alloc w (.cells #[.int .u8 0, .int .u8 0, .int .u8 0, .int .u8 1, .int .u8 0] e)) (.cells #[.int .u8 0, .int .u8 0, .int .u8 0, .int .u8 4, .int .u8 0, .int .u8 97, .int .u8 128, .int .u8 0] e)) e (0, 0) [0, 0, 0, 4, 0, 97, 128, 2] #[.int .u8 0, .int .u8 0, .int .u8 0, .int .u8 4, .int .u8 0, .int .u8 97, .int .u8 128, .int .u8 2] rfl (by unfold Bs; decide) 8 rfl
  have h' := h.more (B' := w.heap.size + 3) (by simp)
  have hs : (World.alloc (World.alloc w (.cells #[.int .u8 0, .int .u8 0, .int .u8 0, .int .u8 1, .int .u8 0] e)) (.cells #[.int .u8 0, .int .u8 0, .int .u8 0, .int .u8 4, .int .u8 0, .int .u8 97, .int .u8 128, .int .u8 0] e)).heap.size = w.heap.size + 2 := by simp
  rw [hs] at h'
  refine (h'.keep (w' := five w e) fun q hq => ?_).more (by omega)
  unfold five
  rw [World.cell?_alloc_lt _ _ _ (by simp; omega), World.cell?_alloc_lt _ _ _ (by simp; omega)]
theorem five_3 (w : World) (e : TypeId) : Byt (five w e) (w.heap.size + 5) (some ⟨w.heap.size + 3, 0, none⟩) 8 [0, 0, 0, 3, 0, 97, 128, 1] := by
  have h := Byt.newm (World.alloc (World.alloc (World.alloc w (.cells #[.int .u8 0, .int .u8 0, .int .u8 0, .int .u8 1, .int .u8 0] e)) (.cells #[.int .u8 0, .int .u8 0, .int .u8 0, .int .u8 4, .int .u8 0, .int .u8 97, .int .u8 128, .int .u8 0] e)) (.cells #[.int .u8 0, .int .u8 0, .int .u8 0, .int .u8 4, .int .u8 0, .int .u8 97, .int .u8 128, .int .u8 2] e)) e (0, 0) [0, 0, 0, 3, 0, 97, 128, 1] #[.int .u8 0, .int .u8 0, .int .u8 0, .int .u8 3, .int .u8 0, .int .u8 97, .int .u8 128, .int .u8 1] rfl (by unfold Bs; decide) 8 rfl
  have h' := h.more (B' := w.heap.size + 4) (by simp)
  have hs : (World.alloc (World.alloc (World.alloc w (.cells #[.int .u8 0, .int .u8 0, .int .u8 0, .int .u8 1, .int .u8 0] e)) (.cells #[.int .u8 0, .int .u8 0, .int .u8 0, .int .u8 4, .int .u8 0, .int .u8 97, .int .u8 128, .int .u8 0] e)) (.cells #[.int .u8 0, .int .u8 0, .int .u8 0, .int .u8 4, .int .u8 0, .int .u8 97, .int .u8 128, .int .u8 2] e)).heap.size = w.heap.size + 3 := by simp
  rw [hs] at h'
  refine (h'.keep (w' := five w e) fun q hq => ?_).more (by omega)
  unfold five
  rw [World.cell?_alloc_lt _ _ _ (by simp; omega)]
theorem five_4 (w : World) (e : TypeId) : Byt (five w e) (w.heap.size + 5) (some ⟨w.heap.size + 4, 0, none⟩) 6 [0, 0, 0, 0, 0, 97] := by
  have h := Byt.newm (World.alloc (World.alloc (World.alloc (World.alloc w (.cells #[.int .u8 0, .int .u8 0, .int .u8 0, .int .u8 1, .int .u8 0] e)) (.cells #[.int .u8 0, .int .u8 0, .int .u8 0, .int .u8 4, .int .u8 0, .int .u8 97, .int .u8 128, .int .u8 0] e)) (.cells #[.int .u8 0, .int .u8 0, .int .u8 0, .int .u8 4, .int .u8 0, .int .u8 97, .int .u8 128, .int .u8 2] e)) (.cells #[.int .u8 0, .int .u8 0, .int .u8 0, .int .u8 3, .int .u8 0, .int .u8 97, .int .u8 128, .int .u8 1] e)) e (0, 0) [0, 0, 0, 0, 0, 97] #[.int .u8 0, .int .u8 0, .int .u8 0, .int .u8 0, .int .u8 0, .int .u8 97] rfl (by unfold Bs; decide) 6 rfl
  have h' := h.more (B' := w.heap.size + 5) (by simp)
  have hs : (World.alloc (World.alloc (World.alloc (World.alloc w (.cells #[.int .u8 0, .int .u8 0, .int .u8 0, .int .u8 1, .int .u8 0] e)) (.cells #[.int .u8 0, .int .u8 0, .int .u8 0, .int .u8 4, .int .u8 0, .int .u8 97, .int .u8 128, .int .u8 0] e)) (.cells #[.int .u8 0, .int .u8 0, .int .u8 0, .int .u8 4, .int .u8 0, .int .u8 97, .int .u8 128, .int .u8 2] e)) (.cells #[.int .u8 0, .int .u8 0, .int .u8 0, .int .u8 3, .int .u8 0, .int .u8 97, .int .u8 128, .int .u8 1] e)).heap.size = w.heap.size + 4 := by simp
  rw [hs] at h'
  refine (h'.keep (w' := five w e) fun q hq => ?_).more (by omega)
  unfold five
  rfl

theorem new_nil (w : World) : Calls Try.prog 16 #[.pointer none] w fun e w' => e = .returned (.tuple #[.pointer none, .int .i64 1]) ∧ w = w' := by
  go_enter Try.func16, Try.ntmps16
  go_wp2
  go_ret2
  exact ⟨rfl, rfl⟩
set_option maxHeartbeats 2000000 in
set_option maxRecDepth 100000 in
theorem known_any (w : World) : Calls Try.prog 6 #[] w fun e w' => e = .returned (.bool true) ∧ Below w.heap.size w w' := by
  have kc := fun (w : World) (C : Array Value) (n c : Nat) => Lib.run_convert_bytes_const (P := Try.prog) w 22 5 C n c Try.underlying22 Try.underlying5
  obtain ⟨i0, hi0, hz0, hz1, hz2⟩ := info_parts u8_info
  obtain ⟨n, hn⟩ : ∃ n : Nat, n = 65536 := ⟨_, rfl⟩
  obtain ⟨n1, hn1⟩ : ∃ n : Nat, n = 65537 := ⟨_, rfl⟩
  have cn : (65536 : Int) = (n : Int) := by omega
  have cn1 : (65537 : Int) = (n1 : Int) := by omega
  have mk1 : ∀ W, (Instr.makeSlice 22 (.int .i64 65537) (.int .i64 65537)).run Try.prog W = .ok (.slice (some ⟨W.heap.size, 0, none⟩) n1 n1) (W.alloc (.cells (u8s (zeros n1)).toArray 5)) := fun W => by
    rw [cn1]
    exact run_make_bytes Try.underlying22 hi0 hz0 hz1 hz2 .i64 .i64 n1 (by omega) W
  have mk2 : ∀ W, (Instr.makeSlice 22 (.int .i64 65536) (.int .i64 65536)).run Try.prog W = .ok (.slice (some ⟨W.heap.size, 0, none⟩) n n) (W.alloc (.cells (u8s (zeros n)).toArray 5)) := fun W => by
    rw [cn]
    exact run_make_bytes Try.underlying22 hi0 hz0 hz1 hz2 .i64 .i64 n (by omega) W
  have hzl := zeros_len n
  have up := unpack_pack (zeros n) (zeros_bs n) (by rw [hzl]; omega)
  obtain ⟨ps, hps⟩ : ∃ ps, packS (zeros n) = ps := ⟨_, rfl⟩
  rw [hps] at up
  have t1 : ((n : Int) == 65536) = true := by simp; omega
  have UP := box up
  have HPS := box hps
  have HN := box hn
  have HN1 := box hn1
  clear up hps hn hn1 cn cn1
  go_enter Try.func6, Try.ntmps6
  go_wp2_with fail
  have c1 := pack_any none 0 0 [] w Byt.none_ (by omega) (by omega) (by omega)
  rw [pack_nil] at c1
  refine c1.mono ?_
  rintro e w1 ⟨A1, k1, rfl, o1, b1⟩
  clear c1
  have O1 := box o1
  clear o1
  go_wp2_with fail
  have c2 := pack_any (some ⟨w1.heap.size, 0, none⟩) 9 9 [97, 98, 99, 97, 98, 99, 97, 98, 99] _ (Byt.lit w1 5 (9, 10) [97, 98, 99, 97, 98, 99, 97, 98, 99] #[.int .u8 97, .int .u8 98, .int .u8 99, .int .u8 97, .int .u8 98, .int .u8 99, .int .u8 97, .int .u8 98, .int .u8 99] 9 rfl (by unfold Bs; decide) rfl) (by omega) (by omega) (by omega)
  rw [pack_abc] at c2
  refine c2.mono ?_
  rintro e w2 ⟨A2, k2, rfl, o2, b2⟩
  clear c2
  have hs2 := b2.size
  simp only [World.size_alloc] at hs2
  have B2 : Box (Below w1.heap.size w1 w2) := ⟨((Below.refl _ _).alloc (Nat.le_refl _) _).trans (b2.mono (by simp))⟩
  have O2 := box o2
  clear o2 b2
  go_wp2_with fail
  refine (pack_long (some ⟨w2.heap.size, 0, none⟩) n1 n1 _ (by have := HN1.out; omega)).mono ?_
  rintro e w3 ⟨rfl, rfl⟩
  go_wp2_with fail
  have yz : Byt ((w2.alloc (.cells (u8s (zeros n1)).toArray 5)).alloc (.cells (u8s (zeros n)).toArray 5)) ((w2.alloc (.cells (u8s (zeros n1)).toArray 5)).alloc (.cells (u8s (zeros n)).toArray 5)).heap.size (some ⟨w2.heap.size + 1, 0, none⟩) n (zeros n) := by
    have := Byt.lit (w2.alloc (.cells (u8s (zeros n1)).toArray 5)) 5 (0, 0) (zeros n) (u8s (zeros n)).toArray n rfl (zeros_bs n) hzl.symm
    have e1 : (w2.alloc (.cells (u8s (zeros n1)).toArray 5)).heap.size = w2.heap.size + 1 := by simp
    rwa [e1] at this
  have c4 := pack_any (some ⟨w2.heap.size + 1, 0, none⟩) n n (zeros n) _ yz (Nat.le_refl _) (by have := HN.out; omega) (by have := HN.out; omega)
  rw [HPS.out] at c4
  clear yz
  refine c4.mono ?_
  rintro e w4 ⟨A4, k4, rfl, o4, b4⟩
  clear c4
  have hs4 := b4.size
  simp only [World.size_alloc] at hs4
  have B4 : Box (Below w2.heap.size w2 w4) := ⟨(((Below.refl _ _).alloc (Nat.le_refl _) _).alloc (by simp) _).trans (b4.mono (by simp; omega))⟩
  clear b4 mk1 mk2
  go_wp2_with fail
  have hc4 := own_cap o4
  have c5 := unpack_is A4 ps.length k4 ps w4 (Byt.of_own o4 UP.out.2.2) hc4.1 hc4.2
  rw [UP.out.1] at c5
  clear o4 hc4
  refine c5.mono ?_
  rintro e w5 ⟨A5, k5, rfl, b5, o5⟩
  clear c5 o5
  have B5 := box b5
  clear b5
  go_wp2_with fail
  have c6 := unpack_is (some ⟨w5.heap.size, 0, none⟩) 4 4 [0, 1, 0, 1] _ (Byt.lit w5 5 (0, 0) [0, 1, 0, 1] #[.int .u8 0, .int .u8 1, .int .u8 0, .int .u8 1] 4 rfl (by unfold Bs; decide) rfl) (by omega) (by omega)
  rw [unpack_0101] at c6
  refine c6.mono ?_
  rintro e w6 ⟨A6, k6, rfl, b6, o6⟩
  clear c6 o6
  have hs6 := b6.size
  simp only [World.size_alloc] at hs6
  have B6 : Box (Below w5.heap.size w5 w6) := ⟨((Below.refl _ _).alloc (Nat.le_refl _) _).trans (b6.mono (by simp))⟩
  clear b6
  go_wp2_with fail
  have hfive : (World.alloc (World.alloc (World.alloc (World.alloc (World.alloc w6 (.cells #[.int .u8 0, .int .u8 0, .int .u8 0, .int .u8 1, .int .u8 0] 5)) (.cells #[.int .u8 0, .int .u8 0, .int .u8 0, .int .u8 4, .int .u8 0, .int .u8 97, .int .u8 128, .int .u8 0] 5)) (.cells #[.int .u8 0, .int .u8 0, .int .u8 0, .int .u8 4, .int .u8 0, .int .u8 97, .int .u8 128, .int .u8 2] 5)) (.cells #[.int .u8 0, .int .u8 0, .int .u8 0, .int .u8 3, .int .u8 0, .int .u8 97, .int .u8 128, .int .u8 1] 5)) (.cells #[.int .u8 0, .int .u8 0, .int .u8 0, .int .u8 0, .int .u8 0, .int .u8 97] 5)) = five w6 5 := rfl
  rw [hfive]
  clear hfive
  go_loopg [13, 56] 5 (fun g s13 s56 wx => ∃ i : Nat, i + g = 5 ∧ s13 = .int .i64 i ∧ s56 = .int .i64 i ∧ Box (Below (w6.heap.size + 5) (five w6 5) wx))
  case atStart => exact ⟨0, rfl, rfl, rfl, ⟨Below.refl _ _⟩⟩
  case round =>
    obtain ⟨i, hig, rfl, rfl, HW⟩ := hrel
    by_cases h5 : i = 5
    · have e5 : (i : Int) = 5 := by omega
      have bel : Below w.heap.size w wr := by
        have q1 := b1.size
        have q2 := B2.out.size
        have q4 := B4.out.size
        have q5 := B5.out.size
        have q6 := B6.out.size
        exact (((((b1.trans (B2.out.mono q1)).trans (B4.out.mono (by omega))).trans (B5.out.mono (by omega))).trans (B6.out.mono (by omega))).trans ((five_below w6 _).mono (by omega))).trans (HW.out.mono (by omega))
      have bel1 : Below w1.heap.size w1 wr := by
        have q2 := B2.out.size
        have q4 := B4.out.size
        have q5 := B5.out.size
        have q6 := B6.out.size
        exact ((((B2.out.trans (B4.out.mono (by omega))).trans (B5.out.mono (by omega))).trans (B6.out.mono (by omega))).trans ((five_below w6 _).mono (by omega))).trans (HW.out.mono (by omega))
      have bel2 : Below w2.heap.size w2 wr := by
        have q4 := B4.out.size
        have q5 := B5.out.size
        have q6 := B6.out.size
        exact (((B4.out.trans (B5.out.mono (by omega))).trans (B6.out.mono (by omega))).trans ((five_below w6 _).mono (by omega))).trans (HW.out.mono (by omega))
      have y1 : Byt wr w1.heap.size A1 4 [0, 0, 0, 0] := (Byt.of_own O1.out (by unfold Bs; decide)).below bel1
      have y2 : Byt wr w2.heap.size A2 10 [0, 0, 0, 9, 2, 97, 98, 99, 131, 3] := (Byt.of_own O2.out (by unfold Bs; decide)).below bel2
      have S1 := box bel1.size
      have S2 := box bel2.size
      have BEL := box bel
      have Y1 := box y1
      have Y2 := box y2
      clear h5 bel bel1 bel2 y1 y2 hig b1 hs2 hs4 hs6
      go_wp2_with fail
      refine (new_nil _).mono ?_
      rintro e w8 ⟨rfl, rfl⟩
      have mk4 : ∀ W, (Instr.makeSlice 22 (.int .i64 4) (.int .i64 4)).run Try.prog W = .ok (.slice (some ⟨W.heap.size, 0, none⟩) 4 4) (W.alloc (.cells #[.int .u8 0, .int .u8 0, .int .u8 0, .int .u8 0] 5)) := fun W =>
        run_make_bytes Try.underlying22 hi0 hz0 hz1 hz2 .i64 .i64 4 (by omega) W
      go_wp2_with fail
      clear mk4
      have k1' := equal_any A1 (some ⟨wr.heap.size, 0, none⟩) 4 k1 4 4 _ _ [0, 0, 0, 0] [0, 0, 0, 0] _ (Y1.out.past ((Below.refl _ _).alloc (Nat.le_refl _) _) S1.out) (Byt.lit wr 5 (0, 0) [0, 0, 0, 0] #[.int .u8 0, .int .u8 0, .int .u8 0, .int .u8 0] 4 rfl (by unfold Bs; decide) rfl)
      rw [show decide (([0, 0, 0, 0] : List Int) = [0, 0, 0, 0]) = true by decide] at k1'
      refine k1'.mono ?_
      rintro e w9 ⟨rfl, rfl⟩
      clear k1'
      go_wp2_with fail
      have hz4 : Below wr.heap.size wr (wr.alloc (.cells #[.int .u8 0, .int .u8 0, .int .u8 0, .int .u8 0] 5)) := (Below.refl _ _).alloc (Nat.le_refl _) _
      have hz5 : Below wr.heap.size wr ((wr.alloc (.cells #[.int .u8 0, .int .u8 0, .int .u8 0, .int .u8 0] 5)).alloc (.cells #[.int .u8 0, .int .u8 0, .int .u8 0, .int .u8 9, .int .u8 2, .int .u8 97, .int .u8 98, .int .u8 99, .int .u8 131, .int .u8 3] 5)) := hz4.alloc (by simp) _
      have yl : Byt ((wr.alloc (.cells #[.int .u8 0, .int .u8 0, .int .u8 0, .int .u8 0] 5)).alloc (.cells #[.int .u8 0, .int .u8 0, .int .u8 0, .int .u8 9, .int .u8 2, .int .u8 97, .int .u8 98, .int .u8 99, .int .u8 131, .int .u8 3] 5)) ((wr.alloc (.cells #[.int .u8 0, .int .u8 0, .int .u8 0, .int .u8 0] 5)).alloc (.cells #[.int .u8 0, .int .u8 0, .int .u8 0, .int .u8 9, .int .u8 2, .int .u8 97, .int .u8 98, .int .u8 99, .int .u8 131, .int .u8 3] 5)).heap.size (some ⟨wr.heap.size + 1, 0, none⟩) 10 [0, 0, 0, 9, 2, 97, 98, 99, 131, 3] := by
        have := Byt.lit (wr.alloc (.cells #[.int .u8 0, .int .u8 0, .int .u8 0, .int .u8 0] 5)) 5 (0, 0) [0, 0, 0, 9, 2, 97, 98, 99, 131, 3] #[.int .u8 0, .int .u8 0, .int .u8 0, .int .u8 9, .int .u8 2, .int .u8 97, .int .u8 98, .int .u8 99, .int .u8 131, .int .u8 3] 10 rfl (by unfold Bs; decide) rfl
        have e1 : (wr.alloc (.cells #[.int .u8 0, .int .u8 0, .int .u8 0, .int .u8 0] 5)).heap.size = wr.heap.size + 1 := by simp
        rwa [e1] at this
      have k2' := equal_any A2 (some ⟨wr.heap.size + 1, 0, none⟩) 10 k2 10 10 _ _ [0, 0, 0, 9, 2, 97, 98, 99, 131, 3] [0, 0, 0, 9, 2, 97, 98, 99, 131, 3] _ (Y2.out.past hz5 S2.out) yl
      rw [show decide (([0, 0, 0, 9, 2, 97, 98, 99, 131, 3] : List Int) = [0, 0, 0, 9, 2, 97, 98, 99, 131, 3]) = true by decide] at k2'
      refine k2'.mono ?_
      rintro e w9 ⟨rfl, rfl⟩
      clear k2' yl
      have HZ5 := box hz5
      clear hz4 hz5
      go_wp2_with fail
      refine (works_any _).mono ?_
      rintro e w9 ⟨rfl, b9⟩
      go_wp2_with fail
      go_ret
      exact ⟨rfl, (BEL.out.trans (HZ5.out.mono BEL.out.size)).trans (b9.mono (by have := BEL.out.size; simp; omega))⟩
    · obtain ⟨g, rfl⟩ : ∃ g, gk = g + 1 := ⟨gk - 1, by omega⟩
      have hi5 : i = 0 ∨ i = 1 ∨ i = 2 ∨ i = 3 ∨ i = 4 := by omega
      have hsz : w6.heap.size + 5 ≤ wr.heap.size := by have := HW.out.size; rw [five_size] at this; exact this
      have byt := fun (A : Option Addr) (m : Nat) (l : List Int) (h : Byt (five w6 5) (w6.heap.size + 5) A m l) => (h.below HW.out).more hsz
      rcases hi5 with rfl | hi5
      · have idx : ∀ W, (Instr.index 32 (.agg #[.slice (some ⟨w6.heap.size, 0, none⟩) 5 5, .slice (some ⟨w6.heap.size + 1, 0, none⟩) 8 8, .slice (some ⟨w6.heap.size + 2, 0, none⟩) 8 8, .slice (some ⟨w6.heap.size + 3, 0, none⟩) 8 8, .slice (some ⟨w6.heap.size + 4, 0, none⟩) 6 6]) (.int .i64 0)).run Try.prog W = .ok (.slice (some ⟨w6.heap.size, 0, none⟩) 5 5) W := fun _ => by kernel_rfl
        have c7 := unpack_is (some ⟨w6.heap.size, 0, none⟩) 5 5 [0, 0, 0, 1, 0] wr (byt _ _ _ (five_0 w6 _)) (by omega) (by omega)
        rw [unpack_bad0] at c7
        have C7 := box c7
        clear c7 byt hsz
        go_wp2_with (refine C7.out.mono ?_; rintro e w7 ⟨A7, k7, rfl, b7, _⟩)
        go_roundg g
        case measure => omega
        case rel => exact ⟨1, by omega, by go_num, by go_num, ⟨HW.out.trans (b7.mono (by have := HW.out.size; rw [five_size] at this; exact this))⟩⟩
      rcases hi5 with rfl | hi5
      · have idx : ∀ W, (Instr.index 32 (.agg #[.slice (some ⟨w6.heap.size, 0, none⟩) 5 5, .slice (some ⟨w6.heap.size + 1, 0, none⟩) 8 8, .slice (some ⟨w6.heap.size + 2, 0, none⟩) 8 8, .slice (some ⟨w6.heap.size + 3, 0, none⟩) 8 8, .slice (some ⟨w6.heap.size + 4, 0, none⟩) 6 6]) (.int .i64 1)).run Try.prog W = .ok (.slice (some ⟨w6.heap.size + 1, 0, none⟩) 8 8) W := fun _ => by kernel_rfl
        have c7 := unpack_is (some ⟨w6.heap.size + 1, 0, none⟩) 8 8 [0, 0, 0, 4, 0, 97, 128, 0] wr (byt _ _ _ (five_1 w6 _)) (by omega) (by omega)
        rw [unpack_bad1] at c7
        have C7 := box c7
        clear c7 byt hsz
        go_wp2_with (refine C7.out.mono ?_; rintro e w7 ⟨A7, k7, rfl, b7, _⟩)
        go_roundg g
        case measure => omega
        case rel => exact ⟨2, by omega, by go_num, by go_num, ⟨HW.out.trans (b7.mono (by have := HW.out.size; rw [five_size] at this; exact this))⟩⟩
      rcases hi5 with rfl | hi5
      · have idx : ∀ W, (Instr.index 32 (.agg #[.slice (some ⟨w6.heap.size, 0, none⟩) 5 5, .slice (some ⟨w6.heap.size + 1, 0, none⟩) 8 8, .slice (some ⟨w6.heap.size + 2, 0, none⟩) 8 8, .slice (some ⟨w6.heap.size + 3, 0, none⟩) 8 8, .slice (some ⟨w6.heap.size + 4, 0, none⟩) 6 6]) (.int .i64 2)).run Try.prog W = .ok (.slice (some ⟨w6.heap.size + 2, 0, none⟩) 8 8) W := fun _ => by kernel_rfl
        have c7 := unpack_is (some ⟨w6.heap.size + 2, 0, none⟩) 8 8 [0, 0, 0, 4, 0, 97, 128, 2] wr (byt _ _ _ (five_2 w6 _)) (by omega) (by omega)
        rw [unpack_bad2] at c7
        have C7 := box c7
        clear c7 byt hsz
        go_wp2_with (refine C7.out.mono ?_; rintro e w7 ⟨A7, k7, rfl, b7, _⟩)
        go_roundg g
        case measure => omega
        case rel => exact ⟨3, by omega, by go_num, by go_num, ⟨HW.out.trans (b7.mono (by have := HW.out.size; rw [five_size] at this; exact this))⟩⟩
      rcases hi5 with rfl | hi5
      · have idx : ∀ W, (Instr.index 32 (.agg #[.slice (some ⟨w6.heap.size, 0, none⟩) 5 5, .slice (some ⟨w6.heap.size + 1, 0, none⟩) 8 8, .slice (some ⟨w6.heap.size + 2, 0, none⟩) 8 8, .slice (some ⟨w6.heap.size + 3, 0, none⟩) 8 8, .slice (some ⟨w6.heap.size + 4, 0, none⟩) 6 6]) (.int .i64 3)).run Try.prog W = .ok (.slice (some ⟨w6.heap.size + 3, 0, none⟩) 8 8) W := fun _ => by kernel_rfl
        have c7 := unpack_is (some ⟨w6.heap.size + 3, 0, none⟩) 8 8 [0, 0, 0, 3, 0, 97, 128, 1] wr (byt _ _ _ (five_3 w6 _)) (by omega) (by omega)
        rw [unpack_bad3] at c7
        have C7 := box c7
        clear c7 byt hsz
        go_wp2_with (refine C7.out.mono ?_; rintro e w7 ⟨A7, k7, rfl, b7, _⟩)
        go_roundg g
        case measure => omega
        case rel => exact ⟨4, by omega, by go_num, by go_num, ⟨HW.out.trans (b7.mono (by have := HW.out.size; rw [five_size] at this; exact this))⟩⟩
      subst hi5
      · have idx : ∀ W, (Instr.index 32 (.agg #[.slice (some ⟨w6.heap.size, 0, none⟩) 5 5, .slice (some ⟨w6.heap.size + 1, 0, none⟩) 8 8, .slice (some ⟨w6.heap.size + 2, 0, none⟩) 8 8, .slice (some ⟨w6.heap.size + 3, 0, none⟩) 8 8, .slice (some ⟨w6.heap.size + 4, 0, none⟩) 6 6]) (.int .i64 4)).run Try.prog W = .ok (.slice (some ⟨w6.heap.size + 4, 0, none⟩) 6 6) W := fun _ => by kernel_rfl
        have c7 := unpack_is (some ⟨w6.heap.size + 4, 0, none⟩) 6 6 [0, 0, 0, 0, 0, 97] wr (byt _ _ _ (five_4 w6 _)) (by omega) (by omega)
        rw [unpack_bad4] at c7
        have C7 := box c7
        clear c7 byt hsz
        go_wp2_with (refine C7.out.mono ?_; rintro e w7 ⟨A7, k7, rfl, b7, _⟩)
        go_roundg g
        case measure => omega
        case rel => exact ⟨5, by omega, by go_num, by go_num, ⟨HW.out.trans (b7.mono (by have := HW.out.size; rw [five_size] at this; exact this))⟩⟩
#print axioms known_any
end Go.Proofs.Ytfhibpgmmffgjaa
