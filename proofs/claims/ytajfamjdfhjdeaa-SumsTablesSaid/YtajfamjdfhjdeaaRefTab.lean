/- The document's sums: Sum, eight, a file's Size and Read, Table. -/
import Derived.Test.YtajfamjdfhjdeaaRefGet
import Derived.Test.YtajfamjdfhjdeaaMade
import Derived.Test.YtajfamjdfhjdeaaTable
namespace Go.Proofs.Ytajfamjdfhjdeaa
open Go.RowKit
attribute [local go_sem ↓] Go.wp_at_zero Go.wp_at_succ

theorem rsum_any {w : World} {A : Option Addr} {n c B : Nat} {zs : List Int} (h : Byt w B A n zs) (hn : n ≤ 4294967296) :
    Calls Try.prog 28 #[.slice A n c] w fun e w' => e = .returned (.int .u64 (fnv fnv0 zs)) ∧ w' = w := by
  have HS := box h
  have hl := box h.len
  clear h
  go_enter Try.func28, Try.ntmps28
  go_wp2
  go_loop [3, 4] (fun s i => ∃ k : Nat, k ≤ n ∧ i = .int .i64 (k : Int) ∧ s = .int .u64 (fnv fnv0 (zs.take k))) (fun _ i => n - (intOf i).toNat)
  case atStart => exact ⟨0, Nat.zero_le _, rfl, rfl⟩
  case round =>
    obtain ⟨k, hk, rfl, rfl⟩ := hrel
    by_cases hlt : k < n
    · obtain ⟨b, o, rfl, hb, hc⟩ := HS.out.at_ (by omega)
      have hck := hc k hlt
      have hx := HS.out.bs.get k
      have hsn : Box (fnv fnv0 (zs.take (k + 1)) = fnvStep (fnv fnv0 (zs.take k)) (zs.getD k 0)) := ⟨by
        rw [← fnv_snoc]
        have hkl : k < zs.length := by rw [hl.out]; exact hlt
        have e : zs.getD k 0 = zs[k] := by simp [List.getD, hkl]
        rw [e, List.take_succ_eq_append_getElem hkl]⟩
      have i0' : (0 : Int) ≤ (k : Int) := by omega
      have i1' : (k : Int) < (n : Int) := by omega
      clear hc
      generalize fnv fnv0 (zs.take k) = s at *
      generalize zs.getD k 0 = x at *
      go_wp2
      go_round
      case rel => exact ⟨k + 1, by omega, by go_num, by rw [hsn.out]; rfl⟩
      case measure => simp [intOf]; omega
    · go_wp2
      go_ret
      exact ⟨ret_int (by rw [List.take_of_length_le (by rw [hl.out]; omega)]), rfl⟩

theorem eight_snoc (s : Int) (k : Nat) (h : k < 8) : (eightOf s).take (k + 1) = (eightOf s).take k ++ [s / 2 ^ (8 * k) % 256] := by
  rw [List.take_succ_eq_append_getElem (by rw [eightOf_len]; exact h)]
  congr 2
  simp [eightOf]

set_option maxHeartbeats 1000000 in
theorem reight_any {w : World} {s : Int} (_ : 0 ≤ s ∧ s < 18446744073709551616) :
    Calls Try.prog 51 #[.int .u64 s] w fun e w' => ∃ A c, e = .returned (.slice A 8 c) ∧ Byt w' w'.heap.size A 8 (eightOf s) ∧ Below w.heap.size w w' := by
  go_enter Try.func51, Try.ntmps51
  go_wp2
  go_loopg [3, 4] 8 (fun kx s3 s4 wr => ∃ (k : Nat) (A : Option Addr) (c : Nat), k ≤ 8 ∧ 8 - k ≤ kx ∧ s4 = .int .i64 (k : Int) ∧ s3 = .slice A k c ∧ Box (Own8 wr w.heap.size A k c ((eightOf s).take k)) ∧ Box (Below w.heap.size w wr))
  case atStart => exact ⟨0, none, 0, by omega, by omega, rfl, rfl, ⟨by rw [List.take_zero]; exact Own8.nil _ _⟩, ⟨Below.refl _ _⟩⟩
  case round =>
    obtain ⟨k, A, c, hk, hkk, rfl, rfl, hO, hb⟩ := hrel
    by_cases hlt : k < 8
    · have hk8 : (k : Int) < 8 := by omega
      have hk0 : (0 : Int) ≤ (k : Int) := by omega
      have hsn := box (eight_snoc s k hlt)
      have hxb : 0 ≤ s / 2 ^ (8 * k) % 256 ∧ s / 2 ^ (8 * k) % 256 < 256 := ⟨Int.emod_nonneg _ (by decide), Int.emod_lt_of_pos _ (by decide)⟩
      have hby := (Byt.new wr 5 [s / 2 ^ (8 * k) % 256] #[.int .u8 (s / 2 ^ (8 * k) % 256)] rfl (Bs.cons hxb Bs.nil) 1 rfl).src
      have hO1 := own8_keep (w' := wr.alloc (.cells #[.int .u8 (s / 2 ^ (8 * k) % 256)] 5)) hO.out fun j hj => Below.heap_alloc wr _ j (own8_blk hO.out hj).2.1
      have hb1 := hb.out.alloc hb.out.size (.cells #[.int .u8 (s / 2 ^ (8 * k) % 256)] 5)
      replace hby := box hby
      replace hO1 := box hO1
      replace hb1 := box hb1
      clear hxb
      go_wp2_with (at_builtin; refine app8 _ (.tmp 9) (.tmp 15) w.heap.size hO1.out hby.out rfl rfl rfl rfl (by omega) hb1.out.size ?_; intro A7 c7 w7 O7 b7 s7; rw [← hsn.out] at O7)
      go_roundg (8 - (k + 1))
      case measure => omega
      case rel => exact ⟨k + 1, A7, c7, by omega, Nat.le_refl _, by go_num, rfl, ⟨O7⟩, ⟨hb1.out.trans b7⟩⟩
    · obtain rfl : k = 8 := by omega
      go_wp2
      go_ret
      have h1 := hO.out
      rw [List.take_of_length_le (by rw [eightOf_len]; exact Nat.le_refl _)] at h1
      exact ⟨A, c, rfl, Byt.of_own h1 (eightOf_bs _), hb.out⟩

/-- A file of the document's at block Fg, over the bytes at R. -/
def RFile (w : World) (Fg R : Nat) (can : Int) : Prop := w.heap[Fg]? = some (.cells #[.pointer (some ⟨R, 0, none⟩), .int .u8 can] 105)

theorem rsize_any {w : World} {Fg R : Nat} {can : Int} {G : Nat → Prop} {ls : List Lp} {N : Int} (hf : RFile w Fg R can) (h : RSpan w G R ls N) :
    Calls Try.prog 19 #[.pointer (some ⟨Fg, 0, none⟩)] w fun e w' => e = .returned (.int .i64 N) ∧ w' = w := by
  obtain ⟨A, c, ht, hO, hG⟩ := h.top
  have f0 : w.cell? ⟨Fg, 0, none⟩ = some (.pointer (some ⟨R, 0, none⟩)) := cell_of_heap hf rfl
  have g1 : w.cell? ⟨R, 1, none⟩ = some (.int .i64 N) := cell_of_heap ht rfl
  clear hf h ht hO hG
  go_enter Try.func19, Try.ntmps19
  go_wp2
  go_ret
  exact ⟨rfl, rfl⟩
theorem reads_ok {w : World} {at_ n : Int} (h0 : 0 ≤ at_) (hn : 0 ≤ n) (hn2 : n ≤ 65536) :
    Calls Try.prog 62 #[.int .i64 at_, .int .i64 n] w fun e w' => e = .returned (.int .i64 0) ∧ w' = w := by
  go_enter Try.func62, Try.ntmps62
  go_wp2
  go_ret
  exact ⟨rfl, rfl⟩
theorem rread_any {w : World} {Fg R : Nat} {can : Int} {G : Nat → Prop} {ls : List Lp} {N at_ n : Int} (hf : RFile w Fg R can) (h : RSpan w G R ls N) (h0 : 0 ≤ at_) (hn : 0 < n) (hn2 : n ≤ 65536) :
    Calls Try.prog 50 #[.pointer (some ⟨Fg, 0, none⟩), .int .i64 at_, .int .i64 n] w fun e w' =>
      ∃ A k c, e = .returned (.tuple #[.slice A k c, .int .i64 0]) ∧ Byt w' w'.heap.size A k (getOf (lpcs ls) N at_ n) ∧ k ≤ c ∧ c ≤ 9223372036854775807 ∧ k ≤ 65536 ∧ Below w.heap.size w w' := by
  have f0 : w.cell? ⟨Fg, 0, none⟩ = some (.pointer (some ⟨R, 0, none⟩)) := cell_of_heap hf rfl
  have hg := box (rget_any h h0 hn hn2)
  have hr := box (fun W => reads_ok (w := W) h0 (by omega) hn2)
  clear hf h
  go_enter Try.func50, Try.ntmps50
  go_wp2_with fail
  refine (hr.out _).mono ?_
  rintro e w1 ⟨rfl, rfl⟩
  go_wp2_with fail
  refine hg.out.mono ?_
  rintro e w2 ⟨A, k, c, rfl, h1, h2, h3, h4, h5⟩
  replace h1 := box h1
  replace h5 := box h5
  go_wp2
  go_ret2
  exact ⟨A, k, c, rfl, h1.out, h2, h3, h4, h5.out⟩

theorem rtable_long {w : World} {Fg R : Nat} {can : Int} {G : Nat → Prop} {ls : List Lp} {N : Int} (hf : RFile w Fg R can) (h : RSpan w G R ls N) (hN : 4194304 < N) :
    Calls Try.prog 27 #[.pointer (some ⟨Fg, 0, none⟩)] w fun e w' => e = .returned (.tuple #[.slice none 0 0, .int .i64 3]) ∧ w' = w := by
  have hs := box (rsize_any hf h)
  clear hf h
  go_enter Try.func27, Try.ntmps27
  go_wp2_with fail
  refine hs.out.mono ?_
  rintro e w1 ⟨rfl, rfl⟩
  go_wp2
  go_ret2
  exact ⟨rfl, rfl⟩

theorem getOf_plain (ps : List Pc) (N at_ : Int) (h0 : 0 ≤ at_) : (plainRd (flat ps N) at_ 64).2 = getOf ps N at_ 64 := by
  rw [← memRd_plain]
  unfold memRd
  rw [if_neg (by omega), if_neg (by omega)]

set_option maxHeartbeats 1000000 in
theorem rtable_any {w : World} {Fg R : Nat} {can : Int} {G : Nat → Prop} {ls : List Lp} {N : Int} (hf : RFile w Fg R can) (h : RSpan w G R ls N) (hN : N ≤ 4194304) (nb : Nat) (h1 : N ≤ 64 * (nb : Int)) (h2 : ∀ k : Nat, k < nb → 64 * (k : Int) < N) :
    Calls Try.prog 27 #[.pointer (some ⟨Fg, 0, none⟩)] w fun e w' => ∃ A c, e = .returned (.tuple #[.slice A (8 * nb) c, .int .i64 0]) ∧ Byt w' w'.heap.size A (8 * nb) (tabTo (plainRd (flat (lpcs ls) N)) nb) ∧ Below w.heap.size w w' := by
  have hs := box (rsize_any hf h)
  have hrd := box (fun W (k : Nat) (hW : Below w.heap.size w W) => rread_any (w := W) (at_ := 64 * (k : Int)) (n := 64) ((hW.block Fg (lt_of_heap hf)).trans hf) (h.same hW) (by omega) (by omega) (by omega))
  have hpl := box (fun k : Nat => getOf_plain (lpcs ls) N (64 * (k : Int)) (by omega))
  have hnb : nb = 0 ∨ 64 * ((nb - 1 : Nat) : Int) < N := by
    rcases Nat.eq_zero_or_pos nb with h | h
    · exact .inl h
    · exact .inr (h2 (nb - 1) (by omega))
  have hnb2 : nb ≤ 65536 := by omega
  replace h2 := box h2
  clear hf h hnb
  go_enter Try.func27, Try.ntmps27
  go_wp2_with fail
  refine hs.out.mono ?_
  rintro e w1 ⟨rfl, rfl⟩
  go_wp2
  go_loopg [5, 6] nb (fun kx s5 s6 wr => ∃ (k : Nat) (A : Option Addr) (c : Nat), k ≤ nb ∧ nb - k ≤ kx ∧ s6 = .int .i64 (64 * (k : Int)) ∧ s5 = .slice A (8 * k) c ∧ Box (Own8 wr w1.heap.size A (8 * k) c (tabTo (plainRd (flat (lpcs ls) N)) k)) ∧ Box (Below w1.heap.size w1 wr))
  case atStart => exact ⟨0, none, 0, Nat.zero_le _, by omega, rfl, rfl, ⟨Own8.nil _ _⟩, ⟨Below.refl _ _⟩⟩
  case round =>
    obtain ⟨k, A, c, hk, hkk, rfl, rfl, hO, hbr⟩ := hrel
    by_cases hlt : k < nb
    · have g1 := h2.out k hlt
      have hr := box (hrd.out wr k hbr.out)
      have hsuc := box (tabTo_succ (plainRd (flat (lpcs ls) N)) k)
      rw [hpl.out k] at hsuc
      generalize getOf (lpcs ls) N (64 * (k : Int)) 64 = xs at *
      go_wp2_with fail
      refine hr.out.mono ?_
      rintro e w2 ⟨A2, k2, c2, rfl, hB2, hk2, hk3, hk4, hb2⟩
      have hsm := box (fun W (hW : Below w2.heap.size w2 W) => rsum_any (w := W) (c := c2) (hB2.below hW) (by omega))
      have hei := box (fun W => reight_any (w := W) (fnv_bd xs fnv0 (by decide)))
      have hO2 := box (own8_grown hO.out hb2)
      replace hB2 := box hB2
      replace hbr := box (hbr.out.trans (hb2.mono hbr.out.size))
      clear hb2 hr
      go_wp2_with fail
      refine (hsm.out _ (Below.refl _ _)).mono ?_
      rintro e w3 ⟨rfl, rfl⟩
      go_wp2_with fail
      refine (hei.out _).mono ?_
      rintro e w4 ⟨A4, c4, rfl, hB4, hb4⟩
      have hO4 := box (own8_grown hO2.out hb4)
      have hs4 := box hB4.src
      have hball := box (hbr.out.trans (hb4.mono hbr.out.size))
      clear hB4 hO2 hbr hb4
      go_wp2_with (at_builtin; refine app8 _ (.tmp 24) (.tmp 27) w1.heap.size hO4.out hs4.out rfl rfl rfl rfl (by omega) hball.out.size ?_; intro A5 c5 w5 O5 b5 s5)
      rw [← hsuc.out, show 8 * k + 8 = 8 * (k + 1) by omega] at O5
      go_roundg (nb - (k + 1))
      case measure => omega
      case rel => exact ⟨k + 1, A5, c5, by omega, Nat.le_refl _, by go_num, by rw [show 8 * (k + 1) = 8 * k + 8 by omega], ⟨O5⟩, ⟨hball.out.trans b5⟩⟩
    · obtain rfl : k = nb := by omega
      have h5 : ¬ 64 * (k : Int) < N := by omega
      go_wp2
      go_ret2
      exact ⟨A, ⟨c, rfl⟩, Byt.of_own hO.out (tabTo_bs _ _), hbr.out⟩
end Go.Proofs.Ytajfamjdfhjdeaa
