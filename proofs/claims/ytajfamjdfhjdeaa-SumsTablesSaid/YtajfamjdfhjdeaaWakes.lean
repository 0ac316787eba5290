/- mantlelaw10.wakes answers true. -/
import Derived.Test.YtajfamjdfhjdeaaSumNew
namespace Go.Proofs.Ytajfamjdfhjdeaa
open Go.RowKit

theorem sum_nil (w : World) : Calls Try.prog 10 #[.slice none 0 0] w fun e w' => e = .returned (.int .u64 14695981039346656037) ∧ w' = w :=
  (sum_any (c := 0) (zs := []) (B := 0) Byt.none_ (by omega)).mono fun _ _ ⟨h, g⟩ => ⟨h, g⟩
theorem sum_a {w : World} {A : Option Addr} {B c : Nat} (h : Byt w B A 1 [97]) : Calls Try.prog 10 #[.slice A 1 c] w fun e w' => e = .returned (.int .u64 12638187200555641996) ∧ w' = w :=
  (sum_any (c := c) h (by omega)).mono fun _ _ ⟨h, g⟩ => ⟨h.trans (ret_int (by decide +kernel)), g⟩

theorem new15 {w : World} {A : Option Addr} {n c B : Nat} {zs : List Int} (h : Byt w B A n zs) (hn : n ≤ 4194304) (hnc : n ≤ c) :
    Calls Try.prog 11 #[.slice A n c, .int .u8 15] w fun e w' =>
      ∃ H, e = .returned (.tuple #[.pointer (some ⟨H, 0, none⟩), .int .i64 0]) ∧ w.heap.size ≤ H ∧ Open w' H 15 (n : Int) (plainRd zs) ∧ Below w.heap.size w w' :=
  new_any (can := 15) h hn hnc (by omega)

theorem wakes_do1 {w : World} {H P m b Ha Ht : Nat} (hN : Hand w H P m 77 (.pointer (some ⟨b, 0, none⟩))) (hS : SumAt w b Ha Ht) (oa : Open w Ha 15 ((3 : Nat) : Int) (plainRd [97, 98, 99])) (ot : Open w Ht 15 ((0 : Nat) : Int) (plainRd [])) :
    Calls Try.prog 14 #[.pointer (some ⟨H, 0, none⟩), .agg #[.int .i8 1, .int .i64 0, .int .i64 1, .slice none 0 0]] w fun e w' =>
      ∃ A k c, e = .returned (.agg #[.int .i64 100, .int .i64 0, .int .i64 0, .slice A k c]) ∧ Below w.heap.size w w' := by
  refine (do_read_grown hN 105 0 1 100 [] (.slice none 0 0) (fun fuel W => sumRow_read fuel b W) (fun _ _ => by kernel_rfl) (fun W hW => ?_)).mono fun e w' ⟨A, k, c, h1, _, _, _, h2⟩ => ⟨A, k, c, h1, h2⟩
  refine (sumRead_bad (w := W) (xs := [97, 98, 99]) (ys := []) ((hW.block b (lt_of_heap hS)).trans hS) (oa.grown hW) (ot.grown hW) (by omega) (by omega) (by decide) (by decide) ?_).mono fun e w' ⟨h1, h2⟩ => ⟨none, 0, 0, h1, Byt.none_, by omega, h2⟩
  intro h
  have := congrArg List.length h
  rw [eightOf_len] at this
  cases this
theorem wakes_do2 {w : World} {H P m b Ha Ht : Nat} (hN : Hand w H P m 77 (.pointer (some ⟨b, 0, none⟩))) (hS : SumAt w b Ha Ht) (oa : Open w Ha 15 ((3 : Nat) : Int) (plainRd [97, 98, 99])) :
    Calls Try.prog 14 #[.pointer (some ⟨H, 0, none⟩), .agg #[.int .i8 1, .int .i64 3, .int .i64 1, .slice none 0 0]] w fun e w' =>
      ∃ A k c, e = .returned (.agg #[.int .i64 0, .int .i64 0, .int .i64 0, .slice A k c]) ∧ Below w.heap.size w w' := by
  refine (do_read_grown hN 105 3 1 0 [] (.slice none 0 0) (fun fuel W => sumRow_read fuel b W) (fun _ _ => by kernel_rfl) (fun W hW => ?_)).mono fun e w' ⟨A, k, c, h1, _, _, _, h2⟩ => ⟨A, k, c, h1, h2⟩
  exact (sumRead_far (w := W) ((hW.block b (lt_of_heap hS)).trans hS) (oa.grown hW) (by omega) (by omega) (by omega) (by omega)).mono fun e w' ⟨h1, h2⟩ => ⟨none, 0, 0, h1, Byt.none_, by omega, h2⟩
theorem wakes_table {w : World} {Ha : Nat} (oa : Open w Ha 15 ((3 : Nat) : Int) (plainRd [97, 98, 99])) :
    Calls Try.prog 12 #[.pointer (some ⟨Ha, 0, none⟩)] w fun e w' => ∃ A c, e = .returned (.tuple #[.slice A 8 c, .int .i64 0]) ∧ Below w.heap.size w w' :=
  (table_any oa (by omega) 1 (by omega) (fun k hk => by
    obtain rfl : k = 0 := by omega
    exact ⟨by omega, by decide⟩)).mono fun e w' ⟨A, c, h1, _, h2⟩ => ⟨A, c, h1, h2⟩

set_option maxHeartbeats 4000000 in
set_option maxRecDepth 100000 in
theorem wakes_any (w : World) : Calls Try.prog 9 #[] w fun e w' => e = .returned (.bool true) ∧ Below w.heap.size w w' := by
  have kc := fun (w : World) (C : Array Value) (n c : Nat) => Lib.run_convert_bytes_const (P := Try.prog) w 22 5 C n c Try.underlying22 Try.underlying5
  have hby := box (Byt.newm w 5 (3, 4) [97, 98, 99] #[.int .u8 97, .int .u8 98, .int .u8 99] rfl (Bs.cons (by decide) (Bs.cons (by decide) (Bs.cons (by decide) Bs.nil))) 3 rfl)
  have hb0 := box (Below.alloc (Below.refl w.heap.size w) (Nat.le_refl _) (.cells #[.int .u8 97, .int .u8 98, .int .u8 99] 5 (3, 4)))
  go_enter Try.func9, Try.ntmps9
  go_wp2_with fail
  refine (new15 (n := 3) (c := 3) hby.out (by omega) (by omega)).mono ?_
  rintro e w1 ⟨Ha, rfl, hHa, oa, hb1⟩
  replace oa := box oa
  replace hb1 := box (hb0.out.trans (hb1.mono (by simp)))
  clear hby hb0
  go_wp2_with fail
  refine (new15 (n := 0) (c := 0) (B := 0) (zs := []) Byt.none_ (by omega) (by omega)).mono ?_
  rintro e w2 ⟨Ht, rfl, hHt, ot, hb2⟩
  replace ot := box ot
  replace hb1 := box (hb1.out.trans (hb2.mono hb1.out.size))
  replace oa := box (oa.out.grown hb2)
  clear hb2 hHa hHt
  go_wp2_with fail
  refine (sumNew_any oa.out ot.out).mono ?_
  rintro e w3 ⟨H, P, b, rfl, hN, hS, hbb, hb3⟩
  replace hb1 := box (hb1.out.trans (hb3.mono hb1.out.size))
  replace oa := box (oa.out.grown hb3)
  replace ot := box (ot.out.grown hb3)
  replace hN := box hN.hand
  replace hS := box hS
  clear hb3 hbb
  go_wp2_with fail
  refine (wakes_do1 hN.out hS.out oa.out ot.out).mono ?_
  rintro e w4 ⟨A4, k4, c4, rfl, hb4⟩
  have hb5 := hb4.alloc hb4.size (.cells #[.int .i64 100, .int .i64 0, .int .i64 0, .slice A4 k4 c4] 38)
  have x0 : (w4.alloc (.cells #[.int .i64 100, .int .i64 0, .int .i64 0, .slice A4 k4 c4] 38)).cell? ⟨w4.heap.size, 0, none⟩ = some (.int .i64 100) := cell_of_heap (heap_alloc_new _ _) rfl
  obtain ⟨W5, hW5⟩ : ∃ W5, W5 = w4.alloc (.cells #[.int .i64 100, .int .i64 0, .int .i64 0, .slice A4 k4 c4] 38) := ⟨_, rfl⟩
  rw [← hW5] at hb5 x0
  replace hb1 := box (hb1.out.trans (hb5.mono hb1.out.size))
  replace oa := box (oa.out.grown hb5)
  replace hS := box ((hb5.block b (lt_of_heap hS.out)).trans hS.out)
  replace hN := box (hN.out.grown hb5)
  replace x0 := box x0
  have hw4 := box (show w4.heap.size < W5.heap.size by rw [hW5]; simp)
  clear hb4 hb5 ot
  go_wp2_with fail
  rw [← hW5]
  clear hW5
  refine (wakes_do2 hN.out hS.out oa.out).mono ?_
  rintro e w6 ⟨A6, k6, c6, rfl, hb6⟩
  have hb7 := hb6.alloc hb6.size (.cells #[.int .i64 0, .int .i64 0, .int .i64 0, .slice A6 k6 c6] 38)
  have y0 : (w6.alloc (.cells #[.int .i64 0, .int .i64 0, .int .i64 0, .slice A6 k6 c6] 38)).cell? ⟨w6.heap.size, 0, none⟩ = some (.int .i64 0) := cell_of_heap (heap_alloc_new _ _) rfl
  obtain ⟨W7, hW7⟩ : ∃ W7, W7 = w6.alloc (.cells #[.int .i64 0, .int .i64 0, .int .i64 0, .slice A6 k6 c6] 38) := ⟨_, rfl⟩
  rw [← hW7] at hb7 y0
  replace hb1 := box (hb1.out.trans (hb7.mono hb1.out.size))
  replace oa := box (oa.out.grown hb7)
  replace x0 := box (cell_past hb7 x0.out)
  replace y0 := box y0
  clear hb6 hb7 hN hS hw4
  go_wp2_with fail
  rw [← hW7]
  clear hW7
  refine (wakes_table oa.out).mono ?_
  rintro e w8 ⟨A8, c8, rfl, hb8⟩
  replace hb1 := box (hb1.out.trans (hb8.mono hb1.out.size))
  replace x0 := box (cell_past hb8 x0.out)
  replace y0 := box (cell_past hb8 y0.out)
  clear hb8 oa
  go_wp2_with fail
  refine (sum_nil _).mono ?_
  rintro e w9 ⟨rfl, rfl⟩
  have ha := box (Byt.newm w9 5 (1, 2) [97] #[.int .u8 97] rfl (Bs.cons (by decide) Bs.nil) 1 rfl)
  have hb9 := Below.alloc (Below.refl w9.heap.size w9) (Nat.le_refl _) (.cells #[.int .u8 97] 5 (1, 2))
  have z0 := cell_past hb9 x0.out
  have z1 := cell_past hb9 y0.out
  replace hb1 := box (hb1.out.trans (hb9.mono hb1.out.size))
  clear x0 y0
  go_wp2_with fail
  refine (sum_a ha.out).mono ?_
  rintro e w10 ⟨rfl, rfl⟩
  go_wp2_with fail
  go_ret
  exact ⟨rfl, hb1.out⟩
end Go.Proofs.Ytajfamjdfhjdeaa
