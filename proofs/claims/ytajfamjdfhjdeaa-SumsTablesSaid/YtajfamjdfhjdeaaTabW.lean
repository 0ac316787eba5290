/- mantlelaw10.SumsTables, walked. mantlelaw10.SumsTables answers true. -/
import Derived.Test.YtajfamjdfhjdeaaSameB
import Derived.Test.YtajfamjdfhjdeaaRefTab
import Derived.Test.YtajfamjdfhjdeaaNil
namespace Go.Proofs.Ytajfamjdfhjdeaa
open Go.RowKit
attribute [local go_sem ↓] Go.wp_at_zero Go.wp_at_succ

set_option maxHeartbeats 1000000 in
theorem like_any {w : World} {B H S Fg can : Nat} {ps : List Pc} {N : Int} (h : MadeAt B w H S Fg can ps N) :
    Calls Try.prog 26 #[.agg #[.pointer (some ⟨H, 0, none⟩), .pointer (some ⟨S, 0, none⟩), .pointer (some ⟨Fg, 0, none⟩)]] w fun e w' => e = .returned (.bool true) ∧ Below w.heap.size w w' := by
  obtain ⟨R, hD, hF⟩ := h.duo
  have hB := Below.alloc (Below.refl w.heap.size w) (Nat.le_refl _) (.cells #[.pointer (some ⟨H, 0, none⟩), .pointer (some ⟨S, 0, none⟩), .pointer (some ⟨Fg, 0, none⟩)] 49)
  have hH := heap_alloc_new w (.cells #[.pointer (some ⟨H, 0, none⟩), .pointer (some ⟨S, 0, none⟩), .pointer (some ⟨Fg, 0, none⟩)] 49)
  have f0 := cell_past hB (cell_of_heap (o := 0) (v := .pointer (some ⟨R, 0, none⟩)) hF rfl)
  have hsb := box (fun W (hW : Below w.heap.size w W) => sameB_any (w := W) (hD.grown hW))
  replace hB := box hB
  clear hD hF h
  go_enter Try.func26, Try.ntmps26
  go_upto_region 1 with fail
  generalize (w.alloc (.cells #[.pointer (some ⟨H, 0, none⟩), .pointer (some ⟨S, 0, none⟩), .pointer (some ⟨Fg, 0, none⟩)] 49)) = W1 at *
  have p1 : W1.cell? ⟨w.heap.size, 1, none⟩ = some (.pointer (some ⟨S, 0, none⟩)) := cell_of_heap hH rfl
  have p2 : W1.cell? ⟨w.heap.size, 2, none⟩ = some (.pointer (some ⟨Fg, 0, none⟩)) := cell_of_heap hH rfl
  go_region_held3 (fun W => W.cell? ⟨w.heap.size, 1, none⟩ = some (.pointer (some ⟨S, 0, none⟩)) ∧ W.cell? ⟨w.heap.size, 2, none⟩ = some (.pointer (some ⟨Fg, 0, none⟩)) ∧ W.cell? ⟨Fg, 0, none⟩ = some (.pointer (some ⟨R, 0, none⟩))) (first | go_keep | exact ⟨p1, p2, f0⟩ | exact ⟨cell_past hb2 p1, cell_past hb2 p2, cell_past hb2 f0⟩ | exact ⟨cell_past (below_undrew hb2) p1, cell_past (below_undrew hb2) p2, cell_past (below_undrew hb2) f0⟩)
    (((with_reducible refine Calls.mono (hsb.out _ (by first | exact hB.out | exact hB.out.drew)) ?_); rintro e w2 ⟨rfl, hb2⟩))
  all_goals
    go_wp2_with fail
    go_ret
    exact ⟨rfl, by first | exact hB.out.trans (hb2.mono hB.out.size) | exact hB.out.trans ((below_undrew hb2).mono hB.out.size)⟩

/-- What a table is told as: n bytes, xs, and an error. -/
def TabSays (n : Nat) (xs : List Int) (E : Int) (e : Ending) (w' : World) : Prop := ∃ A c, e = .returned (.tuple #[.slice A n c, .int .i64 E]) ∧ Byt w' w'.heap.size A n xs
theorem tab_both {w : World} {B H S Fg can : Nat} {ps : List Pc} {N : Int} (h : MadeAt B w H S Fg can ps N) :
    ∃ (n : Nat) (xs : List Int) (E : Int), (∀ W, Below w.heap.size w W → Calls Try.prog 12 #[.pointer (some ⟨H, 0, none⟩)] W fun e w' => TabSays n xs E e w' ∧ Below W.heap.size W w') ∧
      (∀ W, Below w.heap.size w W → Calls Try.prog 27 #[.pointer (some ⟨Fg, 0, none⟩)] W fun e w' => TabSays n xs E e w' ∧ Below W.heap.size W w') := by
  have key : ∀ W, Below w.heap.size w W → (Open W H can N (plainRd (flat ps N))) ∧ ∃ R G ms, RFile W Fg R (can : Int) ∧ RSpan W G R ms N ∧ lpcs ms = ps := fun W hW => by
    obtain ⟨⟨P, Fm, h1, h2⟩, R, h3, h4⟩ := h.grown hW
    obtain ⟨F, ls, G, ms, g1, g2, g3, g4, _⟩ := h3
    exact ⟨open_mem h1 h2, R, G, ms, h4, g2, g4⟩
  have hN : 0 ≤ N := by
    obtain ⟨_, R, ⟨F, ls, G, ms, g1, _⟩, _⟩ := h
    exact g1.n0
  by_cases hl : 4194304 < N
  · refine ⟨0, [], 3, fun W hW => ?_, fun W hW => ?_⟩
    · exact (table_long (key W hW).1 hl).mono fun e w' ⟨h1, h2⟩ => ⟨⟨none, 0, h1, Byt.none_⟩, h2⟩
    · obtain ⟨_, R, G, ms, g1, g2, _⟩ := key W hW
      exact (rtable_long g1 g2 hl).mono fun e w' ⟨h1, h2⟩ => ⟨⟨none, 0, h1, Byt.none_⟩, by rw [h2]; exact Below.refl _ _⟩
  · obtain ⟨nb, hnb⟩ : ∃ nb : Nat, (nb : Int) = (N + 63) / 64 := ⟨((N + 63) / 64).toNat, by omega⟩
    refine ⟨8 * nb, tabTo (plainRd (flat ps N)) nb, 0, fun W hW => ?_, fun W hW => ?_⟩
    · exact (table_any (key W hW).1 (by omega) nb (by omega) (fun k hk => ⟨by omega, by unfold plainRd; rw [if_neg (by omega), if_neg (by omega)]⟩)).mono fun e w' ⟨A, c, h1, h2, h3⟩ => ⟨⟨A, c, h1, Byt.of_own h2 (tabTo_bs _ _)⟩, h3⟩
    · obtain ⟨_, R, G, ms, g1, g2, rfl⟩ := key W hW
      exact (rtable_any g1 g2 (by omega) nb (by omega) (fun k hk => by omega)).mono fun e w' ⟨A, c, h1, h2, h3⟩ => ⟨⟨A, c, h1, h2⟩, h3⟩

@[go_sem] theorem mem_build (A : Option Addr) (n c : Nat) (w : World) : (Instr.build 43 #[(0, .slice A n c)]).run Try.prog w = .ok (.agg #[.slice A n c, .slice none 0 0, .int .u8 0]) w := run_build w 43 _ _ (by kernel_rfl)

theorem great_two {W : World} {g B n c : Nat} {A : Option Addr} {zs : List Int} {v : MemV} (hg : W.heap[g]? = some (.cells #[.slice v.A v.l v.c, .slice v.A2 v.xs.length v.c2, .int .u8 (v.can : Int), .slice A n c, .slice none 0 0, .int .u8 0] 43)) (hM : MemIn W B v) (hB : B ≤ W.heap.size) (hF : v.fits)
    (hb : Byt W B A n zs) (hn : n ≤ 140737488355328) (hc : n ≤ c) (hc2 : c ≤ 9223372036854775807) :
    Calls Try.prog 15 #[.int .i64 200, .slice (some ⟨g, 0, none⟩) 2 2, .slice none 0 0] W fun e w' => GreatSays [v, ⟨A, n, c, zs, none, 0, [], 0⟩] e ∧ Below W.heap.size W w' := by
  refine great_any (o := 0) (B := W.heap.size) (c := 2) (nn := 200) (vs := [v, ⟨A, n, c, zs, none, 0, [], 0⟩]) (fun i x hx => ?_) (Nat.le_refl _) (lt_of_heap hg) (fun x hx => ?_) (by omega) (by simp)
  · match i, hx with
    | 0, hx =>
      rw [List.getElem?_cons_zero] at hx
      cases hx
      exact ⟨cell_of_heap hg rfl, cell_of_heap hg rfl, hM.more hB⟩
    | 1, hx =>
      rw [List.getElem?_cons_succ, List.getElem?_cons_zero] at hx
      cases hx
      exact ⟨cell_of_heap hg rfl, cell_of_heap hg rfl, ⟨hc, hc2, hb.more hB, Nat.le_refl _, by show 0 ≤ _; omega, fun h => absurd h (Nat.lt_irrefl 0), by show 0 < 256; omega⟩⟩
    | i + 2, hx => simp at hx
  · rcases List.mem_cons.1 hx with rfl | hx
    · exact hF
    · rw [List.mem_singleton.1 hx]
      exact ⟨hn, by show 0 ≤ _; omega, fun y hy => by cases hy⟩
end Go.Proofs.Ytajfamjdfhjdeaa

namespace Go.Proofs.Ytajfamjdfhjdeaa
open Go.RowKit
attribute [local go_sem ↓] Go.wp_at_zero Go.wp_at_succ

set_option maxHeartbeats 8000000 in
set_option maxRecDepth 100000 in
theorem tabs_any {w : World} {v : MemV} {A : Option Addr} {n c : Nat} {zs : List Int} (h : MemIn w w.heap.size v) (hf : v.fits) (hb : Byt w w.heap.size A n zs) (hn : n ≤ 140737488355328) (hc : n ≤ c) (hc2 : c ≤ 9223372036854775807) :
    Calls Try.prog 7 #[.slice A n c, .agg #[.slice v.A v.l v.c, .slice v.A2 v.xs.length v.c2, .int .u8 (v.can : Int)]] w fun e w' => e = .returned (.bool true) ∧ Below w.heap.size w w' := by
  have hM := box h
  have hF := box hf
  have hby := box hb
  clear h hf hb
  go_enter Try.func7, Try.ntmps7
  go_upto_region 1 with fail
  have hB0 := Below.alloc (Below.refl w.heap.size w) (Nat.le_refl _) (.cells #[.slice v.A v.l v.c, .slice v.A2 v.xs.length v.c2, .int .u8 (v.can : Int)] 43)
  have hH0 := heap_alloc_new w (.cells #[.slice v.A v.l v.c, .slice v.A2 v.xs.length v.c2, .int .u8 (v.can : Int)] 43)
  generalize (w.alloc (.cells #[.slice v.A v.l v.c, .slice v.A2 v.xs.length v.c2, .int .u8 (v.can : Int)] 43)) = W0 at *
  obtain ⟨mb, hmb⟩ : ∃ mb, w.heap.size = mb := ⟨_, rfl⟩
  rw [hmb] at hH0 hB0 ⊢
  have m0 : W0.cell? ⟨mb, 0, none⟩ = some (.slice v.A v.l v.c) := cell_of_heap hH0 rfl
  have m1 : W0.cell? ⟨mb, 1, none⟩ = some (.slice v.A2 v.xs.length v.c2) := cell_of_heap hH0 rfl
  have m2 : W0.cell? ⟨mb, 2, none⟩ = some (.int .u8 (v.can : Int)) := cell_of_heap hH0 rfl
  have hB1 := Below.alloc (Below.refl W0.heap.size W0) (Nat.le_refl _) (.cells #[.slice v.A v.l v.c, .slice v.A2 v.xs.length v.c2, .int .u8 (v.can : Int), .slice A n c, .slice none 0 0, .int .u8 0] 43)
  have hH1 := heap_alloc_new W0 (.cells #[.slice v.A v.l v.c, .slice v.A2 v.xs.length v.c2, .int .u8 (v.can : Int), .slice A n c, .slice none 0 0, .int .u8 0] 43)
  have hmbl := lt_of_heap hH0
  have hB01 := (hmb.symm ▸ hB0 : Below w.heap.size w W0).trans (hB1.mono (by omega))
  have hg := box (great_two (zs := zs) hH1 (hM.out.below hB01) (by simp; omega) hF.out (hby.out.below hB01) hn hc hc2)
  replace hH0 := box hH0
  replace hB0 := box hB0
  replace hB1 := box hB1
  clear hH1
  go_upto_if 15 with ((with_reducible refine Calls.mono hg.out ?_); rintro e w2 ⟨⟨r, rfl, hr⟩, hb2⟩)
  have hwk := box (fun W => wakes_any W)
  have hB2 : Below w.heap.size w w2 := hB01.trans (hb2.mono (by simp; omega))
  have hMw2 := hM.out.below hB2
  have h2 := ((hB1.out.trans (hb2.mono (by simp))).block mb hmbl).trans hH0.out
  have n0 : w2.cell? ⟨mb, 0, none⟩ = some (.slice v.A v.l v.c) := cell_of_heap h2 rfl
  have n1 : w2.cell? ⟨mb, 1, none⟩ = some (.slice v.A2 v.xs.length v.c2) := cell_of_heap h2 rfl
  have n2 : w2.cell? ⟨mb, 2, none⟩ = some (.int .u8 (v.can : Int)) := cell_of_heap h2 rfl
  replace h2 := box h2
  replace hMw2 := box hMw2
  replace hB2 := box hB2
  clear m0 m1 m2 hg hB1 hb2 hB01
  cases r
  · have hsz : v.sz ≤ 131072 := hr rfl v List.mem_cons_self
    have hnz : n ≤ 131072 := by
      have h9 := hr rfl ⟨A, n, c, zs, none, 0, [], 0⟩ (List.mem_cons_of_mem _ List.mem_cons_self)
      have h8 : n + 0 + 0 ≤ 131072 := h9
      omega
    have hmd := box (made_any (hMw2.out.more hB2.out.size) hsz)
    clear hr
    go_upto_region 4 with (with_reducible (refine Calls.mono hmd.out ?_); rintro e w3 ⟨H, S, Fg, ps, N, rfl, hMA, hb3⟩)
    have hPb := heap_alloc_new w3 (.cells #[.pointer (some ⟨H, 0, none⟩), .pointer (some ⟨S, 0, none⟩), .pointer (some ⟨Fg, 0, none⟩)] 49)
    have hP3 := Below.alloc (Below.refl w3.heap.size w3) (Nat.le_refl _) (.cells #[.pointer (some ⟨H, 0, none⟩), .pointer (some ⟨S, 0, none⟩), .pointer (some ⟨Fg, 0, none⟩)] 49)
    have hB4 := (hB2.out.trans (hb3.mono hB2.out.size)).trans (hP3.mono (Nat.le_trans hB2.out.size hb3.size))
    have hMA4 := hMA.grown hP3
    generalize (w3.alloc (.cells #[.pointer (some ⟨H, 0, none⟩), .pointer (some ⟨S, 0, none⟩), .pointer (some ⟨Fg, 0, none⟩)] 49)) = w4 at *
    obtain ⟨pb, hpbe⟩ : ∃ pb, w3.heap.size = pb := ⟨_, rfl⟩
    rw [hpbe] at hPb ⊢
    have hBe := Below.alloc (Below.refl w4.heap.size w4) (Nat.le_refl _) (.cells #[] 5)
    have hOL : Own8 (w4.alloc (.cells #[] 5)) w4.heap.size (some ⟨w4.heap.size, 0, none⟩) 0 0 [] := World.ownsRow_lit w4 #[] 0 (Nat.le_refl _) (by decide) rfl
    have hs4 := ((hby.out.below hB4).grown hBe).src
    replace hPb := box hPb
    replace hB4 := box hB4
    replace hMA4 := box hMA4
    replace hBe := box hBe
    replace hOL := box hOL
    replace hs4 := box hs4
    clear n0 n1 n2 h2 hMA hb3 hP3 hmd hMw2
    go_upto_region 5 with (at_builtin; refine app8 _ (.tmp 19) (.tmp 20) w4.heap.size hOL.out hs4.out rfl rfl rfl rfl (by omega) hBe.out.size ?_; intro A5 c5 w5 O5 b5 s5; rw [Nat.zero_add] at O5; have O5' : Own8 w5 w4.heap.size A5 n c5 zs := O5; clear O5)
    have hb5 := hBe.out.trans b5
    have hmine := Byt.of_own O5' hby.out.bs
    have hMA5 := hMA4.out.grown hb5
    have hP5 := (hb5.block pb (lt_of_heap hPb.out)).trans hPb.out
    have hB5 := hB4.out.trans (hb5.mono hB4.out.size)
    have p0 : w5.cell? ⟨pb, 0, none⟩ = some (.pointer (some ⟨H, 0, none⟩)) := cell_of_heap hP5 rfl
    obtain ⟨tn, tx, tE, ht1, ht2⟩ := tab_both hMA5
    have ht1' := box (ht1 w5 (Below.refl _ _))
    replace ht2 := box ht2
    replace hmine := box hmine
    replace hMA5 := box hMA5
    replace hP5 := box hP5
    replace hB5 := box hB5
    clear ht1 b5 s5 O5' hMA4 hPb hBe hOL hs4 hb5
    go_upto_region 6 with ((with_reducible refine Calls.mono ht1'.out ?_); rintro e w6 ⟨⟨A6, c6, rfl, hy6⟩, hb6⟩)
    have hP6 := (hb6.block pb (lt_of_heap hP5.out)).trans hP5.out
    have p2 : w6.cell? ⟨pb, 2, none⟩ = some (.pointer (some ⟨Fg, 0, none⟩)) := cell_of_heap hP6 rfl
    have ht2' := box (ht2.out w6 hb6)
    replace hy6 := box hy6
    replace hb6 := box hb6
    replace hP6 := box hP6
    clear ht1' ht2 p0
    go_upto_region 7 with ((with_reducible refine Calls.mono ht2'.out ?_); rintro e w7 ⟨⟨A7, c7, rfl, hy7⟩, hb7⟩)
    have hb57 := hb6.out.trans (hb7.mono hb6.out.size)
    have hP7 := (hb7.block pb (lt_of_heap hP6.out)).trans hP6.out
    have hmi7 := hmine.out.below hb57
    have hbb7 := (hby.out.below hB5.out).below (hb57.mono hB5.out.size)
    have hy67 := hy6.out.below hb7
    have hB7 := hB5.out.trans (hb57.mono hB5.out.size)
    have hMA7 := hMA5.out.grown hb57
    have c1 := Lib.BytesIn.convert (P := Try.prog) hmi7.lib hmi7.len c5 22 5 9 Try.underlying22 Try.underlying5 Try.underlying9
    have c2 := Lib.BytesIn.convert (P := Try.prog) hbb7.lib hbb7.len c 22 5 9 Try.underlying22 Try.underlying5 Try.underlying9
    have c3 := Lib.BytesIn.convert (P := Try.prog) hy67.lib hy67.len c6 22 5 9 Try.underlying22 Try.underlying5 Try.underlying9
    have c4 := Lib.BytesIn.convert (P := Try.prog) hy7.lib hy7.len c7 22 5 9 Try.underlying22 Try.underlying5 Try.underlying9
    have hs1 := box (sum_any (w := w7) (c := c5) hmi7 (by omega))
    have hs2 := box (rsum_any (w := w7) (c := c) hbb7 (by omega))
    have hlk := box (like_any hMA7)
    have q0 : w7.cell? ⟨pb, 0, none⟩ = some (.pointer (some ⟨H, 0, none⟩)) := cell_of_heap hP7 rfl
    have q1 : w7.cell? ⟨pb, 1, none⟩ = some (.pointer (some ⟨S, 0, none⟩)) := cell_of_heap hP7 rfl
    have q2 : w7.cell? ⟨pb, 2, none⟩ = some (.pointer (some ⟨Fg, 0, none⟩)) := cell_of_heap hP7 rfl
    replace hB7 := box hB7
    generalize strOfNums zs = sz at *
    generalize strOfNums tx = st at *
    generalize fnv fnv0 zs = fz at *
    clear hb57 hP7 hmi7 hbb7 hy67 hMA7 hy7 hb7 hy6 hb6 hP6 p2 ht2' hmine hMA5 hP5 hB5
    go_wp2_with (first
      | ((with_reducible refine Calls.mono hs1.out ?_); rintro e w8 ⟨rfl, rfl⟩)
      | ((with_reducible refine Calls.mono hs2.out ?_); rintro e w8 ⟨rfl, rfl⟩)
      | ((with_reducible refine Calls.mono hlk.out ?_); rintro e w9 ⟨rfl, hb9⟩; replace hb9 := box hb9)
      | ((with_reducible refine Calls.mono (hwk.out _) ?_); rintro e w10 ⟨rfl, hb10⟩; replace hb10 := box hb10))
    go_ret
    exact ⟨rfl, (hB7.out.trans (hb9.out.mono hB7.out.size)).trans (hb10.out.mono (Nat.le_trans hB7.out.size hb9.out.size))⟩
  · go_wp2_with (with_reducible (refine Calls.mono (hwk.out _) ?_); rintro e w3 ⟨rfl, hb3⟩)
    go_ret
    exact ⟨rfl, hB2.out.trans (hb3.mono hB2.out.size)⟩
end Go.Proofs.Ytajfamjdfhjdeaa
