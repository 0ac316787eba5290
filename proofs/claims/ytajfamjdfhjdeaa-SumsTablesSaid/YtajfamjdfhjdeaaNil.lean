/- mantlelaw10.SumsNil, walked. -/
import Derived.Test.YtajfamjdfhjdeaaMade
import Derived.Test.YtajfamjdfhjdeaaWakes
namespace Go.Proofs.Ytajfamjdfhjdeaa
open Go.RowKit
attribute [local go_sem ↓] Go.wp_at_zero Go.wp_at_succ

theorem sumNew_nil1 (p : Option Addr) (w : World) : Calls Try.prog 13 #[.pointer none, .pointer p] w fun e w' => e = .returned (.tuple #[.pointer none, .int .i64 1]) ∧ w' = w := by
  go_enter Try.func13, Try.ntmps13
  go_wp2
  go_ret2
  exact ⟨rfl, rfl⟩
theorem sumNew_nil2 (p : Option Addr) (w : World) : Calls Try.prog 13 #[.pointer p, .pointer none] w fun e w' => e = .returned (.tuple #[.pointer none, .int .i64 1]) ∧ w' = w := by
  rcases p with _ | ⟨b, o, s⟩
  · exact sumNew_nil1 none w
  · go_enter Try.func13, Try.ntmps13
    go_wp2
    go_ret2
    exact ⟨rfl, rfl⟩
theorem table_nil (w : World) : Calls Try.prog 12 #[.pointer none] w fun e w' => e = .returned (.tuple #[.slice none 0 0, .int .i64 1]) ∧ w' = w := by
  go_enter Try.func12, Try.ntmps12
  go_wp2
  go_ret2
  exact ⟨rfl, rfl⟩

theorem MemIn.more {w : World} {B B' : Nat} {v : MemV} (h : MemIn w B v) (hB : B ≤ B') : MemIn w B' v :=
  ⟨h.cap, h.max, h.byt.more hB, h.cap2, h.max2, fun hn => by
    obtain ⟨b, o, e, hb, hx⟩ := h.ops hn
    exact ⟨b, o, e, by omega, fun i x hi => by
      have g := hx i x hi
      exact ⟨g.c0, g.c1, g.c2, g.c3, g.cap, g.max, g.byt.more hB⟩⟩, h.can⟩
theorem great_one {W : World} {g B : Nat} {v : MemV} (hg : W.heap[g]? = some (.cells #[.slice v.A v.l v.c, .slice v.A2 v.xs.length v.c2, .int .u8 (v.can : Int)] 43)) (hM : MemIn W B v) (hB : B ≤ W.heap.size) (hF : v.fits) :
    Calls Try.prog 15 #[.int .i64 200, .slice (some ⟨g, 0, none⟩) 1 1, .slice none 0 0] W fun e w' => GreatSays [v] e ∧ Below W.heap.size W w' := by
  refine great_any (o := 0) (B := W.heap.size) (c := 1) (nn := 200) (vs := [v]) (fun i x hx => ?_) (Nat.le_refl _) (lt_of_heap hg) (fun x hx => by rw [List.mem_singleton.1 hx]; exact hF) (by omega) (by simp)
  cases i with
  | succ i => simp at hx
  | zero =>
    rw [List.getElem?_cons_zero] at hx
    cases hx
    exact ⟨cell_of_heap hg rfl, cell_of_heap hg rfl, hM.more hB⟩

set_option maxHeartbeats 4000000 in
set_option maxRecDepth 100000 in
theorem nil_any {w : World} {v : MemV} (h : MemIn w w.heap.size v) (hf : v.fits) :
    Calls Try.prog 5 #[.agg #[.slice v.A v.l v.c, .slice v.A2 v.xs.length v.c2, .int .u8 (v.can : Int)]] w fun e w' => e = .returned (.bool true) ∧ Below w.heap.size w w' := by
  have hM := box h
  have hF := box hf
  clear h hf
  go_enter Try.func5, Try.ntmps5
  go_upto_region 1 with fail
  have hB0 := Below.alloc (Below.refl w.heap.size w) (Nat.le_refl _) (.cells #[.slice v.A v.l v.c, .slice v.A2 v.xs.length v.c2, .int .u8 (v.can : Int)] 43)
  have hH0 := heap_alloc_new w (.cells #[.slice v.A v.l v.c, .slice v.A2 v.xs.length v.c2, .int .u8 (v.can : Int)] 43)
  generalize (w.alloc (.cells #[.slice v.A v.l v.c, .slice v.A2 v.xs.length v.c2, .int .u8 (v.can : Int)] 43)) = W0 at *
  obtain ⟨mb, hmb⟩ : ∃ mb, w.heap.size = mb := ⟨_, rfl⟩
  rw [hmb] at hH0 hB0 ⊢
  have m0 : W0.cell? ⟨mb, 0, none⟩ = some (.slice v.A v.l v.c) := cell_of_heap hH0 rfl
  have m1 : W0.cell? ⟨mb, 1, none⟩ = some (.slice v.A2 v.xs.length v.c2) := cell_of_heap hH0 rfl
  have m2 : W0.cell? ⟨mb, 2, none⟩ = some (.int .u8 (v.can : Int)) := cell_of_heap hH0 rfl
  have hB1 := Below.alloc (Below.refl W0.heap.size W0) (Nat.le_refl _) (.cells #[.slice v.A v.l v.c, .slice v.A2 v.xs.length v.c2, .int .u8 (v.can : Int)] 43)
  have hH1 := heap_alloc_new W0 (.cells #[.slice v.A v.l v.c, .slice v.A2 v.xs.length v.c2, .int .u8 (v.can : Int)] 43)
  have hmbl := lt_of_heap hH0
  have hM1 : MemIn (W0.alloc (.cells #[.slice v.A v.l v.c, .slice v.A2 v.xs.length v.c2, .int .u8 (v.can : Int)] 43)) w.heap.size v := (hM.out.below (hmb.symm ▸ hB0)).below (hB1.mono (by omega))
  have hg := box (great_one hH1 hM1 (by simp; omega) hF.out)
  replace hM1 := box hM1
  replace hH0 := box hH0
  replace hB0 := box hB0
  replace hB1 := box hB1
  clear hH1
  go_upto_if 13 with ((with_reducible refine Calls.mono hg.out ?_); rintro e w2 ⟨⟨r, rfl, hr⟩, hb2⟩)
  have hwk := box (fun W => wakes_any W)
  have hMw2 := (hM.out.below (hmb.symm ▸ hB0.out)).below ((hB1.out.mono (Nat.le_refl _)).trans (hb2.mono (by simp)) |>.mono (show w.heap.size ≤ W0.heap.size by omega))
  have h2 := ((hB1.out.trans (hb2.mono (by simp))).block mb hmbl).trans hH0.out
  have hB2 : Below w.heap.size w w2 := (hmb.symm ▸ hB0.out).trans ((hB1.out.trans (hb2.mono (by simp))).mono (by omega))
  have n0 : w2.cell? ⟨mb, 0, none⟩ = some (.slice v.A v.l v.c) := cell_of_heap h2 rfl
  have n1 : w2.cell? ⟨mb, 1, none⟩ = some (.slice v.A2 v.xs.length v.c2) := cell_of_heap h2 rfl
  have n2 : w2.cell? ⟨mb, 2, none⟩ = some (.int .u8 (v.can : Int)) := cell_of_heap h2 rfl
  replace h2 := box h2
  replace hMw2 := box hMw2
  replace hB2 := box hB2
  clear m0 m1 m2 hg hM1 hB1 hb2
  cases r
  · have hsz : v.sz ≤ 131072 := hr rfl v List.mem_cons_self
    have hmd := box (made_any (hMw2.out.more hB2.out.size) hsz)
    clear hr
    go_upto_region 4 with (with_reducible (refine Calls.mono hmd.out ?_); rintro e w3 ⟨H, S, Fg, ps, N, rfl, hMA, hb3⟩)
    have hPb := heap_alloc_new w3 (.cells #[.pointer (some ⟨H, 0, none⟩), .pointer (some ⟨S, 0, none⟩), .pointer (some ⟨Fg, 0, none⟩)] 49)
    have hP3 := Below.alloc (Below.refl w3.heap.size w3) (Nat.le_refl _) (.cells #[.pointer (some ⟨H, 0, none⟩), .pointer (some ⟨S, 0, none⟩), .pointer (some ⟨Fg, 0, none⟩)] 49)
    have hB4 := (hB2.out.trans (hb3.mono hB2.out.size)).trans (hP3.mono (Nat.le_trans hB2.out.size hb3.size))
    generalize (w3.alloc (.cells #[.pointer (some ⟨H, 0, none⟩), .pointer (some ⟨S, 0, none⟩), .pointer (some ⟨Fg, 0, none⟩)] 49)) = w4 at *
    have p0 : w4.cell? ⟨w3.heap.size, 0, none⟩ = some (.pointer (some ⟨H, 0, none⟩)) := cell_of_heap hPb rfl
    have hn1 := box (fun p W => sumNew_nil1 p W)
    have hn2 := box (fun p W => sumNew_nil2 p W)
    have hn3 := box (fun W => table_nil W)
    replace hB4 := box hB4
    clear n0 n1 n2 h2 hMA hb3 hPb hP3 hmd hMw2
    go_wp2_with (first
      | ((with_reducible refine Calls.mono (hn1.out _ _) ?_); rintro e w5 ⟨rfl, rfl⟩)
      | ((with_reducible refine Calls.mono (hn2.out _ _) ?_); rintro e w5 ⟨rfl, rfl⟩)
      | ((with_reducible refine Calls.mono (hn3.out _) ?_); rintro e w5 ⟨rfl, rfl⟩)
      | ((with_reducible refine Calls.mono (hwk.out _) ?_); rintro e w9 ⟨rfl, hb9⟩))
    go_ret
    exact ⟨rfl, hB4.out.trans (hb9.mono hB4.out.size)⟩
  · go_wp2_with (with_reducible (refine Calls.mono (hwk.out _) ?_); rintro e w3 ⟨rfl, hb3⟩)
    go_ret
    exact ⟨rfl, hB2.out.trans (hb3.mono hB2.out.size)⟩
end Go.Proofs.Ytajfamjdfhjdeaa
