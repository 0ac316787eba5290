/- mantlelaw04.Made. -/
import Derived.Test.YtajfamjdfhjdeaaDuo
import Derived.Test.YtajfamjdfhjdeaaMem
import Derived.Deep.DeepCutAuto
namespace Go.Proofs.Ytajfamjdfhjdeaa
open Go.RowKit
attribute [local go_sem ↓] Go.wp_at_zero Go.wp_at_succ

theorem bits15 : ∀ a < 256, bits .and .u8 ((a : Nat) : Int) 15 = ((a &&& 15 : Nat) : Int) := by decide +kernel
theorem and15_lt (a : Nat) : a &&& 15 ≤ 15 := Nat.and_le_right
/-- Both of a file, made: the handle, the program's bytes, the document's file. -/
structure MadeAt (B : Nat) (w : World) (H S Fg can : Nat) (ps : List Pc) (N : Int) : Prop where
  mem : ∃ P Fm, Hand w H P can 115 (.pointer (some ⟨Fm, 0, none⟩)) ∧ MemAt w Fm S ps N
  duo : ∃ R, Duo B w S R ps N ps N ∧ w.heap[Fg]? = some (.cells #[.pointer (some ⟨R, 0, none⟩), .int .u8 (can : Int)] 105)
theorem MadeAt.grown {B : Nat} {w w' : World} {H S Fg can : Nat} {ps : List Pc} {N : Int} (h : MadeAt B w H S Fg can ps N) (hb : Below w.heap.size w w') : MadeAt B w' H S Fg can ps N := by
  obtain ⟨⟨P, Fm, h1, h2⟩, R, h3, h4⟩ := h
  exact ⟨⟨P, Fm, h1.grown hb, h2.grown hb⟩, R, h3.grown hb, (hb.block Fg (lt_of_heap h4)).trans h4⟩
/-- What one op ahead does. -/
def opOf (ps : List Pc) (N : Int) (x : OpV) : List Pc × Int :=
  if x.d = 2 then ((putOf ps N x.at_ x.zs).2.1, (putOf ps N x.at_ x.zs).2.2) else if x.d = 3 then ((cutOf ps N x.at_).2.1, (cutOf ps N x.at_).2.2) else if x.d = 4 then ((punchOf ps N x.at_ x.n).2.1, (punchOf ps N x.at_ x.n).2.2) else (ps, N)

@[go_sem] theorem rf_build (R : Option Addr) (x : Int) (w : World) : (Instr.build 105 #[(0, .pointer R), (1, .int .u8 x)]).run Try.prog w = .ok (.agg #[.pointer R, .int .u8 x]) w := run_build w 105 _ _ (by kernel_rfl)
@[go_sem] theorem pair_build (H S F : Option Addr) (w : World) : (Instr.build 49 #[(0, .pointer H), (1, .pointer S), (2, .pointer F)]).run Try.prog w = .ok (.agg #[.pointer H, .pointer S, .pointer F]) w := run_build w 49 _ _ (by kernel_rfl)
theorem pair_result {w : World} {b : Nat} {x y z : Value} {e : TypeId} (hh : w.heap[b]? = some (.cells #[x, y, z] e)) (tmps : Array Value) (ht : tmps[2]? = some (.pointer (some ⟨b, 0, none⟩))) :
    (results Try.f16 tmps).run Try.prog w = .ok (.agg #[x, y, z]) w := by
  have t0 : w.cell? ⟨b, 0, none⟩ = some x := cell_of_heap hh rfl
  have t1 : w.cell? ⟨b, 1, none⟩ = some y := cell_of_heap hh rfl
  have t2 : w.cell? ⟨b, 2, none⟩ = some z := cell_of_heap hh rfl
  simp [results, Try.results16, go_sem, ht, asAddr, t0, t1, t2]
theorem below_unalloc {B : Nat} {w w' : World} {o : Obj} (h : Below B (w.drew.alloc o) w') : Below B (w.alloc o) w' := ⟨h.os, h.tape, h.output, h.size, h.block⟩

set_option maxHeartbeats 8000000 in
set_option maxRecDepth 100000 in
theorem made_any {w : World} {v : MemV} (h : MemIn w w.heap.size v) (hs : v.sz ≤ 131072) :
    Calls Try.prog 16 #[.agg #[.slice v.A v.l v.c, .slice v.A2 v.xs.length v.c2, .int .u8 (v.can : Int)]] w fun e w' => ∃ H S Fg ps N, e = .returned (.agg #[.pointer (some ⟨H, 0, none⟩), .pointer (some ⟨S, 0, none⟩), .pointer (some ⟨Fg, 0, none⟩)]) ∧ MadeAt w.heap.size w' H S Fg (v.can &&& 15) ps N ∧ Below w.heap.size w w' := by
  have hl1 : v.l ≤ 131072 := by unfold MemV.sz at hs; omega
  have hl2 : v.xs.length ≤ 131072 := by unfold MemV.sz at hs; omega
  have hl3 : Box (∀ x ∈ v.xs, x.l ≤ 131072) := ⟨fun x hx => Nat.le_trans (MemV.mem_sz hx) hs⟩
  have hcap := h.cap
  have hmax := h.max
  have hcap2 := h.cap2
  have hmax2 := h.max2
  have hcan := h.can
  have hops := box h.ops
  have hby := box h.byt
  clear h hs
  go_enter Try.func16, Try.ntmps16
  go_upto_region 1 with fail
  have hB0 := (Below.alloc (Below.refl w.heap.size w) (Nat.le_refl _) (.cells #[.slice v.A v.l v.c, .slice v.A2 v.xs.length v.c2, .int .u8 (v.can : Int)] 43)).alloc (by simp) (.cells #[.pointer none, .pointer none, .pointer none] 49)
  have hM0 : ((w.alloc (.cells #[.slice v.A v.l v.c, .slice v.A2 v.xs.length v.c2, .int .u8 (v.can : Int)] 43)).alloc (.cells #[.pointer none, .pointer none, .pointer none] 49)).heap[w.heap.size]? = some (.cells #[.slice v.A v.l v.c, .slice v.A2 v.xs.length v.c2, .int .u8 (v.can : Int)] 43) := by
    rw [Below.heap_alloc _ _ _ (by simp)]
    exact heap_alloc_new _ _
  have hP0 : ((w.alloc (.cells #[.slice v.A v.l v.c, .slice v.A2 v.xs.length v.c2, .int .u8 (v.can : Int)] 43)).alloc (.cells #[.pointer none, .pointer none, .pointer none] 49)).heap[w.heap.size + 1]? = some (.cells #[.pointer none, .pointer none, .pointer none] 49) := by
    have := heap_alloc_new (w.alloc (.cells #[.slice v.A v.l v.c, .slice v.A2 v.xs.length v.c2, .int .u8 (v.can : Int)] 43)) (.cells #[.pointer none, .pointer none, .pointer none] 49)
    rwa [show (w.alloc (.cells #[.slice v.A v.l v.c, .slice v.A2 v.xs.length v.c2, .int .u8 (v.can : Int)] 43)).heap.size = w.heap.size + 1 by simp] at this
  generalize (w.alloc (.cells #[.slice v.A v.l v.c, .slice v.A2 v.xs.length v.c2, .int .u8 (v.can : Int)] 43)).alloc (.cells #[.pointer none, .pointer none, .pointer none] 49) = W0 at *
  obtain ⟨mb, hmb⟩ : ∃ mb, w.heap.size = mb := ⟨_, rfl⟩
  rw [hmb] at hM0 hP0 hB0 ⊢
  have m0 : W0.cell? ⟨mb, 0, none⟩ = some (.slice v.A v.l v.c) := cell_of_heap hM0 rfl
  have hmbl := lt_of_heap hM0
  have hnew := box (snew_any (w := W0) (c := v.c) (hby.out.below (hmb ▸ hB0)) (by omega) hcap)
  replace hM0 := box hM0
  replace hP0 := box hP0
  replace hB0 := box hB0
  go_upto_region 2 with (with_reducible (refine Calls.mono hnew.out ?_); rintro e w1 ⟨S, rfl, hS1, hN1, hb1⟩)
  have m1 := cell_past hb1 m0
  have hB1 := hB0.out.trans (hb1.mono (Nat.le_of_lt hmbl))
  have hBe := Below.alloc (Below.refl w1.heap.size w1) (Nat.le_refl _) (.cells #[] 5)
  have hOL : Own8 (w1.alloc (.cells #[] 5)) w1.heap.size (some ⟨w1.heap.size, 0, none⟩) 0 0 [] := World.ownsRow_lit w1 #[] 0 (Nat.le_refl _) (by decide) rfl
  have hs2 := ((hby.out.below (hmb ▸ hB1)).grown hBe).src
  have m2 := cell_past hBe m1
  have hrn := box (fun W (A : Option Addr) (c : Nat) (hO : Own8 W w1.heap.size A v.l c v.zs) => rnew_any (w := W) (c := c) (Byt.of_own hO hby.out.bs) (by omega))
  replace hN1 := box hN1
  replace hb1 := box hb1
  replace hB1 := box hB1
  replace hBe := box hBe
  replace hOL := box hOL
  replace hs2 := box hs2
  clear hnew
  go_upto_region 3 with (first
    | (at_builtin; refine app8 _ (.tmp 12) (.tmp 14) w1.heap.size hOL.out hs2.out rfl rfl rfl rfl (by omega) hBe.out.size ?_; intro A3 c3 w3 O3 b3 s3; rw [Nat.zero_add] at O3; have O3' : Own8 w3 w1.heap.size A3 v.l c3 v.zs := O3; clear O3)
    | (with_reducible (refine Calls.mono (hrn.out _ _ _ O3') ?_); rintro e w4 ⟨R, rfl, hR1, hN2, hb4⟩))
  have hD0 : Duo W0.heap.size w4 S R (newPs v.zs) (v.l : Int) (newPs v.zs) (v.l : Int) := by
    obtain ⟨F, ls, g1, g2, g3⟩ := hN1.out
    obtain ⟨G, ms, g4, g5, g6⟩ := hN2
    have e1 := hb1.out.size
    have hs3 : w1.heap.size ≤ w3.heap.size := by have := hBe.out.size; omega
    have hb14 : Below w1.heap.size w1 w4 := (hBe.out.trans b3).trans (hb4.mono hs3)
    exact ⟨F, ls, G, ms, g1.same hb14, g4, g2, g5, g3, fun k hk => by have := g6 k hk; omega, fun k hk hg => by have := g1.lt k hk; have := g6 k hg; omega⟩
  have hB4 : Below W0.heap.size W0 w4 := by
    have hs3 : w1.heap.size ≤ w3.heap.size := by have := hBe.out.size; omega
    exact hb1.out.trans (((hBe.out.trans b3).trans (hb4.mono hs3)).mono hb1.out.size)
  replace hD0 := box hD0
  replace hB4 := box hB4
  clear hN1 hN2 hb1 hB1 hBe hOL hs2 hrn b3 s3 O3' hb4 m1 m2 hR1 hS1
  obtain ⟨B, hB⟩ : ∃ B, W0.heap.size = B := ⟨_, rfl⟩
  have hwB : w.heap.size ≤ B := by omega
  go_upto_region 4 with fail
  go_loopg [5] v.xs.length (fun kx s5 wr => ∃ (k : Nat) (ps : List Pc) (N : Int), k ≤ v.xs.length ∧ v.xs.length - k ≤ kx ∧ s5 = .int .i64 (k : Int) ∧ Box (Duo B wr S R ps N ps N) ∧ Box (Below B W0 wr))
  case atStart => exact ⟨0, newPs v.zs, (v.l : Int), Nat.zero_le _, by omega, rfl, ⟨hB ▸ hD0.out⟩, ⟨hB ▸ hB4.out⟩⟩
  case round =>
    obtain ⟨k, ps, N, hk, hkk, rfl, hD, hW⟩ := hrel
    have hMr := (hW.out.block mb (by omega)).trans hM0.out
    have r1 : wr.cell? ⟨mb, 1, none⟩ = some (.slice v.A2 v.xs.length v.c2) := cell_of_heap hMr rfl
    have r2 : wr.cell? ⟨mb, 2, none⟩ = some (.int .u8 (v.can : Int)) := cell_of_heap hMr rfl
    have hBr : B ≤ wr.heap.size := by have := hW.out.size; omega
    have hwr : Below w.heap.size w wr := (hmb.symm ▸ hB0.out).trans (hW.out.mono hwB)
    clear m0
    by_cases hlt : k < v.xs.length
    · obtain ⟨ob, oo, hA2, hob, hox⟩ := hops.out (by omega)
      obtain ⟨x, hx⟩ : ∃ x, v.xs[k]? = some x := ⟨_, List.getElem?_eq_getElem hlt⟩
      have hxo := hox k x hx
      have hxl := hl3.out x (List.mem_of_getElem? hx)
      rw [hA2] at r1
      have z0 := (hwr.cell (p := ⟨ob, oo + k * 4, none⟩) hob).trans hxo.c0
      have z1 := (hwr.cell (p := ⟨ob, oo + k * 4 + 1, none⟩) hob).trans hxo.c1
      have z2 := (hwr.cell (p := ⟨ob, oo + k * 4 + 2, none⟩) hob).trans hxo.c2
      have z3 := (hwr.cell (p := ⟨ob, oo + k * 4 + 3, none⟩) hob).trans hxo.c3
      have hxb := box (hxo.byt.below hwr)
      have i0' : (0 : Int) ≤ (k : Int) := by omega
      have i1' : (k : Int) < (v.xs.length : Int) := by omega
      replace hwr := box hwr
      clear hox hxo hx r2 hMr
      obtain ⟨d, at_, n, A, l, c, zs⟩ := x
      simp only at z0 z1 z2 z3 hxb hxl
      go_upto_region 7 with fail
      have hXb := Below.alloc (Below.refl wr.heap.size wr) (Nat.le_refl _) (.cells #[.int .i8 d, .int .i64 at_, .int .i64 n, .slice A l c] 36)
      have hXh := heap_alloc_new wr (.cells #[.int .i8 d, .int .i64 at_, .int .i64 n, .slice A l c] 36)
      have hD1 := hD.out.grown hXb
      have hW1 := hW.out.trans (hXb.mono hBr)
      have hx1 := (hxb.out.below (hXb.mono (Nat.le_trans hwB hBr)))
      generalize (wr.alloc (.cells #[.int .i8 d, .int .i64 at_, .int .i64 n, .slice A l c] 36)) = W1 at *
      obtain ⟨xb, hxbe⟩ : ∃ xb, wr.heap.size = xb := ⟨_, rfl⟩
      rw [hxbe] at hXh hXb ⊢
      have q0 : W1.cell? ⟨xb, 0, none⟩ = some (.int .i8 d) := cell_of_heap hXh rfl
      have q1 : W1.cell? ⟨xb, 1, none⟩ = some (.int .i64 at_) := cell_of_heap hXh rfl
      have q2 : W1.cell? ⟨xb, 2, none⟩ = some (.int .i64 n) := cell_of_heap hXh rfl
      have q3 : W1.cell? ⟨xb, 3, none⟩ = some (.slice A l c) := cell_of_heap hXh rfl
      have hB1 : B ≤ W1.heap.size := by have := hW1.size; omega
      replace hD1 := box hD1
      replace hW1 := box hW1
      replace hx1 := box hx1
      replace hXh := box hXh
      replace hXb := box hXb
      have hxbl := lt_of_heap hXh.out
      have hRx : ¬ xb = R := by have := hD.out.ltR; omega
      have hXb' : Box (Below wr.heap.size wr W1) := ⟨hxbe ▸ hXb.out⟩
      have hbs := box hx1.out.bs
      clear z0 z1 z2 z3 r1 hW hwr hxb hA2
      by_cases d2 : d = 2
      · subst d2
        have hput := box (hD.out.put (w := W1) (c := c) (at_ := at_) hXb'.out hB1 (hx1.out.more (Nat.le_trans hwB hB1)) (by omega))
        go_upto_region 10 with (with_reducible (refine Calls.mono hput.out ?_); rintro e w6 ⟨rfl, hD6, hb6, hk6⟩)
        have hX6 := (hk6 xb (by omega) hxbl).trans hXh.out
        have z1 : w6.cell? ⟨xb, 1, none⟩ = some (.int .i64 at_) := cell_of_heap hX6 rfl
        have z3 : w6.cell? ⟨xb, 3, none⟩ = some (.slice A l c) := cell_of_heap hX6 rfl
        have hBe := Below.alloc (Below.refl w6.heap.size w6) (Nat.le_refl _) (.cells #[] 5)
        have hOL : Own8 (w6.alloc (.cells #[] 5)) w6.heap.size (some ⟨w6.heap.size, 0, none⟩) 0 0 [] := World.ownsRow_lit w6 #[] 0 (Nat.le_refl _) (by decide) rfl
        have hB6 : B ≤ w6.heap.size := Nat.le_trans hB1 hb6.size
        have hs6 := ((hx1.out.below (hb6.mono hwB)).below (hBe.mono (Nat.le_trans hwB hB6))).src
        have hW6 := hW1.out.trans (hb6.mono (Nat.le_refl _))
        have y1 := cell_past hBe z1
        have y3 := cell_past hBe z3
        have hrput := box (fun W (A' : Option Addr) (c' : Nat) (hW : Below w6.heap.size w6 W) (hO : Own8 W w6.heap.size A' l c' zs) => hD6.rput (w := W) (c := c') (at_ := at_) hW (Nat.le_trans hB6 hW.size) (Byt.of_own hO hbs.out) (by omega))
        replace hD6 := box hD6
        replace hb6 := box hb6
        replace hk6 := box hk6
        replace hX6 := box hX6
        replace hBe := box hBe
        replace hOL := box hOL
        replace hs6 := box hs6
        replace hW6 := box hW6
        clear hput q0 q1 q2 q3 hXh hXb hXb' hD hD1 hW1 hx1
        go_region_held3 (fun W => W.cell? ⟨xb, 1, none⟩ = some (.int .i64 at_) ∧ W.cell? ⟨xb, 3, none⟩ = some (.slice A l c)) (first | go_keep | exact ⟨y1, y3⟩ | exact ⟨cell_past hb7.out z1, cell_past hb7.out z3⟩ | exact ⟨cell_chg hk8 hRx (cell_past hb7.out z1), cell_chg hk8 hRx (cell_past hb7.out z3)⟩)
          (first
            | ((refine step8 _ (.tmp 42) (.tmp 44) w6.heap.size (by exact hOL.out) (by exact hs6.out) (by rfl) (by rfl) (by rfl) (by rfl) (by omega) (by have := hBe.out.size; exact this) ?_; intro A7 c7 w7 O7 b7 s7; have hb7 : Box (Below w6.heap.size w6 w7) := ⟨hBe.out.trans ⟨b7.os, b7.tape, b7.output, b7.size, b7.block⟩⟩; rw [Nat.zero_add] at O7; have O7' : Box (Own8 w7 w6.heap.size A7 l c7 zs) := ⟨O7⟩; clear O7 b7 s7))
            | ((with_reducible refine Calls.mono (hrput.out _ _ _ (by first | exact hb7.out | exact hb7.out.drew) (by exact O7'.out)) ?_); rintro e w8 ⟨rfl, hD8, hb8, hk8⟩; replace hD8 := box hD8; replace hb8 := box hb8))
        all_goals
          go_wp2_with fail
          go_roundg (v.xs.length - (k + 1))
          case measure => omega
          case rel => exact ⟨k + 1, _, _, by omega, Nat.le_refl _, by go_num, ⟨hD8.out⟩, ⟨(hW6.out.trans (hb7.out.mono hB6)).trans hb8.out⟩⟩
      · by_cases d3 : d = 3
        · subst d3
          have hcut := box (hD.out.cut (w := W1) (size := at_) hXb'.out hB1)
          go_upto_region 13 with (with_reducible (refine Calls.mono hcut.out ?_); rintro e w6 ⟨rfl, hD6, hb6, hk6⟩)
          have hX6 := (hk6 xb (by omega) hxbl).trans hXh.out
          have z1 : w6.cell? ⟨xb, 1, none⟩ = some (.int .i64 at_) := cell_of_heap hX6 rfl
          have z2 : w6.cell? ⟨xb, 2, none⟩ = some (.int .i64 n) := cell_of_heap hX6 rfl
          have hB6 : B ≤ w6.heap.size := Nat.le_trans hB1 hb6.size
          have hW6 := hW1.out.trans hb6
          have hr := box (hD6.rcut (w := w6) (size := at_) (Below.refl _ _) hB6)
          replace hD6 := box hD6
          replace hb6 := box hb6
          replace hk6 := box hk6
          replace hX6 := box hX6
          replace hW6 := box hW6
          clear hcut q0 q1 q2 q3 hXh hXb hXb' hD hD1 hW1 hx1
          go_wp2_with (with_reducible (refine Calls.mono hr.out ?_); rintro e w8 ⟨rfl, hD8, hb8, hk8⟩; replace hD8 := box hD8; replace hb8 := box hb8; replace hk8 := box hk8)
          go_roundg (v.xs.length - (k + 1))
          case measure => omega
          case rel => exact ⟨k + 1, _, _, by omega, Nat.le_refl _, by go_num, ⟨hD8.out⟩, ⟨hW6.out.trans hb8.out⟩⟩
        · by_cases d4 : d = 4
          · subst d4
            have hpunch := box (hD.out.punch (w := W1) (at_ := at_) (n := n) hXb'.out hB1)
            go_upto_region 16 with (with_reducible (refine Calls.mono hpunch.out ?_); rintro e w6 ⟨rfl, hD6, hb6, hk6⟩)
            have hX6 := (hk6 xb (by omega) hxbl).trans hXh.out
            have z1 : w6.cell? ⟨xb, 1, none⟩ = some (.int .i64 at_) := cell_of_heap hX6 rfl
            have z2 : w6.cell? ⟨xb, 2, none⟩ = some (.int .i64 n) := cell_of_heap hX6 rfl
            have hB6 : B ≤ w6.heap.size := Nat.le_trans hB1 hb6.size
            have hW6 := hW1.out.trans hb6
            have hr := box (hD6.rpunch (w := w6) (at_ := at_) (n := n) (Below.refl _ _) hB6)
            replace hD6 := box hD6
            replace hb6 := box hb6
            replace hk6 := box hk6
            replace hX6 := box hX6
            replace hW6 := box hW6
            clear hpunch q0 q1 q2 q3 hXh hXb hXb' hD hD1 hW1 hx1
            go_wp2_with (with_reducible (refine Calls.mono hr.out ?_); rintro e w8 ⟨rfl, hD8, hb8, hk8⟩; replace hD8 := box hD8; replace hb8 := box hb8; replace hk8 := box hk8)
            go_roundg (v.xs.length - (k + 1))
            case measure => omega
            case rel => exact ⟨k + 1, _, _, by omega, Nat.le_refl _, by go_num, ⟨hD8.out⟩, ⟨hW6.out.trans hb8.out⟩⟩
          · have e2 : (d == 2) = false := by rw [beq_eq_false_iff_ne]; exact d2
            have e3 : (d == 3) = false := by rw [beq_eq_false_iff_ne]; exact d3
            have e4 : (d == 4) = false := by rw [beq_eq_false_iff_ne]; exact d4
            go_wp2_with fail
            go_roundg (v.xs.length - (k + 1))
            case measure => omega
            case rel => exact ⟨k + 1, _, _, by omega, Nat.le_refl _, by go_num, hD1, hW1⟩
    · obtain rfl : k = v.xs.length := by omega
      obtain ⟨F, ls, G, ms, h1, h2, h3, h4, h5, h6, h7⟩ := id hD.out
      have hspan := h1.span
      rw [h3] at hspan
      have hb15 := bits15 v.can hcan
      have hof := box (of_any (can := v.can &&& 15) hspan (and15_lt _))
      have hPr := (hW.out.block (mb + 1) (by have := lt_of_heap hP0.out; omega)).trans hP0.out
      replace hPr := box hPr
      replace hMr := box hMr
      replace hwr := box hwr
      clear h1 h2 h3 h4 h5 h6 h7 hspan
      go_upto_region 18 with (with_reducible (refine Calls.mono hof.out ?_); rintro e w7 ⟨H, P, Fm, rfl, hNH, hMA, hFm, hb7⟩; have s2 := cell_past hb7 r2)
      have hP7 := (hb7.block (mb + 1) (lt_of_heap hPr.out)).trans hPr.out
      have hD7 := hD.out.grown hb7
      have p0 : w7.cell? ⟨mb + 1, 0, none⟩ = some (.pointer none) := cell_of_heap hP7 rfl
      have p1 : w7.cell? ⟨mb + 1, 1, none⟩ = some (.pointer none) := cell_of_heap hP7 rfl
      have p2 : w7.cell? ⟨mb + 1, 2, none⟩ = some (.pointer none) := cell_of_heap hP7 rfl
      have pf : w7.frozen? ⟨mb + 1, 0, none⟩ = false := frozen_of_heap hP7
      have pf1 : w7.frozen? ⟨mb + 1, 1, none⟩ = false := frozen_of_heap hP7
      have pf2 : w7.frozen? ⟨mb + 1, 2, none⟩ = false := frozen_of_heap hP7
      have hmb7 := lt_of_heap hP7
      replace hP7 := box hP7
      replace hD7 := box hD7
      replace hNH := box hNH
      replace hMA := box hMA
      replace hb7 := box hb7
      clear hof r1 r2
      go_wp2_with fail
      have hS3 := block_set (o := 2) (block_set (o := 1) (block_set (o := 0) hP7.out (.pointer (some ⟨H, 0, none⟩))) (.pointer (some ⟨S, 0, none⟩))) (.pointer (some ⟨w7.heap.size, 0, none⟩))
      have hz : (((w7.setCell ⟨mb + 1, 0, none⟩ (.pointer (some ⟨H, 0, none⟩))).setCell ⟨mb + 1, 1, none⟩ (.pointer (some ⟨S, 0, none⟩))).setCell ⟨mb + 1, 2, none⟩ (.pointer (some ⟨w7.heap.size, 0, none⟩))).heap.size = w7.heap.size := by simp [World.setCell]
      have hC3 : Chg (fun k => k = mb + 1) w7 ((((w7.setCell ⟨mb + 1, 0, none⟩ (.pointer (some ⟨H, 0, none⟩))).setCell ⟨mb + 1, 1, none⟩ (.pointer (some ⟨S, 0, none⟩))).setCell ⟨mb + 1, 2, none⟩ (.pointer (some ⟨w7.heap.size, 0, none⟩))).alloc (.cells #[.pointer (some ⟨R, 0, none⟩), .int .u8 ((v.can &&& 15 : Nat) : Int)] 105)) :=
        ((set_chg.trans set_chg (fun _ _ h => h)).trans set_chg (fun _ _ h => h)).alloc _
      have hF3 := heap_alloc_new (((w7.setCell ⟨mb + 1, 0, none⟩ (.pointer (some ⟨H, 0, none⟩))).setCell ⟨mb + 1, 1, none⟩ (.pointer (some ⟨S, 0, none⟩))).setCell ⟨mb + 1, 2, none⟩ (.pointer (some ⟨w7.heap.size, 0, none⟩))) (.cells #[.pointer (some ⟨R, 0, none⟩), .int .u8 ((v.can &&& 15 : Nat) : Int)] 105)
      have hP3 : ((((w7.setCell ⟨mb + 1, 0, none⟩ (.pointer (some ⟨H, 0, none⟩))).setCell ⟨mb + 1, 1, none⟩ (.pointer (some ⟨S, 0, none⟩))).setCell ⟨mb + 1, 2, none⟩ (.pointer (some ⟨w7.heap.size, 0, none⟩))).alloc (.cells #[.pointer (some ⟨R, 0, none⟩), .int .u8 ((v.can &&& 15 : Nat) : Int)] 105)).heap[mb + 1]? = some (.cells #[.pointer (some ⟨H, 0, none⟩), .pointer (some ⟨S, 0, none⟩), .pointer (some ⟨w7.heap.size, 0, none⟩)] 49) := by
        rw [Below.heap_alloc _ _ _ (by omega)]
        exact hS3
      rw [hz] at hF3
      refine bodyPost_ret (pair_result hP3 _ rfl) rfl ?_
      generalize ((((w7.setCell ⟨mb + 1, 0, none⟩ (.pointer (some ⟨H, 0, none⟩))).setCell ⟨mb + 1, 1, none⟩ (.pointer (some ⟨S, 0, none⟩))).setCell ⟨mb + 1, 2, none⟩ (.pointer (some ⟨w7.heap.size, 0, none⟩))).alloc (.cells #[.pointer (some ⟨R, 0, none⟩), .int .u8 ((v.can &&& 15 : Nat) : Int)] 105)) = Wf at *
      have hmB : mb + 1 < B := by have := lt_of_heap hP0.out; omega
      have hDf : Duo B Wf S R ps N ps N := hD7.out.keepB hC3.size fun k h1 h2 => hC3.block k h2 (by omega)
      have hMf : MemAt Wf Fm S ps N := ⟨(hC3.block Fm (lt_of_heap hMA.out.1) (by omega)).trans hMA.out.1, hDf.span⟩
      have hHf : Hand Wf H P (v.can &&& 15) 115 (.pointer (some ⟨Fm, 0, none⟩)) := hNH.out.hand.keep (hC3.block H hNH.out.hand.ltH (by have := hNH.out.hH; omega)) (hC3.block P hNH.out.hand.ltP (by have := hNH.out.hP; omega))
      refine ⟨H, S, w7.heap.size, ps, N, rfl, ⟨⟨P, Fm, hHf, hMf⟩, R, hDf.low hwB, hF3⟩, ?_⟩
      have hb07 : Below w.heap.size w w7 := hwr.out.trans (hb7.out.mono (Nat.le_trans hwB hBr))
      exact hb07.trans (hC3.below (fun k hk => by omega) hb07.size)
#print axioms made_any
end Go.Proofs.Ytajfamjdfhjdeaa
