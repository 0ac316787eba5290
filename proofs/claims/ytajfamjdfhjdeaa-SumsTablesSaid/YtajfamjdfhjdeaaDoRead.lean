/- (*face.Handle).Do of a read. -/
import Derived.Test.YtajfamjdfhjdeaaDo
import Derived.Deep.RegionHeld3
import Derived.Deep.DrawnRows
namespace Go.Proofs.Ytajfamjdfhjdeaa
open Go.RowKit
attribute [local go_sem ↓] Go.wp_at_zero Go.wp_at_succ

theorem Lets.undrew {b H P : Nat} {W w' : World} (h : Lets b H P W.drew w') : Lets b H P W w' := ⟨h.size, h.own, h.top, h.low⟩
theorem doAt_le (w : World) (op told : Array Value) : w.heap.size + 3 ≤ (doAt w op told).heap.size := by
  rw [doAt_size]
  exact Nat.le_refl _
theorem told_own {w : World} {base b n c : Nat} {A : Option Addr} {zs : List Int} {x y z u : Value} (h : Own8 w base A n c zs) (hb : b < base) :
    Own8 ((((w.setCell ⟨b, 0, none⟩ x).setCell ⟨b, 1, none⟩ y).setCell ⟨b, 2, none⟩ z).setCell ⟨b, 3, none⟩ u) base A n c zs :=
  ownsRow_setCell_below (ownsRow_setCell_below (ownsRow_setCell_below (ownsRow_setCell_below h hb _) hb _) hb _) hb _
theorem Chg.after {F : Nat → Prop} {a b c : World} (g : Chg F b c) (h : Chg F a b) : Chg F a c := h.trans g fun _ _ h => h
theorem doAt_t (w : World) (op told : Array Value) : (doAt w op told).heap[w.heap.size + 2]? = some (.cells told 38) := by
  unfold doAt
  have := heap_alloc_new ((w.alloc (.cells op 36)).alloc (.cells #[.int .i64 0, .int .i64 0, .int .i64 0, .slice none 0 0] 38)) (.cells told 38)
  rwa [size_alloc, size_alloc] at this
theorem told_other {w : World} {b : Nat} {o : Obj} {a : Addr} {x : Value} (h : w.heap[b]? = some o) (hb : b ≠ a.block) : (w.setCell a x).heap[b]? = some o :=
  (Below.heap_setCell w a x b hb).trans h
/-- What the loads of a region of Do's read. -/
def DoS (b H P : Nat) (pt T : TypeId) (v : Value) (at_ n : Int) (W : World) : Prop :=
  W.cell? ⟨H, 5, none⟩ = some (.iface pt (.pointer (some ⟨P, 0, none⟩))) ∧ W.cell? ⟨P, 0, none⟩ = some (.iface T v) ∧ W.cell? ⟨b, 1, none⟩ = some (.int .i64 at_) ∧ W.cell? ⟨b, 2, none⟩ = some (.int .i64 n)
theorem doS_start {w : World} {H P : Nat} {pt T : TypeId} {v : Value} {at_ n : Int} (k op : Value) (told : Array Value) (h5 : w.cell? ⟨H, 5, none⟩ = some (.iface pt (.pointer (some ⟨P, 0, none⟩)))) (h0 : w.cell? ⟨P, 0, none⟩ = some (.iface T v)) (hH : H < w.heap.size) (hP : P < w.heap.size) :
    DoS w.heap.size H P pt T v at_ n (doAt w #[k, .int .i64 at_, .int .i64 n, op] told) := by
  have hb := doAt_below w #[k, .int .i64 at_, .int .i64 n, op] told
  have ho : (doAt w #[k, .int .i64 at_, .int .i64 n, op] told).heap[w.heap.size]? = some (.cells #[k, .int .i64 at_, .int .i64 n, op] 36) := by
    unfold doAt
    rw [Below.heap_alloc _ _ _ (by simp; omega), Below.heap_alloc _ _ _ (by simp)]
    exact heap_alloc_new _ _
  exact ⟨(hb.cell hH).trans h5, (hb.cell hP).trans h0, cell_of_heap ho rfl, cell_of_heap ho rfl⟩
theorem doS_next {b H P : Nat} {pt T : TypeId} {v : Value} {at_ n : Int} {W W' : World} (h : DoS b H P pt T v at_ n W) (hl : Lets b H P W W') : DoS b H P pt T v at_ n W' :=
  ⟨(World.cell?_of_block (w := W) hl.top).trans h.1, (World.cell?_of_block (w := W) hl.low).trans h.2.1, (World.cell?_of_block (w := W) (hl.own b (by omega) (by omega))).trans h.2.2.1, (World.cell?_of_block (w := W) (hl.own b (by omega) (by omega))).trans h.2.2.2⟩

theorem do_read {w : World} {H P m : Nat} {T : TypeId} {v : Value} (h : Hand w H P m T v) (g : FuncId) (R : World → Int → List Int → World → Prop) (at_ n : Int) (op : Value)
    (hm : ∀ fuel W, (method (fuel + 1) T v "ReadAt").run Try.prog W = .ok (g, v) W)
    (hg : ∀ args W, (callFunc g args).run Try.prog W = .ok (.enter g args) W)
    (hc : ∀ W, Below w.heap.size w W → w.heap.size + 3 ≤ W.heap.size → Calls Try.prog g #[v, .int .i64 at_, .int .i64 n] W fun e w' => ∃ A k c E zs, e = .returned (.tuple #[.slice A k c, .int .i64 E]) ∧ Byt w' w'.heap.size A k zs ∧ k ≤ 4294967296 ∧ R W E zs w' ∧ Lets w.heap.size H P W w') :
    Calls Try.prog 14 #[.pointer (some ⟨H, 0, none⟩), .agg #[.int .i8 1, .int .i64 at_, .int .i64 n, op]] w fun e w' =>
      ∃ W A k c E zs w1, e = .returned (.agg #[.int .i64 E, .int .i64 0, .int .i64 0, .slice A k c]) ∧ Own8 w' w1.heap.size A k c zs ∧ Bs zs ∧ Below w.heap.size w W ∧ w.heap.size + 3 ≤ W.heap.size ∧ R W E zs w1 ∧ Chg (Btw w.heap.size (w.heap.size + 3)) w1 w' := by
  obtain ⟨c0, c1, c2, c3, c4, c5⟩ := h.cells
  clear c0 c1 c2 c3 c4
  unfold fileOf at c5
  have hH := h.ltH
  have n1 : H < w.heap.size + 1 := by omega
  have n2 : H < w.heap.size + 1 + 1 := by omega
  have hP := h.ltP
  have p1 : P < w.heap.size + 1 := by omega
  have p2 : P < w.heap.size + 1 + 1 := by omega
  have hq : ∀ fuel W, W.cell? ⟨P, 0, none⟩ = some (.iface T v) → (method (fuel + 2) (pT m) (.pointer (some ⟨P, 0, none⟩)) "ReadAt").run Try.prog W = .ok (g, v) W := fun fuel W hW =>
    (low_read h.lt hW (fuel + 1)).trans (hm fuel W)
  have hl := h.low0
  have hcW := (hc (doAt w #[.int .i8 1, .int .i64 at_, .int .i64 n, op] #[.int .i64 5, .int .i64 0, .int .i64 0, .slice none 0 0]).drew (Below.drew (doAt_below _ _ _)) (doAt_le _ _ _)).mono (R' := fun e w' => ∃ A k c E zs, e = .returned (.tuple #[.slice A k c, .int .i64 E]) ∧ Box (Byt w' w'.heap.size A k zs) ∧ k ≤ 4294967296 ∧ Box (R (doAt w #[.int .i8 1, .int .i64 at_, .int .i64 n, op] #[.int .i64 5, .int .i64 0, .int .i64 0, .slice none 0 0]).drew E zs w') ∧ Box (DoS w.heap.size H P (pT m) T v at_ n w') ∧ Box (w'.heap[w.heap.size + 1]? = some (.cells #[.int .i64 0, .int .i64 0, .int .i64 0, .slice none 0 0] 38)) ∧ Box (w.heap.size + 3 ≤ w'.heap.size))
    (fun e w' ⟨A, k, c, E, zs, h1, h2, h3, h4, h50⟩ => have h5 := h50.undrew; ⟨A, k, c, E, zs, h1, ⟨h2⟩, h3, ⟨h4⟩, ⟨doS_next (doS_start _ _ _ c5 hl hH hP) h5⟩, ⟨(h5.own (w.heap.size + 1) (by omega) (by omega)).trans (doAt_told _ _ _)⟩, ⟨Nat.le_trans (doAt_le _ _ _) h5.size⟩⟩)
  unfold doAt at hcW
  replace h := box h
  replace hm := box hm
  clear hc
  generalize pT m = pt at hq c5 hcW
  go_enter Try.func14, Try.ntmps14
  set_option maxRecDepth 4000 in
  go_wp2_with fail
  go_region_held3 (fun W => W.cell? ⟨H, 5, none⟩ = some (.iface pt (.pointer (some ⟨P, 0, none⟩))) ∧ W.cell? ⟨P, 0, none⟩ = some (.iface T v) ∧ W.cell? ⟨w.heap.size, 1, none⟩ = some (.int .i64 at_) ∧ W.cell? ⟨w.heap.size, 2, none⟩ = some (.int .i64 n)) (first | exact doS_start _ _ _ c5 hl hH hP | exact hS.out)
    (with_reducible (refine Calls.mono hcW ?_); rintro e w1 ⟨A, k, c, E, zs, rfl, hB, hk4, hR, hS, ht, hsz⟩)
  clear hq hl c5 hg hcW
  go_wp2_with fail
  refine (fresh_any hB.out hk4).mono ?_
  rintro e w2 ⟨A2, c2, rfl, O2, b2⟩
  have ht2 := (b2.block (w.heap.size + 1) (by have := hsz.out; omega)).trans ht.out
  obtain ⟨t0, t1, t2, t3, f0, f1, f2, f3⟩ := told_cells ht2
  replace ht2 := box ht2
  replace O2 := box O2
  replace b2 := box b2
  go_wp2_with fail
  refine bodyPost_ret (told_result (told_set ht2.out) _ rfl) rfl ?_
  have hlt : w.heap.size + 1 < w1.heap.size := by have := hsz.out; omega
  exact ⟨_, A2, k, c2, E, zs, w1, rfl, told_own O2.out hlt, hB.out.bs, Below.drew (doAt_below _ _ _), doAt_le _ _ _, hR.out, (told_chg (a := w.heap.size) (c := w.heap.size + 3) (by omega) (by omega)).after (Chg.new b2.out)⟩
end Go.Proofs.Ytajfamjdfhjdeaa
