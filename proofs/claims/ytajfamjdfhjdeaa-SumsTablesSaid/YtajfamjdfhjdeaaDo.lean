/- (*face.Handle).Do, kind by kind. -/
import Derived.Test.YtajfamjdfhjdeaaFoot
namespace Go.Proofs.Ytajfamjdfhjdeaa
open Go.RowKit

/-- The three blocks that Do lays. -/
def doAt (w : World) (op told : Array Value) : World :=
  ((w.alloc (.cells op 36)).alloc (.cells #[.int .i64 0, .int .i64 0, .int .i64 0, .slice none 0 0] 38)).alloc (.cells told 38)
theorem doAt_size (w : World) (op told : Array Value) : (doAt w op told).heap.size = w.heap.size + 3 := by
  simp [doAt]
theorem doAt_below (w : World) (op told : Array Value) : Below w.heap.size w (doAt w op told) :=
  ((Below.alloc (Below.refl _ w) (Nat.le_refl _) _).alloc (by simp) _).alloc (by simp; omega) _
theorem doAt_told (w : World) (op told : Array Value) : (doAt w op told).heap[w.heap.size + 1]? = some (.cells #[.int .i64 0, .int .i64 0, .int .i64 0, .slice none 0 0] 38) := by
  unfold doAt
  rw [Below.heap_alloc _ _ _ (by simp)]
  have := heap_alloc_new (w.alloc (.cells op 36)) (.cells #[.int .i64 0, .int .i64 0, .int .i64 0, .slice none 0 0] 38)
  rwa [size_alloc] at this
theorem told_cells {w : World} {b : Nat} {x y z u : Value} {e : TypeId} (hh : w.heap[b]? = some (.cells #[x, y, z, u] e)) :
    w.cell? ⟨b, 0, none⟩ = some x ∧ w.cell? ⟨b, 1, none⟩ = some y ∧ w.cell? ⟨b, 2, none⟩ = some z ∧ w.cell? ⟨b, 3, none⟩ = some u ∧
      w.frozen? ⟨b, 0, none⟩ = false ∧ w.frozen? ⟨b, 1, none⟩ = false ∧ w.frozen? ⟨b, 2, none⟩ = false ∧ w.frozen? ⟨b, 3, none⟩ = false :=
  ⟨cell_of_heap hh rfl, cell_of_heap hh rfl, cell_of_heap hh rfl, cell_of_heap hh rfl, frozen_of_heap hh, frozen_of_heap hh, frozen_of_heap hh, frozen_of_heap hh⟩
/-- What is told lies at block b. -/
theorem told_result {w : World} {b : Nat} {x y z u : Value} {e : TypeId} (hh : w.heap[b]? = some (.cells #[x, y, z, u] e)) (tmps : Array Value) (ht : tmps[4]? = some (.pointer (some ⟨b, 0, none⟩))) :
    (results Try.f14 tmps).run Try.prog w = .ok (.agg #[x, y, z, u]) w := by
  obtain ⟨t0, t1, t2, t3, _, _, _, _⟩ := told_cells hh
  simp [results, Try.results14, go_sem, ht, asAddr, t0, t1, t2, t3]
theorem told_set {w : World} {b : Nat} {x y z u x' y' z' u' : Value} {e : TypeId} (h : w.heap[b]? = some (.cells #[x, y, z, u] e)) :
    ((((w.setCell ⟨b, 0, none⟩ x').setCell ⟨b, 1, none⟩ y').setCell ⟨b, 2, none⟩ z').setCell ⟨b, 3, none⟩ u').heap[b]? = some (.cells #[x', y', z', u'] e) :=
  block_set (block_set (block_set (block_set h x') y') z') u'
/-- Behind the four stores nothing else has turned. -/
theorem told_chg {w : World} {a b c : Nat} {x y z u : Value} (h1 : a ≤ b) (h2 : b < c) :
    Chg (Btw a c) w ((((w.setCell ⟨b, 0, none⟩ x).setCell ⟨b, 1, none⟩ y).setCell ⟨b, 2, none⟩ z).setCell ⟨b, 3, none⟩ u) :=
  ((((Chg.refl _ w).setCell (fun _ => ⟨h1, h2⟩) _).setCell (fun _ => ⟨h1, h2⟩) _).setCell (fun _ => ⟨h1, h2⟩) _).setCell (fun _ => ⟨h1, h2⟩) _

/-- A call leaves Do's three blocks and the handle's two as they were. -/
structure Lets (b H P : Nat) (w w' : World) : Prop where
  size : w.heap.size ≤ w'.heap.size
  own : ∀ k, b ≤ k → k < b + 3 → w'.heap[k]? = w.heap[k]?
  top : w'.heap[H]? = w.heap[H]?
  low : w'.heap[P]? = w.heap[P]?
theorem Chg.lets {F : Nat → Prop} {b H P : Nat} {w w' : World} (h : Chg F w w') (hb : b + 3 ≤ w.heap.size) (hH : H < w.heap.size) (hP : P < w.heap.size) (h1 : ∀ k, b ≤ k → k < b + 3 → ¬ F k) (h2 : ¬ F H) (h3 : ¬ F P) : Lets b H P w w' :=
  ⟨h.size, fun k g1 g2 => h.block k (by omega) (h1 k g1 g2), h.block H hH h2, h.block P hP h3⟩

theorem do_size {w : World} {H P m : Nat} {T : TypeId} {v : Value} (h : Hand w H P m T v) (g : FuncId) (R : World → Int → World → Prop) (at_ n : Int) (op : Value)
    (hm : ∀ fuel W, (method (fuel + 1) T v "Size").run Try.prog W = .ok (g, v) W)
    (hg : ∀ args W, (callFunc g args).run Try.prog W = .ok (.enter g args) W)
    (hc : ∀ W, Below w.heap.size w W → w.heap.size + 3 ≤ W.heap.size → Calls Try.prog g #[v] W fun e w' => ∃ s, e = .returned (.int .i64 s) ∧ R W s w' ∧ Lets w.heap.size H P W w') :
    Calls Try.prog 14 #[.pointer (some ⟨H, 0, none⟩), .agg #[.int .i8 0, .int .i64 at_, .int .i64 n, op]] w fun e w' =>
      ∃ W s w1, e = .returned (.agg #[.int .i64 0, .int .i64 s, .int .i64 0, .slice none 0 0]) ∧ Below w.heap.size w W ∧ R W s w1 ∧ Chg (Btw w.heap.size (w.heap.size + 3)) w1 w' := by
  obtain ⟨c0, c1, c2, c3, c4, c5⟩ := h.cells
  clear c0 c1 c2 c3 c4
  unfold fileOf at c5
  have hH := h.ltH
  have n1 : H < w.heap.size + 1 := by omega
  have n2 : H < w.heap.size + 1 + 1 := by omega
  have hP := h.ltP
  have p1 : P < w.heap.size + 1 := by omega
  have p2 : P < w.heap.size + 1 + 1 := by omega
  have hq : ∀ fuel W, W.cell? ⟨P, 0, none⟩ = some (.iface T v) → (method (fuel + 2) (pT m) (.pointer (some ⟨P, 0, none⟩)) "Size").run Try.prog W = .ok (g, v) W := fun fuel W hW =>
    (low_size h.lt hW (fuel + 1)).trans (hm fuel W)
  have hl := h.low0
  replace h := box h
  replace hm := box hm
  generalize pT m = pt at hq c5
  go_enter Try.func14, Try.ntmps14
  set_option maxRecDepth 4000 in
  go_wp2_with fail
  refine (hc _ (doAt_below _ _ _) (by rw [doAt_size]; exact Nat.le_refl _)).mono ?_
  rintro e w1 ⟨s, rfl, hR, hk⟩
  have ht := (hk.own (w.heap.size + 1) (by omega) (by omega)).trans (doAt_told _ _ _)
  obtain ⟨t0, t1, t2, t3, f0, f1, f2, f3⟩ := told_cells ht
  replace hR := box hR
  replace ht := box ht
  clear hk hc hq hl c5 hg n1 n2 p1 p2 hP hH
  go_wp2_with fail
  refine bodyPost_ret (told_result (told_set ht.out) _ rfl) rfl ?_
  exact ⟨_, s, w1, rfl, doAt_below _ _ _, hR.out, told_chg (by omega) (by omega)⟩
end Go.Proofs.Ytajfamjdfhjdeaa
