/- (*face.Handle).Only. -/
import Derived.Test.YtajfamjdfhjdeaaMake
namespace Go.Proofs.Ytajfamjdfhjdeaa
open Go.RowKit

theorem and_bit1 : ∀ c < 256, (bits .and .u8 ((c : Nat) : Int) 1 == 0) = !(c.testBit 0) := by decide +kernel
theorem and_bit2 : ∀ c < 256, (bits .and .u8 ((c : Nat) : Int) 2 == 0) = !(c.testBit 1) := by decide +kernel
theorem and_bit4 : ∀ c < 256, (bits .and .u8 ((c : Nat) : Int) 4 == 0) = !(c.testBit 2) := by decide +kernel
theorem and_bit8 : ∀ c < 256, (bits .and .u8 ((c : Nat) : Int) 8 == 0) = !(c.testBit 3) := by decide +kernel

theorem Hand.cells {w : World} {H P m : Nat} {T : TypeId} {v : Value} (h : Hand w H P m T v) :
    w.cell? ⟨H, 0, none⟩ = some (.iface T v) ∧ w.cell? ⟨H, 1, none⟩ = some (part? m 0 (.iface T v)) ∧ w.cell? ⟨H, 2, none⟩ = some (part? m 1 (.iface T v)) ∧ w.cell? ⟨H, 3, none⟩ = some (part? m 2 (.iface T v)) ∧ w.cell? ⟨H, 4, none⟩ = some (part? m 3 (.iface T v)) ∧ w.cell? ⟨H, 5, none⟩ = some (fileOf P m) :=
  ⟨cell_of_heap h.top rfl, cell_of_heap h.top rfl, cell_of_heap h.top rfl, cell_of_heap h.top rfl, cell_of_heap h.top rfl, cell_of_heap h.top rfl⟩

/-- A handle that was just made: from block B on. -/
structure NewHand (B : Nat) (w : World) (H P m : Nat) (T : TypeId) (v : Value) : Prop where
  hand : Hand w H P m T v
  hH : B ≤ H
  hP : B ≤ P
  ne : H ≠ P
  ltH : H < w.heap.size
  ltP : P < w.heap.size

theorem handAt_new (w : World) {m : Nat} (hm : m < 16) (T : TypeId) (v : Value) {B : Nat} (hB : B ≤ w.heap.size) : NewHand B (handAt w m (.iface T v)) (w.heap.size + 1) w.heap.size m T v :=
  ⟨handAt_hand w hm T v, by omega, hB, by omega, by rw [handAt_size]; omega, by rw [handAt_size]; omega⟩

theorem size_alloc (w : World) (o : Obj) : (w.alloc o).heap.size = w.heap.size + 1 := by
  show (w.heap.push o).size = _
  simp
theorem handAt_at {W : World} {n m : Nat} (hn : W.heap.size = n) (hm : m < 16) (T : TypeId) (v : Value) {B : Nat} (hB : B ≤ n) : NewHand B (handAt W m (.iface T v)) (n + 1) n m T v := by
  subst hn
  exact handAt_new W hm T v hB
theorem le_alloc (w : World) (o : Obj) : w.heap.size ≤ (w.alloc o).heap.size := by
  show w.heap.size ≤ (w.heap.push o).size
  simp
theorem part_and (m c k : Nat) (x : Value) : part? (m &&& c) k x = if c.testBit k then part? m k x else .nilIface := by
  unfold part?
  rw [Nat.testBit_and]
  cases m.testBit k <;> cases c.testBit k <;> rfl
theorem part_one (m k : Nat) (T : TypeId) (v : Value) : (part? m k (.iface T v)).oneCell' = true := by
  unfold part?
  split <;> rfl
theorem and_lt16 {m c : Nat} (hm : m < 16) : m &&& c < 16 := Nat.lt_of_le_of_lt Nat.and_le_left hm

set_option maxHeartbeats 4000000 in
theorem only_any {w : World} {H P m c : Nat} {T : TypeId} {v : Value} (h : Hand w H P m T v) (hc : c < 256) :
    Calls Try.prog 35 #[.pointer (some ⟨H, 0, none⟩), .int .u8 (c : Int)] w fun e w' =>
      ∃ H' P', e = .returned (.pointer (some ⟨H', 0, none⟩)) ∧ NewHand w.heap.size w' H' P' (m &&& c) T v ∧ Below w.heap.size w w' := by
  obtain ⟨c0, c1, c2, c3, c4, c5⟩ := h.cells
  have hm : m &&& c < 16 := and_lt16 h.lt
  have p0 := part_and m c 0 (.iface T v)
  have p1 := part_and m c 1 (.iface T v)
  have p2 := part_and m c 2 (.iface T v)
  have p3 := part_and m c 3 (.iface T v)
  have s0 := fun a W => run_store Try.prog W a _ .plain (part_one m 0 T v)
  have s1 := fun a W => run_store Try.prog W a _ .plain (part_one m 1 T v)
  have s2 := fun a W => run_store Try.prog W a _ .plain (part_one m 2 T v)
  have s3 := fun a W => run_store Try.prog W a _ .plain (part_one m 3 T v)
  have s5 := fun a W => run_store Try.prog W a (fileOf P m) .plain rfl
  have e0 := and_bit1 c hc
  have e1 := and_bit2 c hc
  have e2 := and_bit4 c hc
  have e3 := and_bit8 c hc
  have hq := fun W => make_any T v W hm
  rw [p0, p1, p2, p3] at hq
  clear p0 p1 p2 p3
  generalize part? m 0 (.iface T v) = y0 at *
  generalize part? m 1 (.iface T v) = y1 at *
  generalize part? m 2 (.iface T v) = y2 at *
  generalize part? m 3 (.iface T v) = y3 at *
  generalize fileOf P m = z at *
  replace hc := box hc
  clear h
  cases hb0 : c.testBit 0 <;> cases hb1 : c.testBit 1 <;> cases hb2 : c.testBit 2 <;> cases hb3 : c.testBit 3 <;>
    simp only [hb0, hb1, hb2, hb3, Bool.not_true, Bool.not_false, if_true, if_false, Bool.false_eq_true] at e0 e1 e2 e3 hq <;>
    clear hb0 hb1 hb2 hb3 <;>
    (replace hq := box hq
     go_enter Try.func35, Try.ntmps35
     go_wp2_with fail
     refine (hq.out _).mono ?_
     rintro e w' ⟨rfl, hw⟩
     clear c0 c1 c2 c3 c4 c5 s0 s1 s2 s3 s5 e0 e1 e2 e3 hq
     replace hw := box hw
     replace hm := box hm
     go_wp2_with fail
     go_ret
     obtain rfl := hw.out
     exact ⟨_, _, rfl, handAt_at (size_alloc _ _) hm.out T v (Nat.le_succ _), (Below.alloc (Below.refl _ w) (Nat.le_refl _) _).trans (handAt_below _ _ _ (le_alloc _ _))⟩)
end Go.Proofs.Ytajfamjdfhjdeaa
