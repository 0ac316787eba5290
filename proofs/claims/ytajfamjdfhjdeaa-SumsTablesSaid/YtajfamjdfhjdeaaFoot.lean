/- 'Chg F w w'': of what is there in w only blocks in F have turned. -/
import Derived.Test.YtajfamjdfhjdeaaCan
namespace Go.Proofs.Ytajfamjdfhjdeaa
open Go.RowKit

structure Chg (F : Nat → Prop) (w w' : World) : Prop where
  os : w'.os = w.os
  tape : w'.tape = w.tape
  output : w'.output = w.output
  size : w.heap.size ≤ w'.heap.size
  block : ∀ k, k < w.heap.size → ¬ F k → w'.heap[k]? = w.heap[k]?

/-- No block. -/
def NoB : Nat → Prop := fun _ => False
/-- The blocks from a on, below b. -/
def Btw (a b : Nat) : Nat → Prop := fun k => a ≤ k ∧ k < b

section
variable {F G : Nat → Prop} {a b c w w' : World} {B : Nat}
theorem Chg.refl (F : Nat → Prop) (w : World) : Chg F w w := ⟨rfl, rfl, rfl, Nat.le_refl _, fun _ _ _ => rfl⟩
theorem Chg.mono (h : Chg F a b) (hFG : ∀ k, k < a.heap.size → F k → G k) : Chg G a b := ⟨h.os, h.tape, h.output, h.size, fun k hk hn => h.block k hk fun hf => hn (hFG k hk hf)⟩
theorem Chg.trans (h : Chg F a b) (g : Chg G b c) (hG : ∀ k, k < a.heap.size → G k → F k) : Chg F a c :=
  ⟨g.os.trans h.os, g.tape.trans h.tape, g.output.trans h.output, Nat.le_trans h.size g.size, fun k hk hn =>
    (g.block k (Nat.lt_of_lt_of_le hk h.size) fun hg => hn (hG k hk hg)).trans (h.block k hk hn)⟩
theorem Chg.of_below (h : Below B w w') (hB : ∀ k, k < w.heap.size → B ≤ k → F k) : Chg F w w' :=
  ⟨h.os, h.tape, h.output, h.size, fun k hk hn => h.block k (by
    rcases Nat.lt_or_ge k B with g | g
    · exact g
    · exact absurd (hB k hk g) hn)⟩
theorem Chg.new (h : Below w.heap.size w w') : Chg F w w' := Chg.of_below h fun k h1 h2 => absurd h1 (by omega)
theorem Chg.below (h : Chg F w w') (hF : ∀ k, F k → B ≤ k) (hB : B ≤ w.heap.size) : Below B w w' :=
  ⟨h.os, h.tape, h.output, h.size, fun k hk => h.block k (by omega) fun hf => by have := hF k hf; omega⟩
theorem Chg.alloc (h : Chg F a w) (o : Obj) : Chg F a (w.alloc o) :=
  h.trans (G := NoB) (Chg.new (Below.alloc (Below.refl _ _) (Nat.le_refl _) o)) fun _ _ h => h.elim
theorem Chg.drewN (h : Chg F a w) (n : Nat) : Chg F a (w.drewN n) := ⟨h.os, h.tape, h.output, h.size, h.block⟩
theorem Chg.drew (h : Chg F a w) : Chg F a w.drew := ⟨h.os, h.tape, h.output, h.size, h.block⟩
theorem Chg.setCell (h : Chg F a w) {p : Addr} (hp : p.block < a.heap.size → F p.block) (u : Value) : Chg F a (w.setCell p u) :=
  ⟨h.os, h.tape, h.output, by simpa [World.setCell] using h.size, fun k hk hn => by
    rw [Below.heap_setCell w p u k fun e => hn (by rw [e]; exact hp (by omega))]
    exact h.block k hk hn⟩
theorem Chg.setNew (h : Chg F a w) {p : Addr} (hp : a.heap.size ≤ p.block) (u : Value) : Chg F a (w.setCell p u) := h.setCell (fun g => absurd g (by omega)) u
end

theorem block_set {w : World} {b o : Nat} {cs : Array Value} {e : TypeId} {fr : Nat × Nat} (h : w.heap[b]? = some (.cells cs e fr)) (v : Value) : (w.setCell ⟨b, o, none⟩ v).heap[b]? = some (.cells (cs.setIfInBounds o v) e fr) := by
  simp [World.setCell, Array.getElem?_modify, h]
theorem frozen_of_heap {w : World} {b o : Nat} {cs : Array Value} {e : TypeId} (h : w.heap[b]? = some (.cells cs e)) : w.frozen? ⟨b, o, none⟩ = false := by
  simp [World.frozen?, h]
/-- The blocks from a on, below b, are as they were. -/
structure Keeps (a b : Nat) (w w' : World) : Prop where
  size : w.heap.size ≤ w'.heap.size
  block : ∀ k, a ≤ k → k < b → w'.heap[k]? = w.heap[k]?

/-- A handle stands behind what turned no block of its own. -/
theorem Hand.keep {w w' : World} {H P m : Nat} {T : TypeId} {v : Value} (h : Hand w H P m T v) (hH : w'.heap[H]? = w.heap[H]?) (hP : w'.heap[P]? = w.heap[P]?) : Hand w' H P m T v :=
  ⟨h.lt, hH.trans h.top, hP.trans h.low⟩
theorem lt_of_heap {w : World} {b : Nat} {o : Obj} (h : w.heap[b]? = some o) : b < w.heap.size := (Array.getElem?_eq_some_iff.1 h).1
theorem Hand.ltH {w : World} {H P m : Nat} {T : TypeId} {v : Value} (h : Hand w H P m T v) : H < w.heap.size := lt_of_heap h.top
theorem Hand.ltP {w : World} {H P m : Nat} {T : TypeId} {v : Value} (h : Hand w H P m T v) : P < w.heap.size := lt_of_heap h.low
theorem Hand.chg {F : Nat → Prop} {w w' : World} {H P m : Nat} {T : TypeId} {v : Value} (h : Hand w H P m T v) (g : Chg F w w') (hH : ¬ F H) (hP : ¬ F P) : Hand w' H P m T v :=
  h.keep (g.block H h.ltH hH) (g.block P h.ltP hP)
theorem Hand.below {B : Nat} {w w' : World} {H P m : Nat} {T : TypeId} {v : Value} (h : Hand w H P m T v) (g : Below B w w') (hH : H < B) (hP : P < B) : Hand w' H P m T v :=
  h.keep (g.block H hH) (g.block P hP)
/-- .. from the heap's size on. -/
theorem Hand.grown {w w' : World} {H P m : Nat} {T : TypeId} {v : Value} (h : Hand w H P m T v) (g : Below w.heap.size w w') : Hand w' H P m T v :=
  h.below g h.ltH h.ltP
end Go.Proofs.Ytajfamjdfhjdeaa
