/- More words of our own. -/
import Derived.Test.YtajfamjdfhjdeaaKit
import Derived.Lib.SlBytesConst
namespace Go.Proofs.Ytajfamjdfhjdeaa
open Go.RowKit
/-- A slice literal, just laid, with whatever mark. -/
theorem Byt.newm (w : World) (e : TypeId) (fr : Nat × Nat) (zs : List Int) (cs : Array Value) (hc : cs = (u8s zs).toArray) (hz : Bs zs) (n : Nat) (hn : n = zs.length) : Byt (w.alloc (.cells cs e fr)) (w.heap.size + 1) (some ⟨w.heap.size, 0, none⟩) n zs := by
  subst hc
  subst hn
  refine ⟨rfl, hz, by rw [u8s_length]; omega, fun _ => ⟨_, _, rfl, by omega, fun j u hu => ?_⟩⟩
  have := World.news_of_block (heap_alloc_new w (.cells (u8s zs).toArray e fr)) j u hu
  rwa [add_at] at this
theorem Byt.lit (w : World) (e : TypeId) (fr : Nat × Nat) (zs : List Int) (cs : Array Value) (n : Nat) (hc : cs = (u8s zs).toArray) (hz : Bs zs) (hn : n = zs.length) :
    Byt (w.alloc (.cells cs e fr)) (w.alloc (.cells cs e fr)).heap.size (some ⟨w.heap.size, 0, none⟩) n zs := by
  have h := Byt.newm w e fr zs cs hc hz n hn
  simpa using h
theorem byt_own {w : World} {B : Nat} {e : TypeId} {A : Option Addr} {n c : Nat} {zs : List Int} (h : w.ownsRow B e 1 (.slice A n c) n (u8s zs)) (hz : Bs zs) : Byt w w.heap.size A n zs := Byt.of_own h hz
theorem own_cap {w : World} {B : Nat} {e : TypeId} {s : Nat} {A : Option Addr} {n c : Nat} {vs : List Value} (h : w.ownsRow B e s (.slice A n c) n vs) : n ≤ c ∧ c ≤ 9223372036854775807 := by
  rcases h.2 with ⟨h1, h2⟩ | ⟨g, cap, cur, hv, _, _, h3, h4, _⟩
  · cases h1; omega
  · cases hv
    simp only [maxLen] at h4
    omega
/-- What lies below reads on, behind a call that leaves what lay below. -/
theorem Byt.past {w w' : World} {B : Nat} {A : Option Addr} {n : Nat} {zs : List Int} (h : Byt w B A n zs) (hb : Below w.heap.size w w') (hB : B ≤ w.heap.size) : Byt w' B A n zs :=
  h.keep fun q hq => hb.cell (by omega)
end Go.Proofs.Ytajfamjdfhjdeaa
