/- A row of bytes that came in, in our words. -/
import Derived.Test.YtajfamjdfhjdeaaKit2
namespace Go.Proofs.Ytajfamjdfhjdeaa
open Go.RowKit
/-- A row that came in, in our words. -/
theorem byt_in {w : World} {a : Option Addr} {len cap : Nat} {zs : List Int}
    (h : (a = none ∧ len = 0 ∧ cap = 0 ∧ zs = []) ∨ ∃ x, a = some x ∧ len ≤ cap ∧ cap ≤ maxLen ∧ zs.length = cap ∧ (∀ i, i < zs.length → w.cell? (x.add i) = some (.int .u8 (zs.getD i 0))) ∧ ∀ n ∈ zs, (Lit.int .u8 n).wf = true) :
    ∃ xs, Byt w w.heap.size a len xs ∧ len ≤ cap ∧ cap ≤ 9223372036854775807 := by
  rcases h with ⟨rfl, rfl, rfl, rfl⟩ | ⟨x, rfl, hl, hm, hz, hcell, hwz⟩
  · exact ⟨[], Byt.none_, Nat.le_refl _, by omega⟩
  · refine ⟨zs.take len, ?_, hl, by simp only [maxLen] at hm; omega⟩
    have hbs : Bs (zs.take len) := Bs.take (fun y hy => by
      have h := hwz y hy
      have h1 : IntKind.u8.min = 0 := rfl
      have h2 : IntKind.u8.max = 255 := rfl
      simp only [Lit.wf, Bool.and_eq_true, decide_eq_true_eq] at h
      omega) len
    by_cases h0 : len = 0
    · subst h0
      rw [List.take_zero]
      exact Byt.none_
    · obtain ⟨b, off, spot⟩ := x
      have hc := hcell 0 (by omega)
      have hspot : spot = none := by simpa [Addr.add] using World.cell?_spot hc
      subst hspot
      have hlt : b < w.heap.size := by
        have := World.block_lt_of_cell? _ _ hc
        rwa [add_at] at this
      refine Byt.of_cells (by rw [List.length_take]; omega) hbs hlt fun j hj => ?_
      have := hcell j (by omega)
      rw [add_at] at this
      rw [this]
      simp [List.getD, hj]
end Go.Proofs.Ytajfamjdfhjdeaa
