/- What a file behind a handle gives to a walk. -/
import Derived.Test.YtajfamjdfhjdeaaMem
import Derived.Test.YtajfamjdfhjdeaaCan
namespace Go.Proofs.Ytajfamjdfhjdeaa
open Go.RowKit

/-- What a file gives to a walk: its methods, found through the handle's file; its contracts. -/
structure Way (w : World) (P : Nat) (pt T : TypeId) (v : Value) (S R : FuncId) (sz : Int) (rd : Int → Int → Int × List Int) : Prop where
  low : w.cell? ⟨P, 0, none⟩ = some (.iface T v)
  size : ∀ fuel W, W.cell? ⟨P, 0, none⟩ = some (.iface T v) → (method (fuel + 2) pt (.pointer (some ⟨P, 0, none⟩)) "Size").run Try.prog W = .ok (S, v) W
  read : ∀ fuel W, W.cell? ⟨P, 0, none⟩ = some (.iface T v) → (method (fuel + 2) pt (.pointer (some ⟨P, 0, none⟩)) "ReadAt").run Try.prog W = .ok (R, v) W
  entS : ∀ args W, (callFunc S args).run Try.prog W = .ok (.enter S args) W
  entR : ∀ args W, (callFunc R args).run Try.prog W = .ok (.enter R args) W
  callS : ∀ W, Below w.heap.size w W → Calls Try.prog S #[v] W fun e w' => e = .returned (.int .i64 sz) ∧ Below W.heap.size W w'
  callR : ∀ W at_ n E zs, rd at_ n = (E, zs) → Below w.heap.size w W → Calls Try.prog R #[v, .int .i64 at_, .int .i64 n] W fun e w' =>
      ∃ A k c, e = .returned (.tuple #[.slice A k c, .int .i64 E]) ∧ Box (Byt w' w'.heap.size A k zs) ∧ k ≤ c ∧ c ≤ 9223372036854775807 ∧ k ≤ 65536 ∧ Box (Below W.heap.size W w')
theorem Open.way {w : World} {H m : Nat} {sz : Int} {rd : Int → Int → Int × List Int} (h : Open w H m sz rd) :
    ∃ P pt T v S R, Way w P pt T v S R sz rd ∧ ∀ W, Below w.heap.size w W → Calls Try.prog 32 #[.pointer (some ⟨H, 0, none⟩)] W fun e w' => e = .returned (.iface pt (.pointer (some ⟨P, 0, none⟩))) ∧ w' = W := by
  obtain ⟨P, T, v, hH, S, R, h1, h2, h3, h4, h5, h6⟩ := h
  refine ⟨P, pT m, T, v, S, R, ⟨hH.low0, fun fuel W hW => (low_size hH.lt hW (fuel + 1)).trans (h1 fuel W), fun fuel W hW => (low_read hH.lt hW (fuel + 1)).trans (h2 fuel W), h3, h4, h5, ?_⟩, fun W hW => file_any (hH.grown hW)⟩
  intro W a n E zs hr hW
  have := h6 W a n hW
  rw [hr] at this
  exact this.mono fun e w' ⟨A, k, c, g1, g2, g3, g4, g5, g6⟩ => ⟨A, k, c, g1, ⟨g2⟩, g3, g4, g5, ⟨g6⟩⟩
end Go.Proofs.Ytajfamjdfhjdeaa
