/- Do of a size, of a read, where the callee lays blocks alone. -/
import Derived.Test.YtajfamjdfhjdeaaDoRead
namespace Go.Proofs.Ytajfamjdfhjdeaa
open Go.RowKit

/-- Do of a read, where the callee lays blocks alone and tells (E, zs). -/
theorem do_read_grown {w : World} {H P m : Nat} {T : TypeId} {v : Value} (h : Hand w H P m T v) (g : FuncId) (at_ n E : Int) (zs : List Int) (op : Value)
    (hm : ∀ fuel W, (method (fuel + 1) T v "ReadAt").run Try.prog W = .ok (g, v) W)
    (hg : ∀ args W, (callFunc g args).run Try.prog W = .ok (.enter g args) W)
    (hc : ∀ W, Below w.heap.size w W → Calls Try.prog g #[v, .int .i64 at_, .int .i64 n] W fun e w' => ∃ A k c, e = .returned (.tuple #[.slice A k c, .int .i64 E]) ∧ Byt w' w'.heap.size A k zs ∧ k ≤ 4294967296 ∧ Below W.heap.size W w') :
    Calls Try.prog 14 #[.pointer (some ⟨H, 0, none⟩), .agg #[.int .i8 1, .int .i64 at_, .int .i64 n, op]] w fun e w' =>
      ∃ A k c, e = .returned (.agg #[.int .i64 E, .int .i64 0, .int .i64 0, .slice A k c]) ∧ Byt w' w'.heap.size A k zs ∧ k ≤ c ∧ c ≤ 9223372036854775807 ∧ Below w.heap.size w w' := by
  have hr := do_read h g (fun W E' zs' w' => E' = E ∧ zs' = zs ∧ Below W.heap.size W w') at_ n op hm hg (fun W hW hs => (hc W hW).mono fun e w' ⟨A, k, c, h1, h2, h3, h4⟩ => ⟨A, k, c, E, zs, h1, h2, h3, ⟨rfl, rfl, h4⟩,
    (Chg.new (F := NoB) h4).lets hs (by have := h.ltH; omega) (by have := h.ltP; omega) (fun _ _ _ h => h) (fun h => h) (fun h => h)⟩)
  refine hr.mono fun e w' ⟨W, A, k, c, E', zs', w1, h1, h2, h3, h4, h5, ⟨e1, e2, h6⟩, h7⟩ => ?_
  subst e1
  subst e2
  have hb : Below w.heap.size w w1 := h4.trans (h6.mono (by omega))
  have hs1 : w.heap.size + 3 ≤ w1.heap.size := by have := h6.size; omega
  exact ⟨A, k, c, h1, Byt.of_own h2 h3, (own_cap h2).1, (own_cap h2).2, hb.trans (h7.below (fun k hk => hk.1) (by omega))⟩

theorem do_size_grown {w : World} {H P m : Nat} {T : TypeId} {v : Value} (h : Hand w H P m T v) (g : FuncId) (at_ n s : Int) (op : Value)
    (hm : ∀ fuel W, (method (fuel + 1) T v "Size").run Try.prog W = .ok (g, v) W)
    (hg : ∀ args W, (callFunc g args).run Try.prog W = .ok (.enter g args) W)
    (hc : ∀ W, Below w.heap.size w W → Calls Try.prog g #[v] W fun e w' => e = .returned (.int .i64 s) ∧ Below W.heap.size W w') :
    Calls Try.prog 14 #[.pointer (some ⟨H, 0, none⟩), .agg #[.int .i8 0, .int .i64 at_, .int .i64 n, op]] w fun e w' =>
      e = .returned (.agg #[.int .i64 0, .int .i64 s, .int .i64 0, .slice none 0 0]) ∧ Below w.heap.size w w' := by
  have hr := do_size h g (fun W s' w' => s' = s ∧ Below W.heap.size W w' ∧ w.heap.size + 3 ≤ W.heap.size) at_ n op hm hg (fun W hW hs => (hc W hW).mono fun e w' ⟨h1, h4⟩ => ⟨s, h1, ⟨rfl, h4, hs⟩,
    (Chg.new (F := NoB) h4).lets hs (by have := h.ltH; omega) (by have := h.ltP; omega) (fun _ _ _ h => h) (fun h => h) (fun h => h)⟩)
  refine hr.mono fun e w' ⟨W, s', w1, h1, h4, ⟨e1, h6, h5⟩, h7⟩ => ?_
  subst e1
  have hb : Below w.heap.size w w1 := h4.trans (h6.mono (by omega))
  exact ⟨h1, hb.trans (h7.below (fun k hk => hk.1) (by have := h6.size; omega))⟩
end Go.Proofs.Ytajfamjdfhjdeaa
