/- append onto bytes, as the walks want it: one law for each place, with few arguments. -/
import Derived.Test.YtajfamjdfhjdeaaFacts
import Derived.Test.YtajfamjdfhjdeaaKit2
namespace Go.Proofs.Ytajfamjdfhjdeaa
open Go.RowKit

/-- The call owns these bytes. -/
abbrev Own8 (w : World) (base : Nat) (A : Option Addr) (n c : Nat) (zs : List Int) : Prop := w.ownsRow base 5 1 (.slice A n c) n (u8s zs)
theorem Own8.nil (w : World) (base : Nat) : Own8 w base none 0 0 [] := World.ownsRow_nil _ _ _ _

theorem app8 (w : World) {ops : Array Oper} {rest : List Oper} {o : Oper} {a : Act} {Q : Exit → Act → World → Prop} (s x : Operand) (base : Nat) {A : Option Addr} {n c : Nat} {xs : List Int}
    {B : Nat} {A1 : Option Addr} {m c1 : Nat} {zs : List Int} (hown : Own8 w base A n c xs) (hr : Src w B 1 A1 m (u8s zs)) (hgd : o.guard = none)
    (ho : o.op = .call { callee := .builtin .append, args := #[s, x], argTypes := #[22, 22] })
    (hs : a.eval s = .slice A n c) (hx : a.eval x = .slice A1 m c1) (hb : n + m ≤ 140737488355328) (hbase : base ≤ w.heap.size)
    (h : ∀ A' c' w', Own8 w' base A' (n + m) c' (xs ++ zs) → Below base w w' → w.heap.size ≤ w'.heap.size → wpList Try.prog ops Q rest (a.put o.dst (.slice A' (n + m) c')) w') :
    wpList Try.prog ops Q (o :: rest) a w := by
  obtain ⟨i0, hi0, hz⟩ := Option.map_eq_some_iff.1 u8_info
  simp only [Prod.mk.injEq] at hz
  refine wpList_app w hgd s x 22 ho base 5 i0 (.int .u8 0) 1 1 Try.underlying22 hi0 hz.1 hz.2.1 hz.2.2 rfl (by omega) _ n (u8s xs) hs hown B A1 m c1 (u8s zs) hx hr (u8s_one _) (by simp only [maxLen]; omega) (by omega) hbase ?_
  intro A' c' w' L
  have hbw : Below base w w' := Below.app (Below.refl _ _) L hown (Nat.le_refl _) hbase
  exact h A' c' w' (by have := L.1; rwa [← u8s_append] at this) hbw hbw.size

theorem step8 (w : World) {ops : Array Oper} {o : Oper} {a : Act} {K : Act → World → Prop} {Q : Exit → Act → World → Prop} {E : Prop} (s x : Operand) (base : Nat) {A : Option Addr} {n c : Nat} {xs : List Int}
    {B : Nat} {A1 : Option Addr} {m c1 : Nat} {zs : List Int} (hown : Own8 w base A n c xs) (hr : Src w B 1 A1 m (u8s zs)) (hgd : o.guard = none)
    (ho : o.op = .call { callee := .builtin .append, args := #[s, x], argTypes := #[22, 22] })
    (hs : a.eval s = .slice A n c) (hx : a.eval x = .slice A1 m c1) (hb : n + m ≤ 140737488355328) (hbase : base ≤ w.heap.size)
    (h : ∀ A' c' w', Own8 w' base A' (n + m) c' (xs ++ zs) → Below base w w' → w.heap.size ≤ w'.heap.size → K (a.put o.dst (.slice A' (n + m) c')) w') :
    if Region.wanted o (yielded ops a.tmps) = true then Oper.wp Try.prog o a w K Q else E := by
  obtain ⟨i0, hi0, hz⟩ := Option.map_eq_some_iff.1 u8_info
  simp only [Prod.mk.injEq] at hz
  refine step_app w hgd s x 22 ho base 5 i0 (.int .u8 0) 1 1 Try.underlying22 hi0 hz.1 hz.2.1 hz.2.2 rfl (by omega) _ n (u8s xs) hs hown B A1 m c1 (u8s zs) hx hr (u8s_one _) (by simp only [maxLen]; omega) (by omega) hbase ?_
  intro A' c' w' L
  have hbw : Below base w w' := Below.app (Below.refl _ _) L hown (Nat.le_refl _) hbase
  exact h A' c' w' (by have := L.1; rwa [← u8s_append] at this) hbw hbw.size
end Go.Proofs.Ytajfamjdfhjdeaa
