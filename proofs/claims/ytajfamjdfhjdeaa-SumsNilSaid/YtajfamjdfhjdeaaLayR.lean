/- (*mantleref01.Bytes).lay. -/
import Derived.Test.YtajfamjdfhjdeaaTaken
import Derived.Test.YtajfamjdfhjdeaaPutA
namespace Go.Proofs.Ytajfamjdfhjdeaa
open Go.RowKit
attribute [local go_sem ↓] Go.wp_at_zero Go.wp_at_succ

theorem app8G (w : World) {ops : Array Oper} {rest : List Oper} {o : Oper} {a : Act} {Q : Exit → Act → World → Prop} (s x : Operand) (base : Nat) {A : Option Addr} {n c : Nat} {xs : List Int}
    {B : Nat} {A1 : Option Addr} {m c1 : Nat} {zs : List Int} (hown : Own8 w base A n c xs) (hr : Src w B 1 A1 m (u8s zs)) (hgd : o.guard = none)
    (ho : o.op = .call { callee := .builtin .append, args := #[s, x], argTypes := #[22, 22] })
    (hs : a.eval s = .slice A n c) (hx : a.eval x = .slice A1 m c1) (hb : n + m ≤ 140737488355328) (hbase : base ≤ w.heap.size)
    (h : ∀ A' c' w', Box (Own8 w' base A' (n + m) c' (xs ++ zs)) → Box (w.grownBy w' (Value.slice A n c).ownBlock) → wpList Try.prog ops Q rest (a.put o.dst (.slice A' (n + m) c')) w') :
    wpList Try.prog ops Q (o :: rest) a w := by
  obtain ⟨i0, hi0, hz⟩ := Option.map_eq_some_iff.1 u8_info
  simp only [Prod.mk.injEq] at hz
  refine wpList_app w hgd s x 22 ho base 5 i0 (.int .u8 0) 1 1 Try.underlying22 hi0 hz.1 hz.2.1 hz.2.2 rfl (by omega) _ n (u8s xs) hs hown B A1 m c1 (u8s zs) hx hr (u8s_one _) (by simp only [maxLen]; omega) (by omega) hbase ?_
  intro A' c' w' L
  exact h A' c' w' ⟨by have := L.1; rwa [← u8s_append] at this⟩ ⟨L.2.1⟩

/-- What lay has, while it goes over the pieces. -/
structure LayI (F : Nat → Prop) (w1 : World) (ow : Nat) (st : LaySt) (A1 : Option Addr) (m1 c1 : Nat) (A2 : Option Addr) (m2 c2 : Nat) (A3 : Option Addr) (n3 c3 : Nat) (wr : World) : Prop where
  r1 : OwnR wr (ow + 1) A1 m1 c1 st.ahead
  r2 : OwnR wr (ow + 1) A2 m2 c2 st.behind
  ne : ∀ x, (Value.slice A1 m1 c1).ownBlock = some x → (Value.slice A2 m2 c2).ownBlock ≠ some x
  own : wr.heap[ow]? = some (.cells #[.int .i64 st.at_, .slice A3 n3 c3] 184)
  o8 : Own8 wr (ow + 1) A3 n3 c3 st.own
  fo : ∀ k, ow ≤ k → F k
  bel : Chg F w1 wr

theorem own8_blk {w : World} {base n c : Nat} {A : Option Addr} {zs : List Int} (h : Own8 w base A n c zs) {k : Nat} (hk : (Value.slice A n c).ownBlock = some k) : base ≤ k ∧ k < w.heap.size ∧ ∃ cur, w.heap[k]? = some (.cells cur 5 (0, 0)) := by
  rcases h.2 with ⟨h1, _⟩ | ⟨g, cap, cur, h1, h2, h3, _⟩
  · rw [h1] at hk; cases hk
  · rw [h1] at hk
    cases hk
    exact ⟨h2, lt_of_heap h3, cur, h3⟩
theorem own8_keep {w w' : World} {base n c : Nat} {A : Option Addr} {zs : List Int} (h : Own8 w base A n c zs) (hk : ∀ k, (Value.slice A n c).ownBlock = some k → w'.heap[k]? = w.heap[k]?) : Own8 w' base A n c zs := by
  refine ⟨h.1, ?_⟩
  rcases h.2 with h | ⟨g, cap, cur, h1, h2, h3, h4⟩
  · exact .inl h
  · refine .inr ⟨g, cap, cur, h1, h2, (hk g ?_).trans h3, h4⟩
    rw [h1]
    rfl

section
variable {F : Nat → Prop} {w1 wr w' : World} {ow : Nat} {st : LaySt} {A1 A2 A3 : Option Addr} {m1 c1 m2 c2 n3 c3 : Nat}
theorem Chg.grownB {F : Nat → Prop} {a w w' : World} {row : Option Nat} (h : Chg F a w) (hg : w.grownBy w' row) (hr : ∀ k, row = some k → F k) : Chg F a w' :=
  ⟨hg.os.trans h.os, hg.tape.trans h.tape, hg.output.trans h.output, Nat.le_trans h.size hg.size, fun k hk hn => (hg.block k (Nat.lt_of_lt_of_le hk h.size) fun e => hn (hr k e.symm)).trans (h.block k hk hn)⟩
theorem LayI.lt (h : LayI F w1 ow st A1 m1 c1 A2 m2 c2 A3 n3 c3 wr) : ow < wr.heap.size := lt_of_heap h.own
theorem LayI.grown (h : LayI F w1 ow st A1 m1 c1 A2 m2 c2 A3 n3 c3 wr) (hb : Below wr.heap.size wr w') : LayI F w1 ow st A1 m1 c1 A2 m2 c2 A3 n3 c3 w' :=
  ⟨OwnR.grown h.r1 hb, OwnR.grown h.r2 hb, h.ne, (hb.block ow h.lt).trans h.own, own8_keep h.o8 fun k hk => hb.block k (own8_blk h.o8 hk).2.1, h.fo, h.bel.trans (Chg.new (F := NoB) hb) fun _ _ h => h.elim⟩
theorem LayI.ahead {zs : List Lp} {A' : Option Addr} {m' c' : Nat} (h : LayI F w1 ow st A1 m1 c1 A2 m2 c2 A3 n3 c3 wr) (hO : OwnR w' (ow + 1) A' m' c' (st.ahead ++ zs)) (hG : wr.grownBy w' (Value.slice A1 m1 c1).ownBlock)
    (hK : (Value.slice A' m' c').ownBlock = (Value.slice A1 m1 c1).ownBlock ∨ (Value.slice A' m' c').ownBlock = some wr.heap.size) : LayI F w1 ow { st with ahead := st.ahead ++ zs } A' m' c' A2 m2 c2 A3 n3 c3 w' := by
  refine ⟨hO, ?_, ?_, ?_, ?_, h.fo, ?_⟩
  · exact OwnR.keep h.r2 fun k hk => hG.block k (OwnR.blk h.r2 hk).2.1 fun e => h.ne k e.symm hk
  · intro x hx
    rcases hK with e | e
    · exact h.ne x (e.symm.trans hx)
    · rw [e] at hx
      cases hx
      intro h2
      have := (OwnR.blk h.r2 h2).2.1
      omega
  · exact (hG.block ow h.lt fun e => by have := (OwnR.blk h.r1 e.symm).1; omega).trans h.own
  · refine own8_keep h.o8 fun k hk => ?_
    obtain ⟨_, hlt, cur, hc⟩ := own8_blk h.o8 hk
    refine hG.block k hlt fun e => ?_
    obtain ⟨_, _, _, cur2, hc2⟩ := OwnR.blk h.r1 e.symm
    rw [hc] at hc2
    cases hc2
  · exact h.bel.grownB hG fun k hk => h.fo k (by have := (OwnR.blk h.r1 hk).1; omega)
theorem LayI.behind {p : Lp} {A' : Option Addr} {m' c' : Nat} (h : LayI F w1 ow st A1 m1 c1 A2 m2 c2 A3 n3 c3 wr) (hO : OwnR w' (ow + 1) A' m' c' (st.behind ++ [p])) (hG : wr.grownBy w' (Value.slice A2 m2 c2).ownBlock)
    (hK : (Value.slice A' m' c').ownBlock = (Value.slice A2 m2 c2).ownBlock ∨ (Value.slice A' m' c').ownBlock = some wr.heap.size) : LayI F w1 ow { st with behind := st.behind ++ [p] } A1 m1 c1 A' m' c' A3 n3 c3 w' := by
  refine ⟨?_, hO, ?_, ?_, ?_, h.fo, ?_⟩
  · exact OwnR.keep h.r1 fun k hk => hG.block k (OwnR.blk h.r1 hk).2.1 fun e => h.ne k hk e.symm
  · intro x hx
    rcases hK with e | e
    · rw [e]; exact h.ne x hx
    · rw [e]
      intro h2
      cases h2
      have := (OwnR.blk h.r1 hx).2.1
      omega
  · exact (hG.block ow h.lt fun e => by have := (OwnR.blk h.r2 e.symm).1; omega).trans h.own
  · refine own8_keep h.o8 fun k hk => ?_
    obtain ⟨_, hlt, cur, hc⟩ := own8_blk h.o8 hk
    refine hG.block k hlt fun e => ?_
    obtain ⟨_, _, _, cur2, hc2⟩ := OwnR.blk h.r2 e.symm
    rw [hc] at hc2
    cases hc2
  · exact h.bel.grownB hG fun k hk => h.fo k (by have := (OwnR.blk h.r2 hk).1; omega)
theorem set_block {w : World} {k b o : Nat} {v : Value} (h : k ≠ b) : (w.setCell ⟨b, o, none⟩ v).heap[k]? = w.heap[k]? := Below.heap_setCell w ⟨b, o, none⟩ v k h
theorem LayI.setAt (h : LayI F w1 ow st A1 m1 c1 A2 m2 c2 A3 n3 c3 wr) (x : Int) : LayI F w1 ow { st with at_ := x } A1 m1 c1 A2 m2 c2 A3 n3 c3 (wr.setCell ⟨ow, 0, none⟩ (.int .i64 x)) := by
  refine ⟨OwnR.keep h.r1 fun k hk => ?_, OwnR.keep h.r2 fun k hk => ?_, h.ne, block_set h.own _, own8_keep h.o8 fun k hk => ?_, h.fo, h.bel.setCell (p := ⟨ow, 0, none⟩) (fun _ => h.fo ow (Nat.le_refl _)) _⟩
  · exact set_block (by have := (OwnR.blk h.r1 hk).1; omega)
  · exact set_block (by have := (OwnR.blk h.r2 hk).1; omega)
  · exact set_block (by have := (own8_blk h.o8 hk).1; omega)
theorem LayI.setG {g o : Nat} (h : LayI F w1 ow st A1 m1 c1 A2 m2 c2 A3 n3 c3 wr) (hg : g < ow) (hF : F g) (x : Value) : LayI F w1 ow st A1 m1 c1 A2 m2 c2 A3 n3 c3 (wr.setCell ⟨g, o, none⟩ x) := by
  refine ⟨OwnR.keep h.r1 fun k hk => ?_, OwnR.keep h.r2 fun k hk => ?_, h.ne, ?_, own8_keep h.o8 fun k hk => ?_, h.fo, h.bel.setCell (p := ⟨g, o, none⟩) (fun _ => hF) _⟩
  · exact set_block (by have := (OwnR.blk h.r1 hk).1; omega)
  · exact set_block (by have := (OwnR.blk h.r2 hk).1; omega)
  · exact (set_block (by omega)).trans h.own
  · exact set_block (by have := (own8_blk h.o8 hk).1; omega)
theorem LayI.wide {F' : Nat → Prop} (h : LayI F w1 ow st A1 m1 c1 A2 m2 c2 A3 n3 c3 wr) (hF : ∀ k, F k → F' k) : LayI F' w1 ow st A1 m1 c1 A2 m2 c2 A3 n3 c3 wr :=
  ⟨h.r1, h.r2, h.ne, h.own, h.o8, fun k hk => hF k (h.fo k hk), h.bel.mono fun k _ hk => hF k hk⟩
theorem LayI.app8 {zs : List Int} {A' : Option Addr} {n' c' : Nat} (h : LayI F w1 ow st A1 m1 c1 A2 m2 c2 A3 n3 c3 wr) (hO : Own8 w' (ow + 1) A' n' c' (st.own ++ zs)) (hG : wr.grownBy w' (Value.slice A3 n3 c3).ownBlock) :
    LayI F w1 ow { st with own := st.own ++ zs } A1 m1 c1 A2 m2 c2 A' n' c' (w'.setCell ⟨ow, 1, none⟩ (.slice A' n' c')) := by
  have hb : ∀ {A : Option Addr} {m c k : Nat} {l : List Lp}, OwnR wr (ow + 1) A m c l → (Value.slice A m c).ownBlock = some k → (w'.setCell ⟨ow, 1, none⟩ (.slice A' n' c')).heap[k]? = wr.heap[k]? := fun {A m c k l} hr hk => by
    obtain ⟨hk1, hk2, _, cur, hk3⟩ := OwnR.blk hr hk
    rw [set_block (by omega)]
    refine hG.block k hk2 fun e => ?_
    obtain ⟨_, _, cur2, hc2⟩ := own8_blk h.o8 e.symm
    rw [hk3] at hc2
    cases hc2
  refine ⟨OwnR.keep h.r1 fun k hk => hb h.r1 hk, OwnR.keep h.r2 fun k hk => hb h.r2 hk, h.ne, ?_, own8_keep hO fun k hk => set_block (by have := (own8_blk hO hk).1; omega), h.fo, ?_⟩
  · exact block_set ((hG.block ow h.lt fun e => by have := (own8_blk h.o8 e.symm).1; omega).trans h.own) _
  · exact (h.bel.grownB hG fun k hk => h.fo k (by have := (own8_blk h.o8 hk).1; omega)).setCell (p := ⟨ow, 1, none⟩) (fun _ => h.fo ow (Nat.le_refl _)) _
end

theorem OwnR.src {w : World} {base n c : Nat} {A : Option Addr} {l : List Lp} (h : OwnR w base A n c l) : Src w w.heap.size 2 A n (lcells l) := by
  have hl := h.len
  refine ⟨by rw [lcells_len]; omega, fun hn => ?_⟩
  obtain ⟨g, cap, hv, _, hlt⟩ := h.form (by omega)
  cases hv
  refine ⟨g, 0, rfl, hlt, fun i u hu => ?_⟩
  have hi := (List.getElem?_eq_some_iff.1 hu).1
  rw [lcells_len] at hi
  rw [Nat.zero_add, World.ownsRow.cellAt h i (by omega), ← hu]

/-- What lay leaves. -/
def LayLeft (w : World) (G : Nat → Prop) (g : Nat) (N : Int) (ps : List Pc) (w' : World) : Prop :=
  ∃ A c ls', w'.heap[g]? = some (.cells #[.slice A ls'.length c, .int .i64 N] 108) ∧ OwnR w' w.heap.size A ls'.length c ls' ∧
    (∀ p ∈ ls', LpOk w' (fun k => G k ∨ (w.heap.size ≤ k ∧ k < w'.heap.size)) p) ∧ lpcs ls' = ps ∧ Chg (fun k => k = g) w w'
end Go.Proofs.Ytajfamjdfhjdeaa
