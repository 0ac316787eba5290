/- Rows of pieces in memory, owned. -/
import Derived.Test.YtajfamjdfhjdeaaGet
import Derived.Test.YtajfamjdfhjdeaaLayL
namespace Go.Proofs.Ytajfamjdfhjdeaa
open Go.RowKit

/-- A piece in memory: its place; where its bytes lie, with what room; its bytes. -/
abbrev Lp := Int × Option Addr × Nat × List Int
def lpc (p : Lp) : Pc := (p.1, p.2.2.2)
def lcell (p : Lp) : List Value := [.int .i64 p.1, .slice p.2.1 p.2.2.2.length p.2.2.1]
def lcells (l : List Lp) : List Value := l.flatMap lcell
def lpcs (l : List Lp) : List Pc := l.map lpc

theorem lcells_append (a b : List Lp) : lcells (a ++ b) = lcells a ++ lcells b := by simp [lcells]
theorem lcells_len : ∀ (a : List Lp), (lcells a).length = a.length * 2
  | [] => rfl
  | p :: a => by
    have := lcells_len a
    unfold lcells at *
    rw [List.flatMap_cons, List.length_append, this, List.length_cons]
    show 2 + a.length * 2 = _
    omega
theorem lcells_cons (p : Lp) (a : List Lp) : lcells (p :: a) = .int .i64 p.1 :: .slice p.2.1 p.2.2.2.length p.2.2.1 :: lcells a := rfl
theorem lcells_get : ∀ {a : List Lp} {i : Nat} {p : Lp}, a[i]? = some p → (lcells a)[i * 2]? = some (.int .i64 p.1) ∧ (lcells a)[i * 2 + 1]? = some (.slice p.2.1 p.2.2.2.length p.2.2.1)
  | q :: a, 0, p, h => by
    rw [List.getElem?_cons_zero] at h
    cases h
    exact ⟨rfl, rfl⟩
  | q :: a, i + 1, p, h => by
    rw [List.getElem?_cons_succ] at h
    have := lcells_get h
    rw [lcells_cons, show (i + 1) * 2 = i * 2 + 1 + 1 by omega, List.getElem?_cons_succ, List.getElem?_cons_succ, List.getElem?_cons_succ, List.getElem?_cons_succ]
    exact this
theorem lcells_take (a : List Lp) (k : Nat) : (lcells a).take (k * 2) = lcells (a.take k) := by
  by_cases h : k ≤ a.length
  · conv => lhs; rw [← List.take_append_drop k a, lcells_append]
    rw [List.take_append_of_le_length (by rw [lcells_len, List.length_take]; omega), List.take_of_length_le (by rw [lcells_len, List.length_take]; omega)]
  · rw [List.take_of_length_le (by rw [lcells_len]; omega), List.take_of_length_le (by omega)]
theorem lcells_drop (a : List Lp) (k : Nat) : (lcells a).drop (k * 2) = lcells (a.drop k) := by
  by_cases h : k ≤ a.length
  · conv => lhs; rw [← List.take_append_drop k a, lcells_append]
    rw [List.drop_append_of_le_length (by rw [lcells_len, List.length_take]; omega), List.drop_of_length_le (by rw [lcells_len, List.length_take]; omega), List.nil_append]
  · rw [List.drop_of_length_le (by rw [lcells_len]; omega), List.drop_of_length_le (by omega)]
    rfl
theorem lcells_one (a : List Lp) : ∀ u ∈ lcells a, u.oneCell' = true := by
  intro u hu
  obtain ⟨p, _, hu⟩ := List.mem_flatMap.1 hu
  unfold lcell at hu
  rcases List.mem_cons.1 hu with rfl | hu
  · rfl
  · rw [List.mem_singleton.1 hu]; rfl

/-- The call owns a row of pieces. -/
abbrev OwnP (w : World) (base : Nat) (A : Option Addr) (n c : Nat) (l : List Lp) : Prop := w.ownsRow base 122 2 (.slice A n c) n (lcells l)
theorem OwnP.len {w : World} {base n c : Nat} {A : Option Addr} {l : List Lp} (h : OwnP w base A n c l) : l.length = n := by
  have := h.1
  rw [lcells_len] at this
  omega
theorem OwnP.grown {w w' : World} {base n c : Nat} {A : Option Addr} {l : List Lp} (h : OwnP w base A n c l) (hb : Below w.heap.size w w') : OwnP w' base A n c l :=
  h.kept (row := none) ⟨hb.os, hb.tape, hb.output, hb.size, fun k hk _ => hb.block k hk⟩ (by cases (Value.slice A n c).ownBlock <;> simp)
theorem OwnP.keep {w w' : World} {base n c : Nat} {A : Option Addr} {l : List Lp} (h : OwnP w base A n c l) (hk : ∀ k, (Value.slice A n c).ownBlock = some k → w'.heap[k]? = w.heap[k]?) : OwnP w' base A n c l := by
  refine ⟨h.1, ?_⟩
  rcases h.2 with h | ⟨g, cap, cur, h1, h2, h3, h4⟩
  · exact .inl h
  · refine .inr ⟨g, cap, cur, h1, h2, (hk g ?_).trans h3, h4⟩
    rw [h1]
    rfl
theorem OwnP.base {w : World} {base base' n c : Nat} {A : Option Addr} {l : List Lp} (h : OwnP w base A n c l) (hb : ∀ k, (Value.slice A n c).ownBlock = some k → base' ≤ k) : OwnP w base' A n c l := by
  refine ⟨h.1, ?_⟩
  rcases h.2 with h | ⟨g, cap, cur, h1, h2, h3⟩
  · exact .inl h
  · exact .inr ⟨g, cap, cur, h1, hb g (by rw [h1]; rfl), h3⟩
theorem OwnP.blk {w : World} {base n c : Nat} {A : Option Addr} {l : List Lp} (h : OwnP w base A n c l) {k : Nat} (hk : (Value.slice A n c).ownBlock = some k) : base ≤ k ∧ k < w.heap.size ∧ A = some ⟨k, 0, none⟩ ∧ ∃ cur, w.heap[k]? = some (.cells cur 122 (0, 0)) := by
  rcases h.2 with ⟨h1, _⟩ | ⟨g, cap, cur, h1, h2, h3, _⟩
  · rw [h1] at hk; cases hk
  · rw [h1] at hk
    cases hk
    cases h1
    exact ⟨h2, lt_of_heap h3, rfl, cur, h3⟩
/-- The cells of piece i. -/
theorem OwnP.cells2 {w : World} {base n c i : Nat} {A : Option Addr} {l : List Lp} {p : Lp} (h : OwnP w base A n c l) (hp : l[i]? = some p) : ∃ g, A = some ⟨g, 0, none⟩ ∧ base ≤ g ∧ g < w.heap.size ∧
    w.cell? ⟨g, i * 2, none⟩ = some (.int .i64 p.1) ∧ w.cell? ⟨g, i * 2 + 1, none⟩ = some (.slice p.2.1 p.2.2.2.length p.2.2.1) ∧ ∀ j, w.frozen? ⟨g, j, none⟩ = false := by
  have hl := h.len
  have hi := (List.getElem?_eq_some_iff.1 hp).1
  obtain ⟨g, cap, hv, hb, hlt⟩ := h.form (by omega)
  cases hv
  have hg := lcells_get hp
  refine ⟨g, rfl, hb, hlt, ?_, ?_, fun j => World.ownsRow.frozenAt h j⟩
  · rw [World.ownsRow.cellAt h (i * 2) (by omega)]
    exact hg.1
  · rw [World.ownsRow.cellAt h (i * 2 + 1) (by omega)]
    exact hg.2

theorem pc_info : (Try.prog.info? 122).map (fun i => (i.zero, i.size, i.bytes)) = some (some (.agg #[.int .i64 0, .slice none 0 0]), 2, 32) := by kernel_rfl

theorem appP (w : World) {ops : Array Oper} {rest : List Oper} {o : Oper} {a : Act} {Q : Exit → Act → World → Prop} (s x : Operand) (base : Nat) {A : Option Addr} {n c : Nat} {xs : List Lp}
    {B : Nat} {A1 : Option Addr} {m c1 : Nat} {zs : List Lp} (hown : OwnP w base A n c xs) (hr : Src w B 2 A1 m (lcells zs)) (hgd : o.guard = none)
    (ho : o.op = .call { callee := .builtin .append, args := #[s, x], argTypes := #[118, 118] })
    (hs : a.eval s = .slice A n c) (hx : a.eval x = .slice A1 m c1) (hb : n + m ≤ 4294967296) (hbase : base ≤ w.heap.size)
    (h : ∀ A' c' w', Box (OwnP w' base A' (n + m) c' (xs ++ zs)) → Box (w.grownBy w' (Value.slice A n c).ownBlock) → Box ((Value.slice A' (n + m) c').ownBlock = (Value.slice A n c).ownBlock ∨ (Value.slice A' (n + m) c').ownBlock = some w.heap.size) → wpList Try.prog ops Q rest (a.put o.dst (.slice A' (n + m) c')) w') :
    wpList Try.prog ops Q (o :: rest) a w := by
  obtain ⟨i0, hi0, hz⟩ := Option.map_eq_some_iff.1 pc_info
  simp only [Prod.mk.injEq] at hz
  refine wpList_app w hgd s x 118 ho base 122 i0 (.agg #[.int .i64 0, .slice none 0 0]) 2 32 Try.underlying118 hi0 hz.1 hz.2.1 hz.2.2 rfl (by omega) _ n (lcells xs) hs hown B A1 m c1 (lcells zs) hx hr (lcells_one _) (by simp only [maxLen]; omega) (by omega) hbase ?_
  intro A' c' w' L
  exact h A' c' w' ⟨by have := L.1; rwa [← lcells_append] at this⟩ ⟨L.2.1⟩ ⟨L.2.2⟩

theorem stepP (w : World) {ops : Array Oper} {o : Oper} {a : Act} {K : Act → World → Prop} {Q : Exit → Act → World → Prop} {E : Prop} (s x : Operand) (base : Nat) {A : Option Addr} {n c : Nat} {xs : List Lp}
    {B : Nat} {A1 : Option Addr} {m c1 : Nat} {zs : List Lp} (hown : OwnP w base A n c xs) (hr : Src w B 2 A1 m (lcells zs)) (hgd : o.guard = none)
    (ho : o.op = .call { callee := .builtin .append, args := #[s, x], argTypes := #[118, 118] })
    (hs : a.eval s = .slice A n c) (hx : a.eval x = .slice A1 m c1) (hb : n + m ≤ 4294967296) (hbase : base ≤ w.heap.size)
    (h : ∀ A' c' w', Box (OwnP w' base A' (n + m) c' (xs ++ zs)) → Box (w.grownBy w' (Value.slice A n c).ownBlock) → Box ((Value.slice A' (n + m) c').ownBlock = (Value.slice A n c).ownBlock ∨ (Value.slice A' (n + m) c').ownBlock = some w.heap.size) → K (a.put o.dst (.slice A' (n + m) c')) w') :
    if Region.wanted o (yielded ops a.tmps) = true then Oper.wp Try.prog o a w K Q else E := by
  obtain ⟨i0, hi0, hz⟩ := Option.map_eq_some_iff.1 pc_info
  simp only [Prod.mk.injEq] at hz
  refine step_app w hgd s x 118 ho base 122 i0 (.agg #[.int .i64 0, .slice none 0 0]) 2 32 Try.underlying118 hi0 hz.1 hz.2.1 hz.2.2 rfl (by omega) _ n (lcells xs) hs hown B A1 m c1 (lcells zs) hx hr (lcells_one _) (by simp only [maxLen]; omega) (by omega) hbase ?_
  intro A' c' w' L
  exact h A' c' w' ⟨by have := L.1; rwa [← lcells_append] at this⟩ ⟨L.2.1⟩ ⟨L.2.2⟩

/-! ### a span that is owned -/
/-- A piece's bytes lie whole in a block of F. -/
def LpOk (w : World) (F : Nat → Prop) (p : Lp) : Prop :=
  (∃ b o cur, p.2.1 = some ⟨b, o, none⟩ ∧ F b ∧ w.heap[b]? = some (.cells cur 5 (0, 0)) ∧ ∀ j, j < p.2.2.2.length → cur[o + j]? = some (.int .u8 (p.2.2.2.getD j 0))) ∧
    p.2.2.2.length ≤ p.2.2.1 ∧ p.2.2.1 ≤ 9223372036854775807 ∧ Bs p.2.2.2
/-- Two pieces share no byte. -/
def Apart (p q : Lp) : Prop := ∀ b o b' o', p.2.1 = some ⟨b, o, none⟩ → q.2.1 = some ⟨b', o', none⟩ → b ≠ b' ∨ o + p.2.2.2.length ≤ o' ∨ o' + q.2.2.2.length ≤ o
theorem LpOk.byt {w : World} {F : Nat → Prop} {p : Lp} (h : LpOk w F p) : Byt w w.heap.size p.2.1 p.2.2.2.length p.2.2.2 := by
  obtain ⟨⟨b, o, cur, e, _, hh, hc⟩, _, _, hb⟩ := h
  rw [e]
  exact Byt.of_cells rfl hb (lt_of_heap hh) fun j hj => cell_of_heap hh (hc j hj)
theorem LpOk.keep {w w' : World} {F F' : Nat → Prop} {p : Lp} (h : LpOk w F p) (hF : ∀ k, F k → F' k) (hk : ∀ k cur, F k → w.heap[k]? = some (.cells cur 5 (0, 0)) → w'.heap[k]? = w.heap[k]?) : LpOk w' F' p := by
  obtain ⟨⟨b, o, cur, e, hf, hh, hc⟩, h2⟩ := h
  exact ⟨⟨b, o, cur, e, hF b hf, (hk b cur hf hh).trans hh, hc⟩, h2⟩

structure SpanO (w : World) (F : Nat → Prop) (g : Nat) (ls : List Lp) (N : Int) : Prop where
  top : ∃ A c, w.heap[g]? = some (.cells #[.slice A ls.length c, .int .i64 N] 120) ∧ OwnP w 0 A ls.length c ls ∧ ∀ k, (Value.slice A ls.length c).ownBlock = some k → F k
  fg : F g
  lt : ∀ k, F k → k < w.heap.size
  ok : ∀ p ∈ ls, LpOk w F p
  apart : ls.Pairwise Apart
  chain : Chain 0 (lpcs ls)
  ends : Ends N (lpcs ls)
  n0 : 0 ≤ N
  n1 : N ≤ 1073741824
  held : heldS (lpcs ls) ≤ 4194304
theorem lpcs_len (ls : List Lp) : (lpcs ls).length = ls.length := by simp [lpcs]
theorem lpcs_get {ls : List Lp} {i : Nat} {p : Pc} (h : (lpcs ls)[i]? = some p) : ∃ q, ls[i]? = some q ∧ p = lpc q := by
  unfold lpcs at h
  rw [List.getElem?_map] at h
  obtain ⟨q, hq, rfl⟩ := Option.map_eq_some_iff.1 h
  exact ⟨q, hq, rfl⟩
theorem SpanO.span {w : World} {F : Nat → Prop} {g : Nat} {ls : List Lp} {N : Int} (h : SpanO w F g ls N) : Span w w.heap.size g (lpcs ls) N := by
  obtain ⟨A, c, ht, hO, hF⟩ := h.top
  have hcap := own_cap hO
  refine ⟨⟨A, c, by rw [lpcs_len]; exact ht, by rw [lpcs_len]; exact hcap.1, hcap.2, fun hn => ?_⟩, lt_of_heap ht, h.chain, h.ends, h.n0, h.n1⟩
  rw [lpcs_len] at hn
  obtain ⟨g', cap, hv, _, hlt⟩ := hO.form hn
  cases hv
  refine ⟨g', 0, rfl, hlt, fun i p hp => ?_⟩
  obtain ⟨q, hq, rfl⟩ := lpcs_get hp
  obtain ⟨g2, e, _, _, c1, c2, _⟩ := OwnP.cells2 hO hq
  cases e
  have hok := h.ok q (List.mem_of_getElem? hq)
  exact ⟨q.2.1, q.2.2.1, by rw [Nat.zero_add]; exact c1, by rw [Nat.zero_add]; exact c2, hok.2.1, hok.2.2.1, hok.byt⟩
end Go.Proofs.Ytajfamjdfhjdeaa
