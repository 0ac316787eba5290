/- Plain law: what the reference's 'taken' and 'lay' make of pieces is what ours make. No program. The reference's bytes in memory: rows of its pieces, owned; (Piece).end; held. (*mantleref01.Bytes).taken. -/
import Derived.Test.YtajfamjdfhjdeaaHeld
import Derived.Laws.Tables
import Derived.Deep.DeepCutAuto
namespace Go.Proofs.Ytajfamjdfhjdeaa
open Go.RowKit

/-- What stays of a piece without a stretch. -/
def cutT (fr tt : Int) (p : Pc) : List Pc := if pEnd p ≤ fr ∨ tt ≤ p.1 then [p] else cutL fr p ++ cutR tt p
def takenS (fr tt : Int) (ps : List Pc) : List Pc := ps.flatMap (cutT fr tt)

theorem taken_is {fr tt : Int} : ∀ {ps : List Pc} {lo : Int}, Chain lo ps → fr < tt → takenS fr tt ps = aheadS fr ps ++ behindS fr tt ps
  | [], _, _, _ => rfl
  | p :: ps, lo, h, hft => by
    have e := pEnd_eq p
    have h2 := h.2.1
    have ih := taken_is h.2.2.2 hft
    unfold takenS aheadS behindS at *
    rw [List.flatMap_cons, List.flatMap_cons, List.flatMap_cons, ih]
    by_cases h1 : pEnd p ≤ fr
    · rw [show cutT fr tt p = [p] from if_pos (.inl h1), show cutA fr p = [p] from if_pos h1, show cutB fr tt p = [] from if_pos h1]
      rfl
    · have hfar : List.flatMap (cutA fr) ps = [] := ahead_far h.2.2.2 (by omega)
      rw [hfar, List.nil_append, List.append_nil, show cutA fr p = cutL fr p from if_neg h1, show cutB fr tt p = cutR tt p from if_neg h1, ← List.append_assoc]
      congr 1
      unfold cutT
      by_cases h3 : tt ≤ p.1
      · unfold cutL cutR
        rw [if_pos (.inr h3), if_neg (by omega), if_pos (by omega), show max p.1 tt = p.1 by omega, show (tt - p.1).toNat = 0 by omega]
        rfl
      · rw [if_neg (by omega)]

def lcutT (fr tt : Int) (p : Lp) : List Lp := if lEnd p ≤ fr ∨ tt ≤ p.1 then [p] else lcutL fr p ++ lcutR tt p
theorem lpc_cutT (fr tt : Int) (p : Lp) : lpcs (lcutT fr tt p) = cutT fr tt (lpc p) := by
  unfold lcutT cutT
  rw [lEnd_eq]
  show lpcs (if lEnd p ≤ fr ∨ tt ≤ p.1 then _ else _) = if lEnd p ≤ fr ∨ tt ≤ p.1 then _ else _
  split
  · rfl
  · rw [lpcs_append, lpc_cutL, lpc_cutR]
def ltaken (fr tt : Int) (q : List Lp) : List Lp := q.flatMap (lcutT fr tt)
theorem lpcs_taken (fr tt : Int) (q : List Lp) : lpcs (ltaken fr tt q) = takenS fr tt (lpcs q) := lpcs_flat (lpc_cutT fr tt) q
theorem ltaken_snoc {fr tt : Int} {q : List Lp} {k : Nat} {p : Lp} (h : q[k]? = some p) : ltaken fr tt (q.take (k + 1)) = ltaken fr tt (q.take k) ++ lcutT fr tt p := by
  rw [List.take_add_one, h]
  simp [ltaken]
theorem lcutT_len (fr tt : Int) (p : Lp) : (lcutT fr tt p).length ≤ 2 := by
  unfold lcutT lcutL lcutR
  split
  · simp
  · split <;> split <;> simp
theorem ltaken_len (fr tt : Int) : ∀ (q : List Lp), (ltaken fr tt q).length ≤ 2 * q.length
  | [] => Nat.le_refl _
  | p :: q => by
    have h1 := ltaken_len fr tt q
    have h2 := lcutT_len fr tt p
    unfold ltaken at *
    rw [List.flatMap_cons, List.length_append, List.length_cons]
    omega
theorem sub_cutT {fr tt : Int} {p p' : Lp} (h : p' ∈ lcutT fr tt p) (hc : p.2.2.2.length ≤ p.2.2.1) : Sub p' p := by
  unfold lcutT at h
  split at h
  · rw [List.mem_singleton.1 h]
    exact Sub.refl p
  · rcases List.mem_append.1 h with h | h
    · exact sub_cutL h
    · exact sub_cutR h hc

/-- What lay has gone over. -/
structure LaySt where
  ahead : List Lp
  at_ : Int
  own : List Int
  lastA : Option Addr
  lastC : Nat
  last : List Int
  behind : List Lp
def layStep (at_ en : Int) (s : LaySt) (p : Lp) : LaySt :=
  if lEnd p < at_ then { s with ahead := s.ahead ++ [p] }
  else if lEnd p = at_ then { s with at_ := p.1, own := s.own ++ p.2.2.2 }
  else if p.1 = en then { s with lastA := p.2.1, lastC := p.2.2.1, last := p.2.2.2 }
  else { s with behind := s.behind ++ [p] }
def layTo (at_ en : Int) (l : List Lp) (k : Nat) : LaySt := (l.take k).foldl (layStep at_ en) ⟨[], at_, [], none, 0, [], []⟩

theorem layTo_succ {at_ en : Int} {l : List Lp} {k : Nat} {p : Lp} (h : l[k]? = some p) : layTo at_ en l (k + 1) = layStep at_ en (layTo at_ en l k) p := by
  unfold layTo
  rw [List.take_add_one, h, List.foldl_append]
  rfl

theorem lay_all_ahead {at_ en : Int} : ∀ (l : List Lp) (s : LaySt), (∀ p ∈ l, lEnd p < at_) → l.foldl (layStep at_ en) s = { s with ahead := s.ahead ++ l }
  | [], s, _ => by simp
  | p :: l, s, h => by
    rw [List.foldl_cons, show layStep at_ en s p = { s with ahead := s.ahead ++ [p] } from if_pos (h p List.mem_cons_self), lay_all_ahead l _ fun q hq => h q (List.mem_cons_of_mem _ hq)]
    simp
theorem lay_all_behind {at_ en : Int} : ∀ (l : List Lp) (s : LaySt), (∀ p ∈ l, at_ < lEnd p ∧ p.1 ≠ en) → l.foldl (layStep at_ en) s = { s with behind := s.behind ++ l }
  | [], s, _ => by simp
  | p :: l, s, h => by
    obtain ⟨h1, h2⟩ := h p List.mem_cons_self
    rw [List.foldl_cons, show layStep at_ en s p = { s with behind := s.behind ++ [p] } by unfold layStep; rw [if_neg (by omega), if_neg (by omega), if_neg h2], lay_all_behind l _ fun q hq => h q (List.mem_cons_of_mem _ hq)]
    simp

theorem lpcs_split {l : List Lp} {A C : List Pc} (h : lpcs l = A ++ C) : ∃ a c, l = a ++ c ∧ lpcs a = A ∧ lpcs c = C := by
  unfold lpcs at h
  rw [List.map_eq_append_iff] at h
  obtain ⟨a, c, h1, h2, h3⟩ := h
  exact ⟨a, c, h1, h2, h3⟩
theorem lpcs_cons {l : List Lp} {q : Pc} {r : List Pc} (h : lpcs l = q :: r) : ∃ p m, l = p :: m ∧ lpc p = q ∧ lpcs m = r := by
  cases l with
  | nil => cases h
  | cons p m =>
    unfold lpcs at h
    rw [List.map_cons, List.cons.injEq] at h
    exact ⟨p, m, rfl, h.1, h.2⟩
theorem mem_lpcs {l : List Lp} {p : Lp} (h : p ∈ l) : lpc p ∈ lpcs l := List.mem_map_of_mem h

/-- Over the pieces ahead and behind, lay comes to ours. -/
theorem lay_fold {at_ en lo : Int} {l : List Lp} {A C : List Pc} (hl : lpcs l = A ++ C) (hA : Chain lo A) (hE : Ends at_ A) (hC : Chain en C) (hen : at_ < en) :
    lpcs (layTo at_ en l l.length).ahead = (splitL at_ A).1 ∧ (layTo at_ en l l.length).at_ = (splitL at_ A).2.1 ∧ (layTo at_ en l l.length).own = (splitL at_ A).2.2 ∧
      (layTo at_ en l l.length).last = (splitR en C).2 ∧ lpcs (layTo at_ en l l.length).behind = (splitR en C).1 := by
  obtain ⟨a, c, rfl, rfl, rfl⟩ := lpcs_split hl
  unfold layTo
  rw [List.take_length, List.foldl_append]
  have hR : ∀ s : LaySt, s.last = [] → s.behind = [] → ∃ lA lC b, c.foldl (layStep at_ en) s = { s with lastA := lA, lastC := lC, last := (splitR en (lpcs c)).2, behind := b } ∧ lpcs b = (splitR en (lpcs c)).1 := by
    intro s hs1 hs2
    rcases splitR_cases hC with ⟨h1, h2⟩ | ⟨q, r, hq, h1, h2⟩
    · refine ⟨s.lastA, s.lastC, c, ?_, by rw [h1]⟩
      rw [lay_all_behind c s fun p hp => by
        have h3 := h2.lo _ (mem_lpcs hp)
        have h4 : en + 1 ≤ p.1 := h3.1
        have h5 : 0 < p.2.2.2.length := h3.2
        exact ⟨by unfold lEnd; omega, by omega⟩, h1, hs2]
      cases s
      simp_all
    · obtain ⟨p, m, rfl, rfl, rfl⟩ := lpcs_cons hq
      have h5 : 0 < p.2.2.2.length := hC.2.1
      have h6 : p.1 = en := h1
      refine ⟨p.2.1, p.2.2.1, m, ?_, by rw [h2]⟩
      rw [List.foldl_cons, show layStep at_ en s p = { s with lastA := p.2.1, lastC := p.2.2.1, last := p.2.2.2 } by unfold layStep lEnd; rw [if_neg (by omega), if_neg (by omega), if_pos h6], lay_all_behind m _ fun q hq => by
        have h3 := hC.2.2.2.lo _ (mem_lpcs hq)
        have h4 : pEnd (lpc p) + 1 ≤ q.1 := h3.1
        have h7 : 0 < q.2.2.2.length := h3.2
        have h8 : pEnd (lpc p) = p.1 + (p.2.2.2.length : Int) := rfl
        exact ⟨by unfold lEnd; omega, by omega⟩, h2, hs2]
      rfl
  rcases splitL_cases hA hE with ⟨h1, h2⟩ | ⟨A', p, hap, h1, h2⟩
  · rw [lay_all_ahead a _ fun p hp => by
      have h3 := h2 _ (mem_lpcs hp)
      have h4 : p.1 + (p.2.2.2.length : Int) ≤ at_ - 1 := h3
      unfold lEnd
      omega]
    obtain ⟨lA, lC, b, hb1, hb2⟩ := hR ⟨[] ++ a, at_, [], none, 0, [], []⟩ rfl rfl
    rw [hb1, h1]
    exact ⟨rfl, rfl, rfl, rfl, hb2⟩
  · obtain ⟨a', x, rfl, rfl, hx⟩ := lpcs_split hap
    obtain ⟨q, m, rfl, rfl, hm⟩ := lpcs_cons hx
    obtain rfl : m = [] := by
      cases m with
      | nil => rfl
      | cons _ _ => cases hm
    have hq1 : lEnd q = at_ := h1
    rw [List.foldl_append, lay_all_ahead a' _ fun p hp => by
      obtain ⟨i, hi⟩ := List.mem_iff_getElem?.1 hp
      have hil := (List.getElem?_eq_some_iff.1 hi).1
      have h3 : (lpcs (a' ++ [q]))[i]? = some (lpc p) := by unfold lpcs; rw [List.getElem?_map, List.getElem?_append_left hil, hi]; rfl
      have h4 : (lpcs (a' ++ [q]))[a'.length]? = some (lpc q) := by unfold lpcs; rw [List.getElem?_map, List.getElem?_append_right (Nat.le_refl _), Nat.sub_self]; rfl
      have h5 := hA.order hil h3 h4
      have h6 : pEnd (lpc p) = lEnd p := rfl
      have h7 : (lpc q).1 = q.1 := rfl
      unfold lEnd at hq1
      omega, List.foldl_cons, List.foldl_nil]
    rw [show layStep at_ en { ahead := [] ++ a', at_ := at_, own := [], lastA := none, lastC := 0, last := [], behind := [] } q = { ahead := a', at_ := q.1, own := q.2.2.2, lastA := none, lastC := 0, last := [], behind := [] } by
      unfold layStep
      rw [if_neg (by omega), if_pos hq1]
      rfl]
    obtain ⟨lA, lC, b, hb1, hb2⟩ := hR ⟨a', q.1, q.2.2.2, none, 0, [], []⟩ rfl rfl
    rw [hb1, h2]
    exact ⟨rfl, rfl, rfl, rfl, hb2⟩

/-- What lay has gone over lies among the pieces. -/
theorem layTo_mem (at_ en : Int) (l : List Lp) : ∀ k, (∀ p ∈ (layTo at_ en l k).ahead, p ∈ l) ∧ (∀ p ∈ (layTo at_ en l k).behind, p ∈ l) ∧
    ((layTo at_ en l k).lastA = none ∧ (layTo at_ en l k).lastC = 0 ∧ (layTo at_ en l k).last = [] ∨ ∃ p ∈ l, (layTo at_ en l k).lastA = p.2.1 ∧ (layTo at_ en l k).lastC = p.2.2.1 ∧ (layTo at_ en l k).last = p.2.2.2) ∧
    (layTo at_ en l k).ahead.length ≤ k ∧ (layTo at_ en l k).behind.length ≤ k ∧ ((layTo at_ en l k).own.length : Int) ≤ heldS (lpcs (l.take k))
  | 0 => by
    refine ⟨fun p hp => ?_, fun p hp => ?_, .inl ⟨rfl, rfl, rfl⟩, Nat.le_refl _, Nat.le_refl _, by show ((0 : Nat) : Int) ≤ _; omega⟩ <;> (unfold layTo at hp; rw [List.take_zero] at hp; cases hp)
  | k + 1 => by
    obtain ⟨h1, h2, h3, h4, h5, h6⟩ := layTo_mem at_ en l k
    cases hk : l[k]? with
    | none =>
      have e : layTo at_ en l (k + 1) = layTo at_ en l k := by
        unfold layTo
        rw [List.take_add_one, hk]
        simp
      have e2 : l.take (k + 1) = l.take k := by rw [List.take_add_one, hk]; simp
      rw [e, e2]
      exact ⟨h1, h2, h3, by omega, by omega, h6⟩
    | some p =>
      have hp := List.mem_of_getElem? hk
      have e2 : heldS (lpcs (l.take (k + 1))) = heldS (lpcs (l.take k)) + p.2.2.2.length := by
        rw [List.take_add_one, hk]
        show heldS (lpcs (l.take k ++ [p])) = _
        rw [lpcs_append, heldS_append]
        rfl
      rw [layTo_succ hk, e2]
      unfold layStep
      split
      · refine ⟨fun q hq => ?_, h2, h3, ?_, Nat.le_succ_of_le h5, by show ((layTo at_ en l k).own.length : Int) ≤ _; omega⟩
        · rcases List.mem_append.1 hq with hq | hq
          · exact h1 q hq
          · rw [List.mem_singleton.1 hq]; exact hp
        · show ((layTo at_ en l k).ahead ++ [p]).length ≤ k + 1
          rw [List.length_append, List.length_singleton]
          omega
      · split
        · refine ⟨h1, h2, h3, Nat.le_succ_of_le h4, Nat.le_succ_of_le h5, ?_⟩
          show (((layTo at_ en l k).own ++ p.2.2.2).length : Int) ≤ _
          rw [List.length_append]
          omega
        · split
          · exact ⟨h1, h2, .inr ⟨p, hp, rfl, rfl, rfl⟩, Nat.le_succ_of_le h4, Nat.le_succ_of_le h5, by show ((layTo at_ en l k).own.length : Int) ≤ _; omega⟩
          · refine ⟨h1, fun q hq => ?_, h3, Nat.le_succ_of_le h4, ?_, by show ((layTo at_ en l k).own.length : Int) ≤ _; omega⟩
            · rcases List.mem_append.1 hq with hq | hq
              · exact h2 q hq
              · rw [List.mem_singleton.1 hq]; exact hp
            · show ((layTo at_ en l k).behind ++ [p]).length ≤ k + 1
              rw [List.length_append, List.length_singleton]
              omega
end Go.Proofs.Ytajfamjdfhjdeaa

namespace Go.Proofs.Ytajfamjdfhjdeaa
open Go.RowKit
attribute [local go_sem ↓] Go.wp_at_zero Go.wp_at_succ

@[go_sem] theorem rpc_build (x : Int) (A : Option Addr) (n c : Nat) (w : World) : (Instr.build 184 #[(0, .int .i64 x), (1, .slice A n c)]).run Try.prog w = .ok (.agg #[.int .i64 x, .slice A n c]) w := run_build w 184 _ _ (by kernel_rfl)
@[go_sem] theorem rpc_build1 (x : Int) (w : World) : (Instr.build 184 #[(0, .int .i64 x)]).run Try.prog w = .ok (.agg #[.int .i64 x, .slice none 0 0]) w := run_build w 184 _ _ (by kernel_rfl)

/-- The call owns a row of the reference's pieces. -/
abbrev OwnR (w : World) (base : Nat) (A : Option Addr) (n c : Nat) (l : List Lp) : Prop := w.ownsRow base 184 2 (.slice A n c) n (lcells l)
theorem OwnR.len {w : World} {base n c : Nat} {A : Option Addr} {l : List Lp} (h : OwnR w base A n c l) : l.length = n := by
  have := h.1
  rw [lcells_len] at this
  omega
theorem OwnR.grown {w w' : World} {base n c : Nat} {A : Option Addr} {l : List Lp} (h : OwnR w base A n c l) (hb : Below w.heap.size w w') : OwnR w' base A n c l :=
  h.kept (row := none) ⟨hb.os, hb.tape, hb.output, hb.size, fun k hk _ => hb.block k hk⟩ (by cases (Value.slice A n c).ownBlock <;> simp)
theorem OwnR.keep {w w' : World} {base n c : Nat} {A : Option Addr} {l : List Lp} (h : OwnR w base A n c l) (hk : ∀ k, (Value.slice A n c).ownBlock = some k → w'.heap[k]? = w.heap[k]?) : OwnR w' base A n c l := by
  refine ⟨h.1, ?_⟩
  rcases h.2 with h | ⟨g, cap, cur, h1, h2, h3, h4⟩
  · exact .inl h
  · refine .inr ⟨g, cap, cur, h1, h2, (hk g ?_).trans h3, h4⟩
    rw [h1]
    rfl
theorem OwnR.base {w : World} {base base' n c : Nat} {A : Option Addr} {l : List Lp} (h : OwnR w base A n c l) (hb : ∀ k, (Value.slice A n c).ownBlock = some k → base' ≤ k) : OwnR w base' A n c l := by
  refine ⟨h.1, ?_⟩
  rcases h.2 with h | ⟨g, cap, cur, h1, h2, h3⟩
  · exact .inl h
  · exact .inr ⟨g, cap, cur, h1, hb g (by rw [h1]; rfl), h3⟩
theorem OwnR.blk {w : World} {base n c : Nat} {A : Option Addr} {l : List Lp} (h : OwnR w base A n c l) {k : Nat} (hk : (Value.slice A n c).ownBlock = some k) : base ≤ k ∧ k < w.heap.size ∧ A = some ⟨k, 0, none⟩ ∧ ∃ cur, w.heap[k]? = some (.cells cur 184 (0, 0)) := by
  rcases h.2 with ⟨h1, _⟩ | ⟨g, cap, cur, h1, h2, h3, _⟩
  · rw [h1] at hk; cases hk
  · rw [h1] at hk
    cases hk
    cases h1
    exact ⟨h2, lt_of_heap h3, rfl, cur, h3⟩
/-- The cells of piece i. -/
theorem OwnR.cells2 {w : World} {base n c i : Nat} {A : Option Addr} {l : List Lp} {p : Lp} (h : OwnR w base A n c l) (hp : l[i]? = some p) : ∃ g, A = some ⟨g, 0, none⟩ ∧ base ≤ g ∧ g < w.heap.size ∧
    w.cell? ⟨g, i * 2, none⟩ = some (.int .i64 p.1) ∧ w.cell? ⟨g, i * 2 + 1, none⟩ = some (.slice p.2.1 p.2.2.2.length p.2.2.1) ∧ ∀ j, w.frozen? ⟨g, j, none⟩ = false := by
  have hl := h.len
  have hi := (List.getElem?_eq_some_iff.1 hp).1
  obtain ⟨g, cap, hv, hb, hlt⟩ := h.form (by omega)
  cases hv
  have hg := lcells_get hp
  refine ⟨g, rfl, hb, hlt, ?_, ?_, fun j => World.ownsRow.frozenAt h j⟩
  · rw [World.ownsRow.cellAt h (i * 2) (by omega)]
    exact hg.1
  · rw [World.ownsRow.cellAt h (i * 2 + 1) (by omega)]
    exact hg.2

theorem rpc_info : (Try.prog.info? 184).map (fun i => (i.zero, i.size, i.bytes)) = some (some (.agg #[.int .i64 0, .slice none 0 0]), 2, 32) := by kernel_rfl

theorem appR (w : World) {ops : Array Oper} {rest : List Oper} {o : Oper} {a : Act} {Q : Exit → Act → World → Prop} (s x : Operand) (base : Nat) {A : Option Addr} {n c : Nat} {xs : List Lp}
    {B : Nat} {A1 : Option Addr} {m c1 : Nat} {zs : List Lp} (hown : OwnR w base A n c xs) (hr : Src w B 2 A1 m (lcells zs)) (hgd : o.guard = none)
    (ho : o.op = .call { callee := .builtin .append, args := #[s, x], argTypes := #[106, 106] })
    (hs : a.eval s = .slice A n c) (hx : a.eval x = .slice A1 m c1) (hb : n + m ≤ 4294967296) (hbase : base ≤ w.heap.size)
    (h : ∀ A' c' w', Box (OwnR w' base A' (n + m) c' (xs ++ zs)) → Box (w.grownBy w' (Value.slice A n c).ownBlock) → Box ((Value.slice A' (n + m) c').ownBlock = (Value.slice A n c).ownBlock ∨ (Value.slice A' (n + m) c').ownBlock = some w.heap.size) → wpList Try.prog ops Q rest (a.put o.dst (.slice A' (n + m) c')) w') :
    wpList Try.prog ops Q (o :: rest) a w := by
  obtain ⟨i0, hi0, hz⟩ := Option.map_eq_some_iff.1 rpc_info
  simp only [Prod.mk.injEq] at hz
  refine wpList_app w hgd s x 106 ho base 184 i0 (.agg #[.int .i64 0, .slice none 0 0]) 2 32 Try.underlying106 hi0 hz.1 hz.2.1 hz.2.2 rfl (by omega) _ n (lcells xs) hs hown B A1 m c1 (lcells zs) hx hr (lcells_one _) (by simp only [maxLen]; omega) (by omega) hbase ?_
  intro A' c' w' L
  exact h A' c' w' ⟨by have := L.1; rwa [← lcells_append] at this⟩ ⟨L.2.1⟩ ⟨L.2.2⟩

theorem stepR (w : World) {ops : Array Oper} {o : Oper} {a : Act} {K : Act → World → Prop} {Q : Exit → Act → World → Prop} {E : Prop} (s x : Operand) (base : Nat) {A : Option Addr} {n c : Nat} {xs : List Lp}
    {B : Nat} {A1 : Option Addr} {m c1 : Nat} {zs : List Lp} (hown : OwnR w base A n c xs) (hr : Src w B 2 A1 m (lcells zs)) (hgd : o.guard = none)
    (ho : o.op = .call { callee := .builtin .append, args := #[s, x], argTypes := #[106, 106] })
    (hs : a.eval s = .slice A n c) (hx : a.eval x = .slice A1 m c1) (hb : n + m ≤ 4294967296) (hbase : base ≤ w.heap.size)
    (h : ∀ A' c' w', Box (OwnR w' base A' (n + m) c' (xs ++ zs)) → Box (w.grownBy w' (Value.slice A n c).ownBlock) → Box ((Value.slice A' (n + m) c').ownBlock = (Value.slice A n c).ownBlock ∨ (Value.slice A' (n + m) c').ownBlock = some w.heap.size) → K (a.put o.dst (.slice A' (n + m) c')) w') :
    if Region.wanted o (yielded ops a.tmps) = true then Oper.wp Try.prog o a w K Q else E := by
  obtain ⟨i0, hi0, hz⟩ := Option.map_eq_some_iff.1 rpc_info
  simp only [Prod.mk.injEq] at hz
  refine step_app w hgd s x 106 ho base 184 i0 (.agg #[.int .i64 0, .slice none 0 0]) 2 32 Try.underlying106 hi0 hz.1 hz.2.1 hz.2.2 rfl (by omega) _ n (lcells xs) hs hown B A1 m c1 (lcells zs) hx hr (lcells_one _) (by simp only [maxLen]; omega) (by omega) hbase ?_
  intro A' c' w' L
  exact h A' c' w' ⟨by have := L.1; rwa [← lcells_append] at this⟩ ⟨L.2.1⟩ ⟨L.2.2⟩

theorem OwnR.row {w : World} {base n c : Nat} {A : Option Addr} {l : List Lp} (h : OwnR w base A n c l) : RowL w w.heap.size A l := by
  intro hn
  have hl := h.len
  obtain ⟨g, cap, hv, _, hlt⟩ := h.form (by omega)
  cases hv
  refine ⟨g, 0, rfl, hlt, fun i p hp => ?_⟩
  obtain ⟨g', e, _, _, c1, c2, _⟩ := h.cells2 hp
  cases e
  rw [Nat.zero_add]
  exact ⟨c1, c2⟩
theorem src_rpiece (W : World) (x : Lp) (n : Nat) (hn : x.2.2.2.length = n) : Src (W.alloc (.cells #[.int .i64 x.1, .slice x.2.1 n x.2.2.1] 184)) (W.heap.size + 1) 2 (some ⟨W.heap.size, 0, none⟩) 1 (lcells [x]) := by
  subst hn
  exact Src.new W #[.int .i64 x.1, .slice x.2.1 x.2.2.2.length x.2.2.1] 184 1 2 rfl

theorem src_rpiece5 (W : World) (x : Lp) (n : Nat) (hn : x.2.2.2.length = n) (k : Nat) (hk : W.heap.size = k) : Src (W.alloc (.cells #[.int .i64 x.1, .slice x.2.1 n x.2.2.1] 184)) (k + 1) 2 (some ⟨k, 0, none⟩) 1 (lcells [x]) := by
  subst hk
  exact src_rpiece W x n hn

/-- The reference's bytes: their pieces lie in blocks of G. -/
structure RSpan (w : World) (G : Nat → Prop) (g : Nat) (ls : List Lp) (N : Int) : Prop where
  top : ∃ A c, w.heap[g]? = some (.cells #[.slice A ls.length c, .int .i64 N] 108) ∧ OwnR w 0 A ls.length c ls ∧ ∀ k, (Value.slice A ls.length c).ownBlock = some k → G k
  fg : G g
  lt : ∀ k, G k → k < w.heap.size
  ok : ∀ p ∈ ls, LpOk w G p
  chain : Chain 0 (lpcs ls)
  ends : Ends N (lpcs ls)
  n0 : 0 ≤ N
  n1 : N ≤ 1073741824
  held : heldS (lpcs ls) ≤ 4194304
/-- What a call that turns it leaves. -/
def AfterR (w : World) (G : Nat → Prop) (g : Nat) (ps : List Pc) (N : Int) (w' : World) : Prop :=
  ∃ G' ls, RSpan w' G' g ls N ∧ lpcs ls = ps ∧ Chg (fun k => k = g) w w' ∧ ∀ k, G' k → G k ∨ w.heap.size ≤ k

section
variable {w w' : World} {G : Nat → Prop} {g : Nat} {ls : List Lp} {N : Int}
theorem RSpan.keep (h : RSpan w G g ls N) (hs : w.heap.size ≤ w'.heap.size) (hk : ∀ k, G k → w'.heap[k]? = w.heap[k]?) : RSpan w' G g ls N := by
  obtain ⟨A, c, ht, hO, hG⟩ := h.top
  exact ⟨⟨A, c, (hk g h.fg).trans ht, OwnR.keep hO fun k hb => hk k (hG k hb), hG⟩, h.fg, fun k hg => Nat.lt_of_lt_of_le (h.lt k hg) hs, fun p hp => (h.ok p hp).keep (fun _ hk => hk) (fun k _ hg _ => hk k hg), h.chain, h.ends, h.n0, h.n1, h.held⟩
theorem RSpan.same (h : RSpan w G g ls N) (hb : Below w.heap.size w w') : RSpan w' G g ls N := h.keep hb.size fun k hk => hb.block k (h.lt k hk)
theorem RSpan.after (h : RSpan w G g ls N) (hb : Below w.heap.size w w') : AfterR w G g (lpcs ls) N w' := ⟨G, ls, h.same hb, rfl, Chg.new hb, fun _ hk => .inl hk⟩
theorem RSpan.count (h : RSpan w G g ls N) : ls.length ≤ 1073741825 := by
  have h1 := h.chain.count h.ends (Int.le_refl 0) h.n0
  have h2 := h.n1
  rw [lpcs_len] at h1
  omega
theorem RSpan.pc_bd (h : RSpan w G g ls N) {p : Lp} (hp : p ∈ ls) : 0 ≤ p.1 ∧ lEnd p ≤ 1073741824 ∧ 0 < p.2.2.2.length ∧ p.2.2.2.length ≤ p.2.2.1 ∧ p.2.2.1 ≤ 9223372036854775807 ∧ ∃ b o, p.2.1 = some ⟨b, o, none⟩ := by
  have h1 := h.chain.lo _ (mem_lpcs hp)
  have h2 := h.ends _ (mem_lpcs hp)
  have h3 := h.n1
  obtain ⟨⟨b, o, cur, e, _⟩, h5, h6, _⟩ := h.ok p hp
  rw [lEnd_eq] at h2
  exact ⟨h1.1, by omega, h1.2, h5, h6, b, o, e⟩
/-- Out of the fresh row and the stores. -/
theorem RSpan.remake {w1 w2 : World} {N' : Int} {c : Nat} {A : Option Addr} {ls' : List Lp} (h : RSpan w G g ls N) (hc1 : Below w.heap.size w w1) (hc : Chg (fun k => k = g) w1 w2)
    (hg2 : w2.heap[g]? = some (.cells #[.slice A ls'.length c, .int .i64 N'] 108)) (hO : OwnR w1 w.heap.size A ls'.length c ls' ∨ OwnR w1 0 A ls'.length c ls' ∧ ∀ k, (Value.slice A ls'.length c).ownBlock = some k → G k)
    (hok : ∀ p ∈ ls', LpOk w1 (fun k => G k ∨ (w.heap.size ≤ k ∧ k < w1.heap.size)) p)
    (hch : Chain 0 (lpcs ls')) (he : Ends N' (lpcs ls')) (h0 : 0 ≤ N') (h1 : N' ≤ 1073741824) (hh : heldS (lpcs ls') ≤ 4194304) : AfterR w G g (lpcs ls') N' w2 := by
  obtain ⟨A0, c0, hg, _⟩ := h.top
  have hg1 := (hc1.block g (lt_of_heap hg)).trans hg
  have hsz := hc.size
  have hO' : OwnR w1 0 A ls'.length c ls' ∧ ∀ k, (Value.slice A ls'.length c).ownBlock = some k → G k ∨ (w.heap.size ≤ k ∧ k < w1.heap.size) := by
    rcases hO with hO | ⟨hO, hk⟩
    · exact ⟨OwnR.base hO fun _ _ => Nat.zero_le _, fun k hk => .inr ⟨(OwnR.blk hO hk).1, (OwnR.blk hO hk).2.1⟩⟩
    · exact ⟨hO, fun k h => .inl (hk k h)⟩
  refine ⟨fun k => G k ∨ (w.heap.size ≤ k ∧ k < w1.heap.size), ls', ⟨⟨A, c, hg2, ?_, hO'.2⟩, .inl h.fg, ?_, ?_, hch, he, h0, h1, hh⟩, rfl, ?_, ?_⟩
  · refine OwnR.keep hO'.1 fun k hk => ?_
    obtain ⟨_, hlt, _, cur, hk2⟩ := OwnR.blk hO'.1 hk
    exact hc.block k hlt (not_g hg1 hk2 (by decide))
  · intro k hk
    rcases hk with hk | hk
    · have := h.lt k hk; have := hc1.size; omega
    · omega
  · intro p hp
    refine (hok p hp).keep (fun _ hk => hk) fun k cur _ hk => ?_
    exact hc.block k (lt_of_heap hk) (not_g hg1 hk (by decide))
  · exact (Chg.new hc1).trans hc (fun _ _ h => h)
  · intro k hk
    rcases hk with hk | hk
    · exact .inl hk
    · exact .inr hk.1
end

theorem rend_any (at_ : Int) (A : Option Addr) (n c : Nat) (w : World) (h0 : 0 ≤ at_) (h1 : at_ + (n : Int) ≤ 1073741824) :
    Calls Try.prog 75 #[.agg #[.int .i64 at_, .slice A n c]] w fun e w' => e = .returned (.int .i64 (at_ + (n : Int))) ∧ Below w.heap.size w w' := by
  go_enter Try.func75, Try.ntmps75
  go_wp2
  go_ret
  exact ⟨rfl, Below.alloc (Below.refl _ _) (Nat.le_refl _) _⟩

theorem rheld_any {w : World} {B n c : Nat} {A : Option Addr} {ls : List Lp} (h : RowL w B A ls) (hB : B ≤ w.heap.size) (hn : ls.length = n) (hn2 : n ≤ 4294967296) (hh : heldS (lpcs ls) ≤ 4294967296) :
    Calls Try.prog 60 #[.slice A n c] w fun e w' => e = .returned (.int .i64 (heldS (lpcs ls) : Int)) ∧ w' = w := by
  replace hn := box hn
  have hR := box h
  have hhB := box (fun k => Nat.le_trans (heldS_take_le (lpcs ls) k) hh)
  clear h hh
  go_enter Try.func60, Try.ntmps60
  go_wp2
  go_loopw [3, 4] (fun s3 s4 wr => ∃ k : Nat, k ≤ n ∧ s4 = .int .i64 (k : Int) ∧ s3 = .int .i64 (heldS ((lpcs ls).take k) : Int) ∧ wr = w) (fun _ s4 _ => n - (intOf s4).toNat)
  case atStart => exact ⟨0, Nat.zero_le _, rfl, rfl, rfl⟩
  case round =>
    obtain ⟨k, hk, rfl, rfl, rfl⟩ := hrel
    by_cases hlt : k < n
    · obtain ⟨b, o, rfl, hbB, hc⟩ := hR.out (by rw [hn.out]; omega)
      obtain ⟨p, hp⟩ : ∃ p, ls[k]? = some p := ⟨_, List.getElem?_eq_getElem (by rw [hn.out]; exact hlt)⟩
      obtain ⟨y0, y1⟩ := hc k p hp
      have hp2 : (lpcs ls)[k]? = some (lpc p) := by unfold lpcs; rw [List.getElem?_map, hp]; rfl
      have hs := box (heldS_take hp2)
      have hle := hhB.out (k + 1)
      rw [heldS_take hp2] at hle
      have hle2 : heldS ((lpcs ls).take k) + p.2.2.2.length ≤ 4294967296 := hle
      obtain ⟨pa, pA, pc, pz⟩ := p
      simp only at y0 y1 hle2
      clear hc hp hp2 hle
      generalize heldS ((lpcs ls).take k) = H at *
      go_wp2
      go_roundw
      case measure => simp [intOf]; omega
      case rel => exact ⟨k + 1, by omega, by go_num, by rw [hs.out]; show Value.int .i64 ((H : Int) + (pz.length : Int)) = Value.int .i64 ((H + pz.length : Nat) : Int); rw [Int.natCast_add], trivial⟩
    · obtain rfl : k = n := by omega
      go_wp2
      go_ret
      exact ⟨ret_int (by rw [List.take_of_length_le (by rw [lpcs_len, hn.out]; exact Nat.le_refl _)]), rfl⟩
end Go.Proofs.Ytajfamjdfhjdeaa

namespace Go.Proofs.Ytajfamjdfhjdeaa
open Go.RowKit
attribute [local go_sem ↓] Go.wp_at_zero Go.wp_at_succ

theorem rnew_heap (w : World) (x : Int) (A : Option Addr) (n c : Nat) : (w.alloc (.cells #[.int .i64 x, .slice A n c] 184)).heap[w.heap.size]? = some (.cells #[.int .i64 x, .slice A n c] 184) := heap_alloc_new _ _
theorem grown_block {w w' : World} {k : Nat} {o : Obj} {row : Option Nat} (hg : w.grownBy w' row) (h : w.heap[k]? = some o) (hne : some k ≠ row) : w'.heap[k]? = some o := (hg.block k (lt_of_heap h) hne).trans h

set_option maxHeartbeats 8000000 in
set_option maxRecDepth 100000 in
theorem taken_any {w : World} {G : Nat → Prop} {g : Nat} {ls : List Lp} {N fr tt : Int} (h : RSpan w G g ls N) (h0 : 0 ≤ fr) (h1 : fr < tt) (h2 : tt ≤ 2147483648) :
    Calls Try.prog 61 #[.pointer (some ⟨g, 0, none⟩), .int .i64 fr, .int .i64 tt] w fun e w' =>
      ∃ A c, e = .returned (.slice A (ltaken fr tt ls).length c) ∧ OwnR w' w.heap.size A (ltaken fr tt ls).length c (ltaken fr tt ls) ∧ Below w.heap.size w w' := by
  obtain ⟨A, c, ht, hO, hG⟩ := h.top
  have hcap := own_cap hO
  have g0 : w.cell? ⟨g, 0, none⟩ = some (.slice A ls.length c) := cell_of_heap ht rfl
  have hgl := lt_of_heap ht
  have hcnt := h.count
  have hbd := box (fun p hp => h.pc_bd (p := p) hp)
  have hR := box hO.row
  clear h hO hG ht
  go_enter Try.func61, Try.ntmps61
  go_wp2
  go_loopg [7, 8] ls.length (fun kx s7 s8 wr => ∃ (k : Nat) (A3 : Option Addr) (c3 m : Nat), k ≤ ls.length ∧ ls.length - k ≤ kx ∧ s8 = .int .i64 (k : Int) ∧ s7 = .slice A3 m c3 ∧ m ≤ 2147483650 ∧
      Box (m = (ltaken fr tt (ls.take k)).length ∧ OwnR wr w.heap.size A3 m c3 (ltaken fr tt (ls.take k))) ∧ Box (Below w.heap.size w wr))
  case atStart => exact ⟨0, none, 0, 0, Nat.zero_le _, by omega, rfl, rfl, by omega, ⟨by rw [List.take_zero]; rfl, by rw [List.take_zero]; exact World.ownsRow_nil _ _ _ _⟩, ⟨Below.refl _ _⟩⟩
  case round =>
    obtain ⟨k, A3, c3, m, hk, hgk, rfl, rfl, hm, hI, hbr⟩ := hrel
    have gr := cell_past hbr.out g0
    clear g0
    by_cases hlt : k < ls.length
    · obtain ⟨p, hp⟩ : ∃ p, ls[k]? = some p := ⟨_, List.getElem?_eq_getElem hlt⟩
      obtain ⟨rb, ro, rfl, hrb, hrc⟩ := hR.out (by omega)
      obtain ⟨x0, x1⟩ := hrc k p hp
      obtain ⟨p0, p1, p2, p3, p4, b, o, p5⟩ := hbd.out p (List.mem_of_getElem? hp)
      have y0 := (hbr.out.cell (p := ⟨rb, ro + k * 2, none⟩) hrb).trans x0
      have y1 := (hbr.out.cell (p := ⟨rb, ro + k * 2 + 1, none⟩) hrb).trans x1
      have hsn := box (ltaken_snoc (fr := fr) (tt := tt) hp)
      obtain ⟨pa, pA, pc, pz⟩ := p
      simp only at p0 p2 p3 p4 p5 y0 y1
      subst p5
      have hE : lEnd (pa, some ⟨b, o, none⟩, pc, pz) = pa + (pz.length : Int) := rfl
      rw [hE] at p1
      have hm2 : m ≤ 2147483648 := by
        have h3 := hI.out.1
        have h4 := ltaken_len fr tt (ls.take k)
        rw [List.length_take] at h4
        omega
      have i0' : (0 : Int) ≤ (k : Int) := by omega
      have i1' : (k : Int) < (ls.length : Int) := by omega
      have Wh := rnew_heap wr pa (some ⟨b, o, none⟩) pz.length pc
      have Wb := hbr.out.alloc hbr.out.size (.cells #[.int .i64 pa, .slice (some ⟨b, o, none⟩) pz.length pc] 184)
      have WO := OwnR.grown hI.out.2 (Below.alloc (Below.refl wr.heap.size wr) (Nat.le_refl _) (.cells #[.int .i64 pa, .slice (some ⟨b, o, none⟩) pz.length pc] 184))
      have Wne : some wr.heap.size ≠ (Value.slice A3 m c3).ownBlock := fun h => by have := (OwnR.blk hI.out.2 h.symm).2.1; omega
      have hgr := cell_past (Below.alloc (Below.refl wr.heap.size wr) (Nat.le_refl _) (.cells #[.int .i64 pa, .slice (some ⟨b, o, none⟩) pz.length pc] 184)) gr
      go_upto_region 6 with fail
      generalize (wr.alloc (.cells #[.int .i64 pa, .slice (some ⟨b, o, none⟩) pz.length pc] 184)) = W at *
      obtain ⟨pb, hpb⟩ : ∃ pb, wr.heap.size = pb := ⟨_, rfl⟩
      rw [hpb] at Wh Wne ⊢
      have q0 : W.cell? ⟨pb, 0, none⟩ = some (.int .i64 pa) := cell_of_heap Wh rfl
      have q1 : W.cell? ⟨pb, 1, none⟩ = some (.slice (some ⟨b, o, none⟩) pz.length pc) := cell_of_heap Wh rfl
      have hend := box (fun W => rend_any pa (some ⟨b, o, none⟩) pz.length pc W p0 p1)
      replace hpb := box hpb
      clear y0 y1 gr x0 x1 hrc
      rcases (show pa + (pz.length : Int) ≤ fr ∨ (¬ pa + (pz.length : Int) ≤ fr ∧ tt ≤ pa) ∨ (¬ pa + (pz.length : Int) ≤ fr ∧ ¬ tt ≤ pa) by omega) with hc | ⟨hc, hc'⟩ | ⟨hc, hc'⟩
      · go_upto_region 7 with (with_reducible (refine Calls.mono (hend.out _) ?_); rintro e w5 ⟨rfl, hb5⟩; have z0 := cell_past hb5 q0; have z1 := cell_past hb5 q1)
        have O6 := OwnR.grown (OwnR.grown WO hb5) (Below.alloc (Below.refl w5.heap.size w5) (Nat.le_refl _) (.cells #[.int .i64 pa, .slice (some ⟨b, o, none⟩) pz.length pc] 184))
        have b6 := (Wb.trans (hb5.mono Wb.size)).alloc (Nat.le_trans Wb.size hb5.size) (.cells #[.int .i64 pa, .slice (some ⟨b, o, none⟩) pz.length pc] 184)
        have hsrc := box (src_rpiece5 w5 (pa, some ⟨b, o, none⟩, pc, pz) pz.length rfl w5.heap.size rfl)
        replace O6 := box O6
        replace b6 := box b6
        replace hb5 := box hb5
        go_wp2_with (at_builtin; refine appR _ (.tmp 36) (.tmp 38) w.heap.size O6.out hsrc.out rfl rfl rfl rfl (by omega) b6.out.size ?_; intro A7 c7 w7 O7 G7 K7)
        go_roundg (ls.length - (k + 1))
        case measure => omega
        case rel =>
          have hTe : lcutT fr tt (pa, some ⟨b, o, none⟩, pc, pz) = [(pa, some ⟨b, o, none⟩, pc, pz)] := if_pos (by rw [hE]; omega)
          refine ⟨k + 1, A7, c7, m + 1, by omega, Nat.le_refl _, by go_num, rfl, by omega, ⟨?_, ?_⟩, ⟨b6.out.grown G7.out b6.out.size fun x hx => (OwnR.blk O6.out hx).1⟩⟩
          · rw [hsn.out, hTe, List.length_append, ← hI.out.1]; rfl
          · rw [hsn.out, hTe]; exact O7.out
      · go_upto_region 7 with (with_reducible (refine Calls.mono (hend.out _) ?_); rintro e w5 ⟨rfl, hb5⟩; have z0 := cell_past hb5 q0; have z1 := cell_past hb5 q1)
        have O6 := OwnR.grown (OwnR.grown WO hb5) (Below.alloc (Below.refl w5.heap.size w5) (Nat.le_refl _) (.cells #[.int .i64 pa, .slice (some ⟨b, o, none⟩) pz.length pc] 184))
        have b6 := (Wb.trans (hb5.mono Wb.size)).alloc (Nat.le_trans Wb.size hb5.size) (.cells #[.int .i64 pa, .slice (some ⟨b, o, none⟩) pz.length pc] 184)
        have hsrc := box (src_rpiece5 w5 (pa, some ⟨b, o, none⟩, pc, pz) pz.length rfl w5.heap.size rfl)
        replace O6 := box O6
        replace b6 := box b6
        replace hb5 := box hb5
        go_wp2_with (at_builtin; refine appR _ (.tmp 36) (.tmp 38) w.heap.size O6.out hsrc.out rfl rfl rfl rfl (by omega) b6.out.size ?_; intro A7 c7 w7 O7 G7 K7)
        go_roundg (ls.length - (k + 1))
        case measure => omega
        case rel =>
          have hTe : lcutT fr tt (pa, some ⟨b, o, none⟩, pc, pz) = [(pa, some ⟨b, o, none⟩, pc, pz)] := if_pos (by rw [hE]; omega)
          refine ⟨k + 1, A7, c7, m + 1, by omega, Nat.le_refl _, by go_num, rfl, by omega, ⟨?_, ?_⟩, ⟨b6.out.grown G7.out b6.out.size fun x hx => (OwnR.blk O6.out hx).1⟩⟩
          · rw [hsn.out, hTe, List.length_append, ← hI.out.1]; rfl
          · rw [hsn.out, hTe]; exact O7.out
      · have hTe : lcutT fr tt (pa, some ⟨b, o, none⟩, pc, pz) = lcutL fr (pa, some ⟨b, o, none⟩, pc, pz) ++ lcutR tt (pa, some ⟨b, o, none⟩, pc, pz) := if_neg (by rw [hE]; omega)
        rw [hTe, ← List.append_assoc] at hsn
        clear hTe
        go_upto_if 43 with (with_reducible (refine Calls.mono (hend.out _) ?_); rintro e w5 ⟨rfl, hb5⟩; have z0 := cell_past hb5 q0; have z1 := cell_past hb5 q1)
        have O5 := OwnR.grown WO hb5
        have b5 := Wb.trans (hb5.mono Wb.size)
        have h5 := (hb5.block pb (lt_of_heap Wh)).trans Wh
        replace O5 := box O5
        replace b5 := box b5
        replace h5 := box h5
        have hpl := lt_of_heap h5.out
        clear hb5 q0 q1 Wh WO Wb hgr
        go_cut [7] (fun s7 wx => ∃ A4 c4 m4, s7 = .slice A4 m4 c4 ∧ m4 ≤ 2147483649 ∧ Box (m4 = (ltaken fr tt (ls.take k) ++ lcutL fr (pa, some ⟨b, o, none⟩, pc, pz)).length ∧ OwnR wx w.heap.size A4 m4 c4 (ltaken fr tt (ls.take k) ++ lcutL fr (pa, some ⟨b, o, none⟩, pc, pz))) ∧ Box (Below w.heap.size w wx) ∧ Box (wx.heap[pb]? = some (.cells #[.int .i64 pa, .slice (some ⟨b, o, none⟩) pz.length pc] 184)))
        case first =>
          by_cases hL : pa < fr
          · obtain ⟨d, hd⟩ : ∃ d : Nat, fr - pa = (d : Int) := ⟨(fr - pa).toNat, by omega⟩
            have u1 : (0 : Int) ≤ (d : Int) := by omega
            have u2 : (d : Int) ≤ (pz.length : Int) := by omega
            have u3 : (pz.length : Int) ≤ (pc : Int) := by omega
            have u5 : (d : Int) ≤ (pc : Int) := by omega
            have u4 : IntKind.i64.wrap (d : Int) = (d : Int) := IntWalk.i64_in _ (by omega)
            have hLe : Box (lcutL fr (pa, some ⟨b, o, none⟩, pc, pz) = [(pa, some ⟨b, o, none⟩, pc, pz.take d)]) := ⟨by
              unfold lcutL
              rw [if_pos hL]
              show [(pa, some (⟨b, o, none⟩ : Addr), pc, pz.take (fr - pa).toNat)] = _
              rw [hd, Int.toNat_natCast]⟩
            have hsrc := box (src_rpiece5 w5 (pa, some ⟨b, o, none⟩, pc, pz.take d) d (by show (pz.take d).length = d; rw [List.length_take]; omega) w5.heap.size rfl)
            have hO6 := box (OwnR.grown O5.out (Below.alloc (Below.refl w5.heap.size w5) (Nat.le_refl _) (.cells #[.int .i64 pa, .slice (some ⟨b, o, none⟩) d pc] 184)))
            have hb6 := box (b5.out.alloc b5.out.size (.cells #[.int .i64 pa, .slice (some ⟨b, o, none⟩) d pc] 184))
            have h6 := box (((Below.alloc (Below.refl w5.heap.size w5) (Nat.le_refl _) (.cells #[.int .i64 pa, .slice (some ⟨b, o, none⟩) d pc] 184)).block pb hpl).trans h5.out)
            have q0 := box (cell_of_heap (o := 0) (v := .int .i64 pa) h6.out rfl)
            have q1 := box (cell_of_heap (o := 1) (v := .slice (some ⟨b, o, none⟩) pz.length pc) h6.out rfl)
            go_wp2_with fail
            go_region_held3 (fun W => W.cell? ⟨pb, 0, none⟩ = some (.int .i64 pa) ∧ W.cell? ⟨pb, 1, none⟩ = some (.slice (some ⟨b, o, none⟩) pz.length pc)) (first | go_keep | exact ⟨G4.out.cell q0.out Wne, G4.out.cell q1.out Wne⟩ | exact ⟨q0.out, q1.out⟩)
              ((refine stepR _ (.tmp 44) (.tmp 55) w.heap.size (by exact hO6.out) (by exact hsrc.out) (by rfl) (by rfl) (by rfl) (by rfl) (by omega) (by have := hb6.out.size; exact this) ?_; intro A4 c4 w4 O4 G4 K4))
            go_wp2_with fail
            go_meet
            refine ⟨A4, c4, m + 1, rfl, by omega, ⟨?_, ?_⟩, ⟨hb6.out.grown (undrew_grown G4.out) hb6.out.size (fun k hk => (OwnR.blk hO6.out hk).1)⟩, ⟨grown_block (undrew_grown G4.out) h6.out Wne⟩⟩
            · rw [hLe.out, List.length_append, ← hI.out.1]; rfl
            · rw [hLe.out]; exact O4.out
          · have hLe : Box (lcutL fr (pa, some ⟨b, o, none⟩, pc, pz) = []) := ⟨if_neg hL⟩
            go_wp2_with fail
            go_meet
            refine ⟨A3, c3, m, rfl, by omega, ⟨?_, ?_⟩, b5, h5⟩
            · rw [hLe.out, List.append_nil]; exact hI.out.1
            · rw [hLe.out, List.append_nil]; exact O5.out
        case rest =>
          obtain ⟨A4, c4, m4, rfl, hm4, hI4, b4, h4⟩ := hcut
          clear z0 z1 O5 b5 h5 hpl hI
          have q0 := cell_of_heap (o := 0) (v := .int .i64 pa) h4.out rfl
          have q1 := cell_of_heap (o := 1) (v := .slice (some ⟨b, o, none⟩) pz.length pc) h4.out rfl
          by_cases hL : tt < pa + (pz.length : Int)
          · obtain ⟨d, hd⟩ : ∃ d : Nat, tt - pa = (d : Int) := ⟨(tt - pa).toNat, by omega⟩
            have u1 : (0 : Int) ≤ (d : Int) := by omega
            have u2 : (d : Int) ≤ (pz.length : Int) := by omega
            have u3 : (pz.length : Int) ≤ (pc : Int) := by omega
            have u6 : ¬ pc = d := by omega
            have u4 : IntKind.i64.wrap (d : Int) = (d : Int) := IntWalk.i64_in _ (by omega)
            have hLe : Box (lcutR tt (pa, some ⟨b, o, none⟩, pc, pz) = [(tt, some ⟨b, o + d, none⟩, pc - d, pz.drop d)]) := ⟨by
              unfold lcutR
              rw [hE, if_pos hL]
              show [(max pa tt, (some (⟨b, o, none⟩ : Addr)).map (fun x => x.add (tt - pa).toNat), pc - (tt - pa).toNat, pz.drop (tt - pa).toNat)] = _
              rw [hd, Int.toNat_natCast, show max pa tt = tt by omega, Option.map_some, add_at]⟩
            go_upto_region 11 with (with_reducible (refine Calls.mono (hend.out _) ?_); rintro e w6 ⟨rfl, hb6⟩; have z0 := cell_past hb6 q0; have z1 := cell_past hb6 q1)
            have hsrc := box (src_rpiece5 w6 (tt, some ⟨b, o + d, none⟩, pc - d, pz.drop d) (pz.length - d) (by show (pz.drop d).length = _; rw [List.length_drop]) w6.heap.size rfl)
            have hO7 := box (OwnR.grown (OwnR.grown hI4.out.2 hb6) (Below.alloc (Below.refl w6.heap.size w6) (Nat.le_refl _) (.cells #[.int .i64 tt, .slice (some ⟨b, o + d, none⟩) (pz.length - d) (pc - d)] 184)))
            have hb7 := box ((b4.out.trans (hb6.mono b4.out.size)).alloc (Nat.le_trans b4.out.size hb6.size) (.cells #[.int .i64 tt, .slice (some ⟨b, o + d, none⟩) (pz.length - d) (pc - d)] 184))
            replace hb6 := box hb6
            clear q0 q1
            go_wp2_with (at_builtin; refine appR _ (.tmp 61) (.tmp 71) w.heap.size hO7.out hsrc.out rfl rfl rfl rfl (by omega) hb7.out.size ?_; intro A8 c8 w8 O8 G8 K8)
            go_roundg (ls.length - (k + 1))
            case measure => omega
            case rel =>
              refine ⟨k + 1, A8, c8, m4 + 1, by omega, Nat.le_refl _, by go_num, rfl, by omega, ⟨?_, ?_⟩, ⟨hb7.out.grown G8.out hb7.out.size fun x hx => (OwnR.blk hO7.out hx).1⟩⟩
              · rw [hsn.out, hLe.out, List.length_append, ← hI4.out.1]; rfl
              · rw [hsn.out, hLe.out]; exact O8.out
          · have hLe : Box (lcutR tt (pa, some ⟨b, o, none⟩, pc, pz) = []) := ⟨by unfold lcutR; rw [hE]; exact if_neg hL⟩
            go_wp2_with (with_reducible (refine Calls.mono (hend.out _) ?_); rintro e w6 ⟨rfl, hb6⟩; replace hb6 := box hb6)
            go_roundg (ls.length - (k + 1))
            case measure => omega
            case rel =>
              refine ⟨k + 1, A4, c4, m4, by omega, Nat.le_refl _, by go_num, rfl, by omega, ⟨?_, ?_⟩, ⟨b4.out.trans (hb6.out.mono b4.out.size)⟩⟩
              · rw [hsn.out, hLe.out, List.append_nil]; exact hI4.out.1
              · rw [hsn.out, hLe.out, List.append_nil]; exact OwnR.grown hI4.out.2 hb6.out
    · obtain rfl : k = ls.length := by omega
      go_wp2
      go_ret
      have hl := hI.out
      rw [List.take_length] at hl
      obtain ⟨h3, h4⟩ := hl
      subst h3
      exact ⟨A3, c3, rfl, h4, hbr.out⟩
end Go.Proofs.Ytajfamjdfhjdeaa
