/- Plain law: what the reference's 'taken' and 'lay' make of pieces is what ours make. No program. -/
import Derived.Test.YtajfamjdfhjdeaaHeld
namespace Go.Proofs.Ytajfamjdfhjdeaa
open Go.RowKit

/-- What stays of a piece without a stretch. -/
def cutT (fr tt : Int) (p : Pc) : List Pc := if pEnd p ≤ fr ∨ tt ≤ p.1 then [p] else cutL fr p ++ cutR tt p
def takenS (fr tt : Int) (ps : List Pc) : List Pc := ps.flatMap (cutT fr tt)

theorem taken_is {fr tt : Int} : ∀ {ps : List Pc} {lo : Int}, Chain lo ps → fr < tt → takenS fr tt ps = aheadS fr ps ++ behindS fr tt ps
  | [], _, _, _ => rfl
  | p :: ps, lo, h, hft => by
    have e := pEnd_eq p
    have h2 := h.2.1
    have ih := taken_is h.2.2.2 hft
    unfold takenS aheadS behindS at *
    rw [List.flatMap_cons, List.flatMap_cons, List.flatMap_cons, ih]
    by_cases h1 : pEnd p ≤ fr
    · rw [show cutT fr tt p = [p] from if_pos (.inl h1), show cutA fr p = [p] from if_pos h1, show cutB fr tt p = [] from if_pos h1]
      rfl
    · have hfar : List.flatMap (cutA fr) ps = [] := ahead_far h.2.2.2 (by omega)
      rw [hfar, List.nil_append, List.append_nil, show cutA fr p = cutL fr p from if_neg h1, show cutB fr tt p = cutR tt p from if_neg h1, ← List.append_assoc]
      congr 1
      unfold cutT
      by_cases h3 : tt ≤ p.1
      · unfold cutL cutR
        rw [if_pos (.inr h3), if_neg (by omega), if_pos (by omega), show max p.1 tt = p.1 by omega, show (tt - p.1).toNat = 0 by omega]
        rfl
      · rw [if_neg (by omega)]

def lcutT (fr tt : Int) (p : Lp) : List Lp := if lEnd p ≤ fr ∨ tt ≤ p.1 then [p] else lcutL fr p ++ lcutR tt p
theorem lpc_cutT (fr tt : Int) (p : Lp) : lpcs (lcutT fr tt p) = cutT fr tt (lpc p) := by
  unfold lcutT cutT
  rw [lEnd_eq]
  show lpcs (if lEnd p ≤ fr ∨ tt ≤ p.1 then _ else _) = if lEnd p ≤ fr ∨ tt ≤ p.1 then _ else _
  split
  · rfl
  · rw [lpcs_append, lpc_cutL, lpc_cutR]
def ltaken (fr tt : Int) (q : List Lp) : List Lp := q.flatMap (lcutT fr tt)
theorem lpcs_taken (fr tt : Int) (q : List Lp) : lpcs (ltaken fr tt q) = takenS fr tt (lpcs q) := lpcs_flat (lpc_cutT fr tt) q
theorem ltaken_snoc {fr tt : Int} {q : List Lp} {k : Nat} {p : Lp} (h : q[k]? = some p) : ltaken fr tt (q.take (k + 1)) = ltaken fr tt (q.take k) ++ lcutT fr tt p := by
  rw [List.take_add_one, h]
  simp [ltaken]
theorem lcutT_len (fr tt : Int) (p : Lp) : (lcutT fr tt p).length ≤ 2 := by
  unfold lcutT lcutL lcutR
  split
  · simp
  · split <;> split <;> simp
theorem ltaken_len (fr tt : Int) : ∀ (q : List Lp), (ltaken fr tt q).length ≤ 2 * q.length
  | [] => Nat.le_refl _
  | p :: q => by
    have h1 := ltaken_len fr tt q
    have h2 := lcutT_len fr tt p
    unfold ltaken at *
    rw [List.flatMap_cons, List.length_append, List.length_cons]
    omega
theorem sub_cutT {fr tt : Int} {p p' : Lp} (h : p' ∈ lcutT fr tt p) (hc : p.2.2.2.length ≤ p.2.2.1) : Sub p' p := by
  unfold lcutT at h
  split at h
  · rw [List.mem_singleton.1 h]
    exact Sub.refl p
  · rcases List.mem_append.1 h with h | h
    · exact sub_cutL h
    · exact sub_cutR h hc

/-- What lay has gone over. -/
structure LaySt where
  ahead : List Lp
  at_ : Int
  own : List Int
  lastA : Option Addr
  lastC : Nat
  last : List Int
  behind : List Lp
def layStep (at_ en : Int) (s : LaySt) (p : Lp) : LaySt :=
  if lEnd p < at_ then { s with ahead := s.ahead ++ [p] }
  else if lEnd p = at_ then { s with at_ := p.1, own := s.own ++ p.2.2.2 }
  else if p.1 = en then { s with lastA := p.2.1, lastC := p.2.2.1, last := p.2.2.2 }
  else { s with behind := s.behind ++ [p] }
def layTo (at_ en : Int) (l : List Lp) (k : Nat) : LaySt := (l.take k).foldl (layStep at_ en) ⟨[], at_, [], none, 0, [], []⟩

theorem layTo_succ {at_ en : Int} {l : List Lp} {k : Nat} {p : Lp} (h : l[k]? = some p) : layTo at_ en l (k + 1) = layStep at_ en (layTo at_ en l k) p := by
  unfold layTo
  rw [List.take_add_one, h, List.foldl_append]
  rfl

theorem lay_all_ahead {at_ en : Int} : ∀ (l : List Lp) (s : LaySt), (∀ p ∈ l, lEnd p < at_) → l.foldl (layStep at_ en) s = { s with ahead := s.ahead ++ l }
  | [], s, _ => by simp
  | p :: l, s, h => by
    rw [List.foldl_cons, show layStep at_ en s p = { s with ahead := s.ahead ++ [p] } from if_pos (h p List.mem_cons_self), lay_all_ahead l _ fun q hq => h q (List.mem_cons_of_mem _ hq)]
    simp
theorem lay_all_behind {at_ en : Int} : ∀ (l : List Lp) (s : LaySt), (∀ p ∈ l, at_ < lEnd p ∧ p.1 ≠ en) → l.foldl (layStep at_ en) s = { s with behind := s.behind ++ l }
  | [], s, _ => by simp
  | p :: l, s, h => by
    obtain ⟨h1, h2⟩ := h p List.mem_cons_self
    rw [List.foldl_cons, show layStep at_ en s p = { s with behind := s.behind ++ [p] } by unfold layStep; rw [if_neg (by omega), if_neg (by omega), if_neg h2], lay_all_behind l _ fun q hq => h q (List.mem_cons_of_mem _ hq)]
    simp

theorem lpcs_split {l : List Lp} {A C : List Pc} (h : lpcs l = A ++ C) : ∃ a c, l = a ++ c ∧ lpcs a = A ∧ lpcs c = C := by
  unfold lpcs at h
  rw [List.map_eq_append_iff] at h
  obtain ⟨a, c, h1, h2, h3⟩ := h
  exact ⟨a, c, h1, h2, h3⟩
theorem lpcs_cons {l : List Lp} {q : Pc} {r : List Pc} (h : lpcs l = q :: r) : ∃ p m, l = p :: m ∧ lpc p = q ∧ lpcs m = r := by
  cases l with
  | nil => cases h
  | cons p m =>
    unfold lpcs at h
    rw [List.map_cons, List.cons.injEq] at h
    exact ⟨p, m, rfl, h.1, h.2⟩
theorem mem_lpcs {l : List Lp} {p : Lp} (h : p ∈ l) : lpc p ∈ lpcs l := List.mem_map_of_mem h

/-- Over the pieces ahead and behind, lay comes to ours. -/
theorem lay_fold {at_ en lo : Int} {l : List Lp} {A C : List Pc} (hl : lpcs l = A ++ C) (hA : Chain lo A) (hE : Ends at_ A) (hC : Chain en C) (hen : at_ < en) :
    lpcs (layTo at_ en l l.length).ahead = (splitL at_ A).1 ∧ (layTo at_ en l l.length).at_ = (splitL at_ A).2.1 ∧ (layTo at_ en l l.length).own = (splitL at_ A).2.2 ∧
      (layTo at_ en l l.length).last = (splitR en C).2 ∧ lpcs (layTo at_ en l l.length).behind = (splitR en C).1 := by
  obtain ⟨a, c, rfl, rfl, rfl⟩ := lpcs_split hl
  unfold layTo
  rw [List.take_length, List.foldl_append]
  have hR : ∀ s : LaySt, s.last = [] → s.behind = [] → ∃ lA lC b, c.foldl (layStep at_ en) s = { s with lastA := lA, lastC := lC, last := (splitR en (lpcs c)).2, behind := b } ∧ lpcs b = (splitR en (lpcs c)).1 := by
    intro s hs1 hs2
    rcases splitR_cases hC with ⟨h1, h2⟩ | ⟨q, r, hq, h1, h2⟩
    · refine ⟨s.lastA, s.lastC, c, ?_, by rw [h1]⟩
      rw [lay_all_behind c s fun p hp => by
        have h3 := h2.lo _ (mem_lpcs hp)
        have h4 : en + 1 ≤ p.1 := h3.1
        have h5 : 0 < p.2.2.2.length := h3.2
        exact ⟨by unfold lEnd; omega, by omega⟩, h1, hs2]
      cases s
      simp_all
    · obtain ⟨p, m, rfl, rfl, rfl⟩ := lpcs_cons hq
      have h5 : 0 < p.2.2.2.length := hC.2.1
      have h6 : p.1 = en := h1
      refine ⟨p.2.1, p.2.2.1, m, ?_, by rw [h2]⟩
      rw [List.foldl_cons, show layStep at_ en s p = { s with lastA := p.2.1, lastC := p.2.2.1, last := p.2.2.2 } by unfold layStep lEnd; rw [if_neg (by omega), if_neg (by omega), if_pos h6], lay_all_behind m _ fun q hq => by
        have h3 := hC.2.2.2.lo _ (mem_lpcs hq)
        have h4 : pEnd (lpc p) + 1 ≤ q.1 := h3.1
        have h7 : 0 < q.2.2.2.length := h3.2
        have h8 : pEnd (lpc p) = p.1 + (p.2.2.2.length : Int) := rfl
        exact ⟨by unfold lEnd; omega, by omega⟩, h2, hs2]
      rfl
  rcases splitL_cases hA hE with ⟨h1, h2⟩ | ⟨A', p, hap, h1, h2⟩
  · rw [lay_all_ahead a _ fun p hp => by
      have h3 := h2 _ (mem_lpcs hp)
      have h4 : p.1 + (p.2.2.2.length : Int) ≤ at_ - 1 := h3
      unfold lEnd
      omega]
    obtain ⟨lA, lC, b, hb1, hb2⟩ := hR ⟨[] ++ a, at_, [], none, 0, [], []⟩ rfl rfl
    rw [hb1, h1]
    exact ⟨rfl, rfl, rfl, rfl, hb2⟩
  · obtain ⟨a', x, rfl, rfl, hx⟩ := lpcs_split hap
    obtain ⟨q, m, rfl, rfl, hm⟩ := lpcs_cons hx
    obtain rfl : m = [] := by
      cases m with
      | nil => rfl
      | cons _ _ => cases hm
    have hq1 : lEnd q = at_ := h1
    rw [List.foldl_append, lay_all_ahead a' _ fun p hp => by
      obtain ⟨i, hi⟩ := List.mem_iff_getElem?.1 hp
      have hil := (List.getElem?_eq_some_iff.1 hi).1
      have h3 : (lpcs (a' ++ [q]))[i]? = some (lpc p) := by unfold lpcs; rw [List.getElem?_map, List.getElem?_append_left hil, hi]; rfl
      have h4 : (lpcs (a' ++ [q]))[a'.length]? = some (lpc q) := by unfold lpcs; rw [List.getElem?_map, List.getElem?_append_right (Nat.le_refl _), Nat.sub_self]; rfl
      have h5 := hA.order hil h3 h4
      have h6 : pEnd (lpc p) = lEnd p := rfl
      have h7 : (lpc q).1 = q.1 := rfl
      unfold lEnd at hq1
      omega, List.foldl_cons, List.foldl_nil]
    rw [show layStep at_ en { ahead := [] ++ a', at_ := at_, own := [], lastA := none, lastC := 0, last := [], behind := [] } q = { ahead := a', at_ := q.1, own := q.2.2.2, lastA := none, lastC := 0, last := [], behind := [] } by
      unfold layStep
      rw [if_neg (by omega), if_pos hq1]
      rfl]
    obtain ⟨lA, lC, b, hb1, hb2⟩ := hR ⟨a', q.1, q.2.2.2, none, 0, [], []⟩ rfl rfl
    rw [hb1, h2]
    exact ⟨rfl, rfl, rfl, rfl, hb2⟩

/-- What lay has gone over lies among the pieces. -/
theorem layTo_mem (at_ en : Int) (l : List Lp) : ∀ k, (∀ p ∈ (layTo at_ en l k).ahead, p ∈ l) ∧ (∀ p ∈ (layTo at_ en l k).behind, p ∈ l) ∧
    ((layTo at_ en l k).lastA = none ∧ (layTo at_ en l k).lastC = 0 ∧ (layTo at_ en l k).last = [] ∨ ∃ p ∈ l, (layTo at_ en l k).lastA = p.2.1 ∧ (layTo at_ en l k).lastC = p.2.2.1 ∧ (layTo at_ en l k).last = p.2.2.2) ∧
    (layTo at_ en l k).ahead.length ≤ k ∧ (layTo at_ en l k).behind.length ≤ k ∧ ((layTo at_ en l k).own.length : Int) ≤ heldS (lpcs (l.take k))
  | 0 => by
    refine ⟨fun p hp => ?_, fun p hp => ?_, .inl ⟨rfl, rfl, rfl⟩, Nat.le_refl _, Nat.le_refl _, by show ((0 : Nat) : Int) ≤ _; omega⟩ <;> (unfold layTo at hp; rw [List.take_zero] at hp; cases hp)
  | k + 1 => by
    obtain ⟨h1, h2, h3, h4, h5, h6⟩ := layTo_mem at_ en l k
    cases hk : l[k]? with
    | none =>
      have e : layTo at_ en l (k + 1) = layTo at_ en l k := by
        unfold layTo
        rw [List.take_add_one, hk]
        simp
      have e2 : l.take (k + 1) = l.take k := by rw [List.take_add_one, hk]; simp
      rw [e, e2]
      exact ⟨h1, h2, h3, by omega, by omega, h6⟩
    | some p =>
      have hp := List.mem_of_getElem? hk
      have e2 : heldS (lpcs (l.take (k + 1))) = heldS (lpcs (l.take k)) + p.2.2.2.length := by
        rw [List.take_add_one, hk]
        show heldS (lpcs (l.take k ++ [p])) = _
        rw [lpcs_append, heldS_append]
        rfl
      rw [layTo_succ hk, e2]
      unfold layStep
      split
      · refine ⟨fun q hq => ?_, h2, h3, ?_, Nat.le_succ_of_le h5, by show ((layTo at_ en l k).own.length : Int) ≤ _; omega⟩
        · rcases List.mem_append.1 hq with hq | hq
          · exact h1 q hq
          · rw [List.mem_singleton.1 hq]; exact hp
        · show ((layTo at_ en l k).ahead ++ [p]).length ≤ k + 1
          rw [List.length_append, List.length_singleton]
          omega
      · split
        · refine ⟨h1, h2, h3, Nat.le_succ_of_le h4, Nat.le_succ_of_le h5, ?_⟩
          show (((layTo at_ en l k).own ++ p.2.2.2).length : Int) ≤ _
          rw [List.length_append]
          omega
        · split
          · exact ⟨h1, h2, .inr ⟨p, hp, rfl, rfl, rfl⟩, Nat.le_succ_of_le h4, Nat.le_succ_of_le h5, by show ((layTo at_ en l k).own.length : Int) ≤ _; omega⟩
          · refine ⟨h1, fun q hq => ?_, h3, Nat.le_succ_of_le h4, ?_, by show ((layTo at_ en l k).own.length : Int) ≤ _; omega⟩
            · rcases List.mem_append.1 hq with hq | hq
              · exact h2 q hq
              · rw [List.mem_singleton.1 hq]; exact hp
            · show ((layTo at_ en l k).behind ++ [p]).length ≤ k + 1
              rw [List.length_append, List.length_singleton]
              omega
end Go.Proofs.Ytajfamjdfhjdeaa
