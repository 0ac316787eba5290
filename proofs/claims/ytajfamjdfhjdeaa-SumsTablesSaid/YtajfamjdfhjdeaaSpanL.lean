/- Plain law: pieces of bytes and what stands at each place. No program. -/
import Derived.Test.YtajfamjdfhjdeaaKit2
import Derived.Laws.CopyOwn
namespace Go.Proofs.Ytajfamjdfhjdeaa
open Go.RowKit

/-- A piece: its place, its bytes. -/
abbrev Pc := Int × List Int
def pEnd (p : Pc) : Int := p.1 + (p.2.length : Int)
def lay1 (k : Int) (v : Int) (p : Pc) : Int := if p.1 ≤ k ∧ k < pEnd p then p.2.getD (k - p.1).toNat 0 else v
/-- The byte at a place. -/
def byteAt (ps : List Pc) (k : Int) : Int := ps.foldl (lay1 k) 0
def stretch (ps : List Pc) (at_ : Int) (n : Nat) : List Int := (List.range n).map fun (i : Nat) => byteAt ps (at_ + (i : Int))
/-- Pieces in order, none empty, none of which touch, from lo on. -/
def Chain : Int → List Pc → Prop
  | _, [] => True
  | lo, p :: ps => lo ≤ p.1 ∧ 0 < p.2.length ∧ Bs p.2 ∧ Chain (pEnd p + 1) ps
/-- All ends up to N. -/
def Ends (N : Int) (ps : List Pc) : Prop := ∀ p ∈ ps, pEnd p ≤ N

theorem stretch_len (ps : List Pc) (a : Int) (n : Nat) : (stretch ps a n).length = n := by simp [stretch]
theorem stretch_get (ps : List Pc) (a : Int) (n i : Nat) (h : i < n) : (stretch ps a n)[i]? = some (byteAt ps (a + i)) := by simp [stretch, h]
theorem byteAt_snoc (ps : List Pc) (p : Pc) (k : Int) : byteAt (ps ++ [p]) k = lay1 k (byteAt ps k) p := by simp [byteAt]
theorem lay1_bd {k v : Int} {p : Pc} (hb : Bs p.2) (hv : 0 ≤ v ∧ v < 256) : 0 ≤ lay1 k v p ∧ lay1 k v p < 256 := by
  unfold lay1
  split
  · exact hb.get _
  · exact hv
theorem foldl_bd (k : Int) : ∀ (ps : List Pc) (v : Int), (∀ p ∈ ps, Bs p.2) → 0 ≤ v ∧ v < 256 → 0 ≤ ps.foldl (lay1 k) v ∧ ps.foldl (lay1 k) v < 256
  | [], _, _, hv => hv
  | p :: ps, _, hb, hv => foldl_bd k ps _ (fun q hq => hb q (List.mem_cons_of_mem _ hq)) (lay1_bd (hb p List.mem_cons_self) hv)
theorem stretch_bs {ps : List Pc} (hb : ∀ p ∈ ps, Bs p.2) (a : Int) (n : Nat) : Bs (stretch ps a n) := by
  intro x hx
  simp only [stretch, List.mem_map] at hx
  obtain ⟨i, _, rfl⟩ := hx
  exact foldl_bd _ ps 0 hb (by omega)
theorem foldl_same (k : Int) : ∀ (ps : List Pc) (v : Int), (∀ p ∈ ps, ¬ (p.1 ≤ k ∧ k < pEnd p)) → ps.foldl (lay1 k) v = v
  | [], _, _ => rfl
  | p :: ps, v, h => by
    rw [List.foldl_cons, lay1, if_neg (h p List.mem_cons_self)]
    exact foldl_same k ps v fun q hq => h q (List.mem_cons_of_mem _ hq)
theorem stretch_skip {l r : List Pc} {a : Int} {n : Nat} (h : ∀ p ∈ l, pEnd p ≤ a) : stretch (l ++ r) a n = stretch r a n := by
  apply List.map_congr_left
  intro i _
  unfold byteAt
  rw [List.foldl_append, foldl_same _ l 0 fun p hp => by have := h p hp; omega]
theorem stretch_done {l r : List Pc} {a : Int} {n : Nat} (h : ∀ p ∈ r, a + n ≤ p.1) : stretch (l ++ r) a n = stretch l a n := by
  apply List.map_congr_left
  intro i hi
  have hi' := List.mem_range.1 hi
  unfold byteAt
  rw [List.foldl_append, foldl_same _ r _ fun p hp => by have := h p hp; omega]
theorem splice_get {α : Type} (L : List α) (d : Nat) (cs : List α) (_ : d + cs.length ≤ L.length) (i : Nat) :
    (splice L d cs)[i]? = if d ≤ i ∧ i < d + cs.length then cs[i - d]? else L[i]? := by
  unfold splice
  by_cases h1 : i < d
  · rw [if_neg (by omega), List.getElem?_append_left (by rw [List.length_take]; omega), List.getElem?_take_of_lt h1]
  · rw [List.getElem?_append_right (by rw [List.length_take]; omega), List.length_take, show min d L.length = d by omega]
    by_cases h2 : i - d < cs.length
    · rw [if_pos (by omega), List.getElem?_append_left h2]
    · rw [if_neg (by omega), List.getElem?_append_right (by omega), List.getElem?_drop]
      congr 1
      omega
/-- A piece is laid: from d on, m of its bytes from f on. -/
theorem stretch_lay {l : List Pc} {p : Pc} {a : Int} {n d f m : Nat} (hd : d + m ≤ n) (hf : f + m ≤ p.2.length) (hat : a + d = p.1 + f) (h1 : d = 0 ∨ f = 0) (h2 : d + m = n ∨ f + m = p.2.length) :
    stretch (l ++ [p]) a n = splice (stretch l a n) d ((p.2.drop f).take m) := by
  have hl : ((p.2.drop f).take m).length = m := by rw [List.length_take, List.length_drop]; omega
  apply List.ext_getElem?
  intro i
  rw [splice_get _ _ _ (by rw [hl, stretch_len]; exact hd), hl]
  by_cases hi : i < n
  · rw [stretch_get _ _ _ _ hi, stretch_get _ _ _ _ hi, byteAt_snoc, lay1]
    have e : pEnd p = p.1 + (p.2.length : Int) := rfl
    by_cases hc : d ≤ i ∧ i < d + m
    · rw [if_pos hc, if_pos (by rw [e]; omega), List.getElem?_take_of_lt (by omega), List.getElem?_drop, List.getD, show (a + (i : Int) - p.1).toNat = f + (i - d) by omega]
      rw [List.getElem?_eq_getElem (by omega)]
      rfl
    · rw [if_neg hc, if_neg]
      rw [e]
      intro hh
      rcases h1 with h1 | h1 <;> rcases h2 with h2 | h2 <;> omega
  · rw [if_neg (by omega), List.getElem?_eq_none (by rw [stretch_len]; omega), List.getElem?_eq_none (by rw [stretch_len]; omega)]
theorem stretch_nil (a : Int) (n : Nat) : stretch [] a n = List.replicate n 0 := by
  apply List.ext_getElem?
  intro i
  by_cases hi : i < n
  · rw [stretch_get _ _ _ _ hi, List.getElem?_replicate, if_pos hi]
    rfl
  · rw [List.getElem?_eq_none (by rw [stretch_len]; omega), List.getElem?_eq_none (by simp; omega)]

theorem Chain.mono {lo lo' : Int} (h : lo' ≤ lo) : ∀ {ps : List Pc}, Chain lo ps → Chain lo' ps
  | [], _ => trivial
  | _ :: _, g => ⟨by have := g.1; omega, g.2⟩
theorem Chain.bs : ∀ {ps : List Pc} {lo : Int}, Chain lo ps → ∀ p ∈ ps, Bs p.2
  | _ :: _, _, h, p, hp => by
    rcases List.mem_cons.1 hp with rfl | hp
    · exact h.2.2.1
    · exact h.2.2.2.bs p hp
theorem Chain.lo : ∀ {ps : List Pc} {lo : Int}, Chain lo ps → ∀ p ∈ ps, lo ≤ p.1 ∧ 0 < p.2.length
  | q :: _, _, h, p, hp => by
    rcases List.mem_cons.1 hp with rfl | hp
    · exact ⟨h.1, h.2.1⟩
    · have g := h.2.2.2.lo p hp
      have h1 := h.1
      exact ⟨by have e : pEnd q = q.1 + (q.2.length : Int) := rfl; omega, g.2⟩
theorem Chain.drop : ∀ (k : Nat) {ps : List Pc} {lo : Int}, Chain lo ps → Chain lo (ps.drop k)
  | 0, _, _, h => h
  | _ + 1, [], _, _ => trivial
  | k + 1, q :: _, _, h => Chain.drop k (h.2.2.2.mono (by have := h.1; have e : pEnd q = q.1 + (q.2.length : Int) := rfl; omega))
/-- A later piece lies behind an earlier one's end. -/
theorem Chain.order : ∀ {ps : List Pc} {lo : Int}, Chain lo ps → ∀ {i j : Nat} {p q : Pc}, i < j → ps[i]? = some p → ps[j]? = some q → pEnd p < q.1
  | r :: ps, _, h, i, j, p, q, hij, hp, hq => by
    obtain ⟨j, rfl⟩ : ∃ k, j = k + 1 := ⟨j - 1, by omega⟩
    rw [List.getElem?_cons_succ] at hq
    cases i with
    | zero =>
      rw [List.getElem?_cons_zero] at hp
      cases hp
      have := (h.2.2.2.lo q (List.mem_of_getElem? hq)).1
      omega
    | succ i =>
      rw [List.getElem?_cons_succ] at hp
      exact h.2.2.2.order (by omega) hp hq
end Go.Proofs.Ytajfamjdfhjdeaa
