/- Spans in memory; (piece).end; behind. -/
import Derived.Test.YtajfamjdfhjdeaaSearch
import Derived.Test.YtajfamjdfhjdeaaSpanL
import Derived.Deep.RegionHeld3
import Derived.Deep.DrawnRows
namespace Go.Proofs.Ytajfamjdfhjdeaa
open Go.RowKit
attribute [local go_sem ↓] Go.wp_at_zero Go.wp_at_succ

/-- Piece i of a row of pieces that begins at (b, o). -/
def PcAt (w : World) (B b o i : Nat) (p : Pc) : Prop :=
  ∃ A c, w.cell? ⟨b, o + i * 2, none⟩ = some (.int .i64 p.1) ∧ w.cell? ⟨b, o + i * 2 + 1, none⟩ = some (.slice A p.2.length c) ∧ p.2.length ≤ c ∧ c ≤ 9223372036854775807 ∧ Byt w B A p.2.length p.2
/-- A row of pieces, wherever it lies. -/
def Row (w : World) (B : Nat) (A : Option Addr) (ps : List Pc) : Prop := 0 < ps.length → ∃ b o, A = some ⟨b, o, none⟩ ∧ b < B ∧ ∀ i p, ps[i]? = some p → PcAt w B b o i p
/-- Bytes with holes at block g: its pieces, its size; all below block B. -/
structure Span (w : World) (B g : Nat) (ps : List Pc) (N : Int) : Prop where
  top : ∃ A c, w.heap[g]? = some (.cells #[.slice A ps.length c, .int .i64 N] 120) ∧ ps.length ≤ c ∧ c ≤ 9223372036854775807 ∧ Row w B A ps
  hg : g < B
  chain : Chain 0 ps
  ends : Ends N ps
  n0 : 0 ≤ N
  n1 : N ≤ 1073741824

theorem PcAt.keep {w w' : World} {B B' b o i : Nat} {p : Pc} (h : PcAt w B b o i p) (hk : ∀ q : Addr, q.block < B → w'.cell? q = w.cell? q) (hb : b < B) (hB : B ≤ B') : PcAt w' B' b o i p := by
  obtain ⟨A, c, h1, h2, h3, h4, h5⟩ := h
  exact ⟨A, c, (hk _ hb).trans h1, (hk _ hb).trans h2, h3, h4, (h5.keep hk).more hB⟩
theorem Row.cut {w : World} {B c j : Nat} {A : Option Addr} {ps : List Pc} (h : Row w B A ps) (hc : ps.length ≤ c) (hj : j ≤ ps.length) : Row w B (if c = j then A else A.map (fun x => x.add (j * 2))) (ps.drop j) := by
  intro hn
  rw [List.length_drop] at hn
  obtain ⟨b, o, rfl, hb, hp⟩ := h (by omega)
  rw [if_neg (by omega)]
  refine ⟨b, o + j * 2, by simp [add_at], hb, fun i p hi => ?_⟩
  rw [List.getElem?_drop] at hi
  obtain ⟨A1, c1, h1, h2, h3⟩ := hp (j + i) p hi
  have e : o + j * 2 + i * 2 = o + (j + i) * 2 := by omega
  exact ⟨A1, c1, by rw [e]; exact h1, by rw [e]; exact h2, h3⟩
theorem Span.past {w w' : World} {B g : Nat} {ps : List Pc} {N : Int} (h : Span w B g ps N) (hb : Below B w w') : Span w' B g ps N := by
  obtain ⟨⟨A, c, h1, h2, h3, h4⟩, h5, h6, h7, h8, h9⟩ := h
  refine ⟨⟨A, c, (hb.block g h5).trans h1, h2, h3, fun hn => ?_⟩, h5, h6, h7, h8, h9⟩
  obtain ⟨b, o, e, hbB, hp⟩ := h4 hn
  exact ⟨b, o, e, hbB, fun i p hi => (hp i p hi).keep (fun q hq => hb.cell hq) hbB (Nat.le_refl _)⟩
/-- A row of bounded pieces is not long. -/
theorem Chain.count : ∀ {ps : List Pc} {lo N : Int}, Chain lo ps → Ends N ps → 0 ≤ lo → lo ≤ N → (ps.length : Int) ≤ N - lo + 1
  | [], lo, N, _, _, _, h => by simp; omega
  | p :: ps, lo, N, h, he, h0, h1 => by
    have e : pEnd p = p.1 + (p.2.length : Int) := rfl
    have h2 := he p List.mem_cons_self
    have h3 := h.1
    have h4 := h.2.1
    by_cases hl : pEnd p + 1 ≤ N
    · have := Chain.count h.2.2.2 (fun q hq => he q (List.mem_cons_of_mem _ hq)) (by omega) hl
      rw [List.length_cons]
      omega
    · cases ps with
      | nil => simp; omega
      | cons q ps =>
        have g1 := h.2.2.2.1
        have g2 := h.2.2.2.2.1
        have g3 := he q (List.mem_cons_of_mem _ List.mem_cons_self)
        have e2 : pEnd q = q.1 + (q.2.length : Int) := rfl
        omega
theorem Span.count {w : World} {B g : Nat} {ps : List Pc} {N : Int} (h : Span w B g ps N) : ps.length ≤ 1073741825 := by
  have := h.chain.count h.ends (Int.le_refl 0) h.n0
  have := h.n1
  omega
theorem Span.pc_bd {w : World} {B g : Nat} {ps : List Pc} {N : Int} (h : Span w B g ps N) {p : Pc} (hp : p ∈ ps) : 0 ≤ p.1 ∧ pEnd p ≤ 1073741824 ∧ 0 < p.2.length := by
  have h1 := h.chain.lo p hp
  have h2 := h.ends p hp
  have h3 := h.n1
  exact ⟨h1.1, by omega, h1.2⟩

theorem cell_past {w w' : World} {a : Addr} {v : Value} (hb : Below w.heap.size w w') (h : w.cell? a = some v) : w'.cell? a = some v := (hb.cell (World.block_lt_of_cell? _ _ h)).trans h

theorem below_undrew {w w' : World} (h : Below w.drew.heap.size w.drew w') : Below w.heap.size w w' := ⟨h.os, h.tape, h.output, h.size, h.block⟩

theorem end_any (at_ : Int) (A : Option Addr) (n c : Nat) (w : World) (h0 : 0 ≤ at_) (h1 : at_ + (n : Int) ≤ 1073741824) :
    Calls Try.prog 56 #[.agg #[.int .i64 at_, .slice A n c]] w fun e w' => e = .returned (.int .i64 (at_ + (n : Int))) ∧ Below w.heap.size w w' := by
  go_enter Try.func56, Try.ntmps56
  go_wp2
  go_ret
  exact ⟨rfl, Below.alloc (Below.refl _ _) (Nat.le_refl _) _⟩

def endB (at_ : Int) (ps : List Pc) (i : Nat) : Bool := decide (at_ < pEnd (ps.getD i (0, [])))

theorem behind1_any {w : World} {B g : Nat} {ps : List Pc} {N at_ : Int} (h : Span w B g ps N) (b1 b2 i : Nat) (hi : i < ps.length) (h1 : w.cell? ⟨b1, 0, none⟩ = some (.pointer (some ⟨g, 0, none⟩))) (h2 : w.cell? ⟨b2, 0, none⟩ = some (.int .i64 at_)) :
    Calls Try.prog 77 #[.int .i64 (i : Int), .pointer (some ⟨b1, 0, none⟩), .pointer (some ⟨b2, 0, none⟩)] w fun e w' => e = .returned (.bool (endB at_ ps i)) ∧ Below w.heap.size w w' := by
  obtain ⟨A, c, ht, hc1, hc2, hp⟩ := h.top
  obtain ⟨b, o, rfl, hb, hp⟩ := hp (by omega)
  obtain ⟨p, hpi⟩ : ∃ p, ps[i]? = some p := ⟨_, List.getElem?_eq_getElem hi⟩
  obtain ⟨A1, c1, k1, k2, k3, k4, k5⟩ := hp i p hpi
  have hbd := h.pc_bd (List.mem_of_getElem? hpi)
  have e1 : endB at_ ps i = decide (at_ < p.1 + (p.2.length : Int)) := by
    unfold endB
    rw [List.getD, hpi]
    rfl
  rw [e1]
  have hE : pEnd p = p.1 + (p.2.length : Int) := rfl
  rw [hE] at hbd
  have g1 := cell_of_heap ht (o := 0) rfl
  have hcnt := h.count
  have hi0 : (0 : Int) ≤ (i : Int) := by omega
  have hi1 : (i : Int) < (ps.length : Int) := by omega
  clear h ht hp k5 e1 hE hpi
  have hend := fun W => end_any p.1 A1 p.2.length c1 W hbd.1 hbd.2.1
  generalize p.1 = pa at *
  generalize p.2.length = pl at *
  replace hend := box hend
  go_enter Try.func77, Try.ntmps77
  go_wp2
  go_region_held3 (fun W => W.cell? ⟨b1, 0, none⟩ = some (.pointer (some ⟨g, 0, none⟩)) ∧ W.cell? ⟨b2, 0, none⟩ = some (.int .i64 at_) ∧ W.cell? ⟨g, 0, none⟩ = some (.slice (some ⟨b, o, none⟩) ps.length c) ∧ W.cell? ⟨b, o + i * 2, none⟩ = some (.int .i64 pa) ∧ W.cell? ⟨b, o + i * 2 + 1, none⟩ = some (.slice A1 pl c1)) (first | go_keep | exact ⟨cell_past hb1 h1, cell_past hb1 h2, cell_past hb1 g1, cell_past hb1 k1, cell_past hb1 k2⟩)
    (with_reducible (refine Calls.mono (hend.out _) ?_); rintro e w1 ⟨rfl, hb1⟩)
  go_wp2
  go_ret
  exact ⟨rfl, below_undrew hb1⟩

theorem endB_mono {w : World} {B g : Nat} {ps : List Pc} {N : Int} (h : Span w B g ps N) (at_ : Int) (a b : Nat) (hab : a ≤ b) (hb : b < ps.length) (ha : endB at_ ps a = true) : endB at_ ps b = true := by
  unfold endB at *
  simp only [decide_eq_true_eq] at *
  have e1 : ps.getD a (0, []) = ps[a] := by simp [List.getD, show a < ps.length by omega]
  have e2 : ps.getD b (0, []) = ps[b] := by simp [List.getD, hb]
  rw [e1] at ha
  rw [e2]
  rcases Nat.lt_or_ge a b with g | g
  · have h1 := h.chain.order g (List.getElem?_eq_getElem (by omega)) (List.getElem?_eq_getElem hb)
    have e : pEnd ps[b] = (ps[b]).1 + ((ps[b]).2.length : Int) := rfl
    omega
  · obtain rfl : a = b := by omega
    exact ha

/-- How many pieces end up to a place. -/
def Behind (ps : List Pc) (at_ : Int) (j : Nat) : Prop := j ≤ ps.length ∧ (∀ p ∈ ps.take j, pEnd p ≤ at_) ∧ (∀ p ∈ ps.drop j, at_ < pEnd p)
theorem behind_any {w : World} {B g : Nat} {ps : List Pc} {N at_ : Int} (h : Span w B g ps N) (hB : B ≤ w.heap.size) :
    Calls Try.prog 55 #[.pointer (some ⟨g, 0, none⟩), .int .i64 at_] w fun e w' => ∃ j : Nat, e = .returned (.int .i64 (j : Int)) ∧ Behind ps at_ j ∧ Below w.heap.size w w' := by
  obtain ⟨A, c, ht, hc1, hc2, hp⟩ := h.top
  have g1 := cell_of_heap ht (o := 0) rfl
  have hg : g < w.heap.size := by have := h.hg; omega
  have g2 : g < w.heap.size + 1 := by omega
  have hcnt := h.count
  have b2 : Below w.heap.size w ((w.alloc (.cells #[.pointer (some ⟨g, 0, none⟩)] 46)).alloc (.cells #[.int .i64 at_] 2)) := (Below.alloc (Below.refl _ _) (Nat.le_refl _) _).alloc (by simp) _
  have k1 : ((w.alloc (.cells #[.pointer (some ⟨g, 0, none⟩)] 46)).alloc (.cells #[.int .i64 at_] 2)).cell? ⟨w.heap.size, 0, none⟩ = some (.pointer (some ⟨g, 0, none⟩)) := by
    refine cell_of_heap (fr := (0, 0)) (cs := #[.pointer (some ⟨g, 0, none⟩)]) (e := 46) ?_ rfl
    rw [Below.heap_alloc _ _ _ (by simp)]
    exact heap_alloc_new _ _
  have k2 : ((w.alloc (.cells #[.pointer (some ⟨g, 0, none⟩)] 46)).alloc (.cells #[.int .i64 at_] 2)).cell? ⟨w.heap.size + 1, 0, none⟩ = some (.int .i64 at_) := by
    refine cell_of_heap (fr := (0, 0)) (cs := #[.int .i64 at_]) (e := 2) ?_ rfl
    have := heap_alloc_new (w.alloc (.cells #[.pointer (some ⟨g, 0, none⟩)] 46)) (.cells #[.int .i64 at_] 2)
    rwa [show (w.alloc (.cells #[.pointer (some ⟨g, 0, none⟩)] 46)).heap.size = w.heap.size + 1 by simp] at this
  have hs := search_any (w := (w.alloc (.cells #[.pointer (some ⟨g, 0, none⟩)] 46)).alloc (.cells #[.int .i64 at_] 2)) 77 #[.pointer (some ⟨w.heap.size, 0, none⟩), .pointer (some ⟨w.heap.size + 1, 0, none⟩)] ps.length (endB at_ ps) (fun _ _ => by kernel_rfl) (by omega)
    (fun W i hW hi => behind1_any (h.past ((b2.mono hB).trans (hW.mono (by simp; omega)))) w.heap.size (w.heap.size + 1) i hi (cell_past hW k1) (cell_past hW k2))
    (endB_mono h at_)
  replace hs := box hs
  replace b2 := box b2
  have hch := box h
  clear h hp ht k1 k2
  go_enter Try.func55, Try.ntmps55
  go_wp2_with fail
  refine Calls.mono hs.out ?_
  rintro e w1 ⟨j, rfl, hj, h1, h2, hb1⟩
  replace h1 := box h1
  replace h2 := box h2
  go_wp2
  go_ret
  refine ⟨j, rfl, ⟨hj, fun p hp => ?_, fun p hp => ?_⟩, b2.out.trans (hb1.mono (by simp; omega))⟩
  · obtain ⟨i, hi⟩ := List.mem_iff_getElem?.1 hp
    have hij : i < j := by
      have := (List.getElem?_eq_some_iff.1 hi).1
      rw [List.length_take] at this
      omega
    rw [List.getElem?_take_of_lt hij] at hi
    have := h1.out i hij
    unfold endB at this
    rw [List.getD, hi] at this
    simp only [Option.getD_some, decide_eq_false_iff_not] at this
    omega
  · obtain ⟨i, hi⟩ := List.mem_iff_getElem?.1 hp
    rw [List.getElem?_drop] at hi
    have := h2.out (j + i) (by omega) (List.getElem?_eq_some_iff.1 hi).1
    unfold endB at this
    rw [List.getD, hi] at this
    simpa using this
end Go.Proofs.Ytajfamjdfhjdeaa
