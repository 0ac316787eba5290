/- span.New. -/
import Derived.Test.YtajfamjdfhjdeaaClone8
import Derived.Test.YtajfamjdfhjdeaaSpanK
namespace Go.Proofs.Ytajfamjdfhjdeaa
open Go.RowKit

def newPs (zs : List Int) : List Pc := if zs.length = 0 then [] else [(0, zs)]

theorem span_none (w : World) : Span (w.alloc (.cells #[.slice none 0 0, .int .i64 ((0 : Nat) : Int)] 120)) (w.alloc (.cells #[.slice none 0 0, .int .i64 ((0 : Nat) : Int)] 120)).heap.size w.heap.size (newPs []) ((0 : Nat) : Int) :=
  ⟨⟨none, 0, heap_alloc_new _ _, Nat.le_refl _, by omega, fun h => absurd h (Nat.lt_irrefl 0)⟩, by simp, trivial, fun _ h => (by cases h), by omega, by omega⟩
theorem span_one {w : World} {A : Option Addr} {n c : Nat} {zs : List Int} (hc : n ≤ c ∧ c ≤ 9223372036854775807) (h : Byt w w.heap.size A n zs) (h0 : 0 < n) (hn : n ≤ 4194304) :
    Span ((w.alloc (.cells #[.slice (some ⟨w.heap.size + 1, 0, none⟩) 1 1, .int .i64 (n : Int)] 120)).alloc (.cells #[.int .i64 0, .slice A n c] 122))
      ((w.alloc (.cells #[.slice (some ⟨w.heap.size + 1, 0, none⟩) 1 1, .int .i64 (n : Int)] 120)).alloc (.cells #[.int .i64 0, .slice A n c] 122)).heap.size w.heap.size (newPs zs) (n : Int) := by
  have hl := h.len
  subst hl
  have hp : newPs zs = [(0, zs)] := if_neg (by omega)
  rw [hp]
  have hb : Below w.heap.size w ((w.alloc (.cells #[.slice (some ⟨w.heap.size + 1, 0, none⟩) 1 1, .int .i64 (zs.length : Int)] 120)).alloc (.cells #[.int .i64 0, .slice A zs.length c] 122)) := (Below.alloc (Below.refl _ _) (Nat.le_refl _) _).alloc (by simp) _
  have hs : ((w.alloc (.cells #[.slice (some ⟨w.heap.size + 1, 0, none⟩) 1 1, .int .i64 (zs.length : Int)] 120)).alloc (.cells #[.int .i64 0, .slice A zs.length c] 122)).heap.size = w.heap.size + 2 := by simp
  have h1 : ((w.alloc (.cells #[.slice (some ⟨w.heap.size + 1, 0, none⟩) 1 1, .int .i64 (zs.length : Int)] 120)).alloc (.cells #[.int .i64 0, .slice A zs.length c] 122)).heap[w.heap.size]? = some (.cells #[.slice (some ⟨w.heap.size + 1, 0, none⟩) 1 1, .int .i64 (zs.length : Int)] 120) := by
    rw [Below.heap_alloc _ _ _ (by simp)]
    exact heap_alloc_new _ _
  have h2 : ((w.alloc (.cells #[.slice (some ⟨w.heap.size + 1, 0, none⟩) 1 1, .int .i64 (zs.length : Int)] 120)).alloc (.cells #[.int .i64 0, .slice A zs.length c] 122)).heap[w.heap.size + 1]? = some (.cells #[.int .i64 0, .slice A zs.length c] 122) := by
    have := heap_alloc_new (w.alloc (.cells #[.slice (some ⟨w.heap.size + 1, 0, none⟩) 1 1, .int .i64 (zs.length : Int)] 120)) (.cells #[.int .i64 0, .slice A zs.length c] 122)
    rwa [show (w.alloc (.cells #[.slice (some ⟨w.heap.size + 1, 0, none⟩) 1 1, .int .i64 (zs.length : Int)] 120)).heap.size = w.heap.size + 1 by simp] at this
  refine ⟨⟨_, 1, h1, Nat.le_refl _, by omega, fun _ => ⟨_, _, rfl, by omega, fun i p hi => ?_⟩⟩, by omega, ⟨Int.le_refl _, h0, h.bs, trivial⟩, ?_, by omega, by omega⟩
  · cases i with
    | succ i => simp at hi
    | zero =>
      rw [List.getElem?_cons_zero] at hi
      cases hi
      exact ⟨A, c, cell_of_heap h2 rfl, cell_of_heap h2 rfl, hc.1, hc.2, (h.below hb).more (by omega)⟩
  · intro p hp
    rw [List.mem_singleton.1 hp]
    show (0 : Int) + (zs.length : Int) ≤ _
    omega

set_option maxHeartbeats 1000000 in
theorem spanNew_any {w : World} {A : Option Addr} {n c B : Nat} {zs : List Int} (h : Byt w B A n zs) (hn : n ≤ 4194304) (hc : n ≤ c) :
    Calls Try.prog 31 #[.slice A n c] w fun e w' => ∃ g, e = .returned (.pointer (some ⟨g, 0, none⟩)) ∧ w.heap.size ≤ g ∧ Span w' w'.heap.size g (newPs zs) (n : Int) ∧ Below w.heap.size w w' := by
  have hn' := box hn
  have hc' : (n : Int) ≤ (c : Int) := by omega
  have hmin : min (n : Int) 4194304 = n := by omega
  have hk := box (fun W (hW : Byt W B A n zs) => clone8_any hW (c := c) (by omega))
  have HS := box h
  have hl := box h.len
  clear h hn
  go_enter Try.func31, Try.ntmps31
  set_option maxRecDepth 8000 in
  go_wp2_with fail
  refine (hk.out _ HS.out).mono ?_
  rintro e w1 ⟨A1, c1, rfl, O1, b1⟩
  clear hmin hc'
  by_cases h0 : 0 < n
  · have h1 : (0 : Int) < (n : Int) := by omega
    have O2 := box O1
    have b2 := box b1
    clear O1 b1
    go_wp2_with fail
    go_ret
    refine ⟨_, rfl, b2.out.size, ?_, ?_⟩
    · refine span_one (own_cap O2.out) ?_ h0 hn'.out
      exact byt_own O2.out HS.out.bs
    · exact (b2.out.alloc b2.out.size _).alloc (by have := b2.out.size; simp; omega) _
  · obtain rfl : n = 0 := by omega
    have O2 := box O1
    have b2 := box b1
    clear O1 b1
    go_wp2_with fail
    go_ret
    refine ⟨_, rfl, b2.out.size, ?_, b2.out.alloc b2.out.size _⟩
    obtain rfl : zs = [] := List.eq_nil_of_length_eq_zero hl.out
    exact span_none _
end Go.Proofs.Ytajfamjdfhjdeaa
