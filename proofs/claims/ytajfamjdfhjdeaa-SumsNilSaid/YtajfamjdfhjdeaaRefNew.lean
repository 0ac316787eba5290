/- The reference's New; program's New, owned. -/
import Derived.Test.YtajfamjdfhjdeaaLayR
import Derived.Test.YtajfamjdfhjdeaaNew
import Derived.Test.YtajfamjdfhjdeaaPutW
namespace Go.Proofs.Ytajfamjdfhjdeaa
open Go.RowKit
attribute [local go_sem ↓] Go.wp_at_zero Go.wp_at_succ

@[go_sem] theorem rb_build (w : World) : (Instr.build 108 #[]).run Try.prog w = .ok (.agg #[.slice none 0 0, .int .i64 0]) w := run_build w 108 _ _ (by kernel_rfl)

set_option maxRecDepth 100000 in
theorem layR_none {w : World} {g c : Nat} {A : Option Addr} {at_ : Int} :
    Calls Try.prog 54 #[.pointer (some ⟨g, 0, none⟩), .int .i64 at_, .slice A 0 c] w fun e w' => e = .returned (.tuple #[]) ∧ w' = w := by
  go_enter Try.func54, Try.ntmps54
  go_wp2
  refine bodyPost_ret (results_none (by kernel_rfl) _ _ _) rfl ?_
  exact ⟨rfl, rfl⟩

theorem lay_new (bs : List Int) (h : 0 < bs.length) : layS 0 bs (aheadS 0 (lpcs [])) (behindS 0 (0 + (bs.length : Int)) (lpcs [])) = newPs bs := by
  unfold newPs
  rw [if_neg (by omega)]
  simp [layS, aheadS, behindS, lpcs, splitL, splitR]

theorem rspan_nil {w : World} {g : Nat} {n : Int} (hg : w.heap[g]? = some (.cells #[.slice none 0 0, .int .i64 n] 108)) (h0 : 0 ≤ n) (h1 : n ≤ 1073741824) : RSpan w (fun k => k = g) g [] n :=
  ⟨⟨none, 0, hg, World.ownsRow_nil _ _ _ _, fun k hk => (by cases hk)⟩, rfl, fun k hk => by rw [hk]; exact lt_of_heap hg, fun p hp => (by cases hp), trivial, fun p hp => (by cases hp), h0, h1, by show 0 ≤ _; omega⟩

/-- What a New leaves of the reference's. -/
def NewR (w : World) (g : Nat) (ps : List Pc) (N : Int) (w' : World) : Prop := ∃ G ls, RSpan w' G g ls N ∧ lpcs ls = ps ∧ (∀ k, G k → w.heap.size ≤ k)

set_option maxHeartbeats 1000000 in
theorem rnew_any {w : World} {A : Option Addr} {n c : Nat} {zs : List Int} (h : Byt w w.heap.size A n zs) (hn : n ≤ 1048576) :
    Calls Try.prog 38 #[.slice A n c] w fun e w' => ∃ g, e = .returned (.pointer (some ⟨g, 0, none⟩)) ∧ w.heap.size ≤ g ∧ NewR w g (newPs zs) (n : Int) w' ∧ Below w.heap.size w w' := by
  have hl := h.len
  have hn1 : ¬ (4194304 : Int) < (n : Int) := by omega
  have hH := heap_alloc_new w (.cells #[.slice none 0 0, .int .i64 0] 108)
  have hH2 := heap_alloc_new w (.cells #[.slice none 0 0, .int .i64 (n : Int)] 108)
  have hB2 := Below.alloc (Below.refl w.heap.size w) (Nat.le_refl _) (.cells #[.slice none 0 0, .int .i64 (n : Int)] 108)
  have hR := rspan_nil hH2 (by omega) (by omega)
  have hlay := fun (h0 : 0 < n) => layR_any (c := c) (N := (n : Int)) (at_ := 0) hR ((h.grown hB2).more hB2.size) h0 (Int.le_refl 0) (by omega) (by simp [aheadS, behindS, lpcs, heldS]; omega)
  have c1 : (w.alloc (.cells #[.slice none 0 0, .int .i64 0] 108)).cell? ⟨w.heap.size, 1, none⟩ = some (.int .i64 0) := cell_of_heap hH rfl
  have f1 : (w.alloc (.cells #[.slice none 0 0, .int .i64 0] 108)).frozen? ⟨w.heap.size, 1, none⟩ = false := frozen_of_heap hH
  have hnew := box (fun h0 : 0 < zs.length => lay_new zs h0)
  have hby := box h
  replace hR := box hR
  replace hB2 := box hB2
  replace hlay := box hlay
  clear h hH hH2
  go_enter Try.func38, Try.ntmps38
  go_wp2_with fail
  by_cases h0 : 0 < n
  · refine Calls.mono (hlay.out h0) ?_
    rintro e w3 ⟨rfl, hL⟩
    obtain ⟨A5, c5, ls5, hg5, hO5, hok5, hps5, hC5⟩ := hL
    have hnw := hnew.out (by omega)
    rw [hl] at hnw
    rw [hnw] at hps5
    have hch : Chain 0 (lpcs ls5) := by
      rw [hps5]
      unfold newPs
      rw [if_neg (by omega)]
      exact ⟨Int.le_refl _, by show 0 < zs.length; omega, hby.out.bs, trivial⟩
    have hen : Ends (n : Int) (lpcs ls5) := by
      rw [hps5]
      unfold newPs
      rw [if_neg (by omega)]
      intro p hp
      rw [List.mem_singleton.1 hp]
      show 0 + (zs.length : Int) ≤ _
      omega
    have hhe : heldS (lpcs ls5) ≤ 4194304 := by
      rw [hps5]
      unfold newPs
      rw [if_neg (by omega)]
      show [zs.length].sum ≤ _
      simp
      omega
    obtain ⟨G', ls', hS', hps', hC', hG'⟩ := hR.out.left hC5 hg5 hO5 hok5 hch hen (by omega) (by omega) hhe
    have hbel : Below w.heap.size w w3 := hB2.out.trans (hC5.below (fun k hk => by rw [hk]; exact Nat.le_refl _) hB2.out.size)
    have hfin : Box (NewR w w.heap.size (newPs zs) (n : Int) w3) := ⟨G', ls', hS', hps'.trans hps5, fun k hk => by
      rcases hG' k hk with h | h
      · rw [h]; exact Nat.le_refl _
      · have := hB2.out.size; omega⟩
    replace hbel := box hbel
    clear hlay hg5 hO5 hok5 hps5 hC5 hch hen hhe hS' hps' hC' hG' hR hB2 hnw c1 f1
    go_wp2_with fail
    go_ret
    exact ⟨_, rfl, Nat.le_refl _, hfin.out, hbel.out⟩
  · obtain rfl : n = 0 := by omega
    refine Calls.mono layR_none ?_
    rintro e w3 ⟨rfl, rfl⟩
    have hz : zs = [] := List.eq_nil_of_length_eq_zero hl
    clear hlay c1 f1
    go_wp2_with fail
    go_ret
    exact ⟨_, rfl, Nat.le_refl _, ⟨fun k => k = w.heap.size, [], hR.out, by rw [hz]; rfl, fun k hk => Nat.le_of_eq hk.symm⟩, hB2.out⟩

/-- What a New leaves of the program's. -/
def NewS (w : World) (g : Nat) (ps : List Pc) (N : Int) (w' : World) : Prop := ∃ F ls, SpanO w' F g ls N ∧ lpcs ls = ps ∧ (∀ k, F k → w.heap.size ≤ k)

theorem spanO_none {w w1 : World} (hb : Below w.heap.size w w1) : NewS w w1.heap.size (newPs []) ((0 : Nat) : Int) (w1.alloc (.cells #[.slice none 0 0, .int .i64 ((0 : Nat) : Int)] 120)) :=
  ⟨fun k => k = w1.heap.size, [], ⟨⟨none, 0, heap_alloc_new _ _, World.ownsRow_nil _ _ _ _, fun k hk => (by cases hk)⟩, rfl, fun k hk => by rw [hk]; simp, fun p hp => (by cases hp), List.Pairwise.nil, trivial, fun p hp => (by cases hp), by omega, by omega, by show 0 ≤ _; omega⟩, rfl, fun k hk => by rw [hk]; exact hb.size⟩
theorem spanO_one {w w1 : World} {A : Option Addr} {n c : Nat} {zs : List Int} (hb : Below w.heap.size w w1) (h : Own8 w1 w.heap.size A n c zs) (hz : Bs zs) (h0 : 0 < n) (hn : n ≤ 4194304) :
    NewS w w1.heap.size (newPs zs) (n : Int) ((w1.alloc (.cells #[.slice (some ⟨w1.heap.size + 1, 0, none⟩) 1 1, .int .i64 (n : Int)] 120)).alloc (.cells #[.int .i64 0, .slice A n c] 122)) := by
  obtain ⟨b7, cur7, rfl, hb7, hh7, hn7, hc7, hl, hcur7⟩ := own8_open h h0
  subst hl
  have hp : newPs zs = [(0, zs)] := if_neg (by omega)
  rw [hp]
  have hs : ((w1.alloc (.cells #[.slice (some ⟨w1.heap.size + 1, 0, none⟩) 1 1, .int .i64 (zs.length : Int)] 120)).alloc (.cells #[.int .i64 0, .slice (some ⟨b7, 0, none⟩) zs.length c] 122)).heap.size = w1.heap.size + 2 := by simp
  have h1 : ((w1.alloc (.cells #[.slice (some ⟨w1.heap.size + 1, 0, none⟩) 1 1, .int .i64 (zs.length : Int)] 120)).alloc (.cells #[.int .i64 0, .slice (some ⟨b7, 0, none⟩) zs.length c] 122)).heap[w1.heap.size]? = some (.cells #[.slice (some ⟨w1.heap.size + 1, 0, none⟩) 1 1, .int .i64 (zs.length : Int)] 120) := by
    rw [Below.heap_alloc _ _ _ (by simp)]
    exact heap_alloc_new _ _
  have h2 : ((w1.alloc (.cells #[.slice (some ⟨w1.heap.size + 1, 0, none⟩) 1 1, .int .i64 (zs.length : Int)] 120)).alloc (.cells #[.int .i64 0, .slice (some ⟨b7, 0, none⟩) zs.length c] 122)).heap[w1.heap.size + 1]? = some (.cells #[.int .i64 0, .slice (some ⟨b7, 0, none⟩) zs.length c] 122) := by
    have := heap_alloc_new (w1.alloc (.cells #[.slice (some ⟨w1.heap.size + 1, 0, none⟩) 1 1, .int .i64 (zs.length : Int)] 120)) (.cells #[.int .i64 0, .slice (some ⟨b7, 0, none⟩) zs.length c] 122)
    rwa [show (w1.alloc (.cells #[.slice (some ⟨w1.heap.size + 1, 0, none⟩) 1 1, .int .i64 (zs.length : Int)] 120)).heap.size = w1.heap.size + 1 by simp] at this
  have h3 : ((w1.alloc (.cells #[.slice (some ⟨w1.heap.size + 1, 0, none⟩) 1 1, .int .i64 (zs.length : Int)] 120)).alloc (.cells #[.int .i64 0, .slice (some ⟨b7, 0, none⟩) zs.length c] 122)).heap[b7]? = some (.cells cur7 5 (0, 0)) := by
    have hlt := lt_of_heap hh7
    rw [Below.heap_alloc _ _ _ (by simp; omega), Below.heap_alloc _ _ _ hlt]
    exact hh7
  have hsz := hb.size
  generalize (w1.alloc (.cells #[.slice (some ⟨w1.heap.size + 1, 0, none⟩) 1 1, .int .i64 (zs.length : Int)] 120)).alloc (.cells #[.int .i64 0, .slice (some ⟨b7, 0, none⟩) zs.length c] 122) = W at *
  refine ⟨fun k => w.heap.size ≤ k ∧ k < W.heap.size, [(0, some ⟨b7, 0, none⟩, c, zs)], ⟨⟨some ⟨w1.heap.size + 1, 0, none⟩, 1, h1, ?_, ?_⟩, ⟨hsz, by omega⟩, fun k hk => hk.2, ?_, ?_, ?_, ?_, by omega, by omega, ?_⟩, rfl, fun k hk => hk.1⟩
  · refine ⟨rfl, .inr ⟨w1.heap.size + 1, 1, _, rfl, Nat.zero_le _, h2, Nat.le_refl _, by decide, ?_, ?_⟩⟩
    · rfl
    · rfl
  · intro k hk
    cases hk
    exact ⟨by show w.heap.size ≤ w1.heap.size + 1; omega, by show w1.heap.size + 1 < W.heap.size; omega⟩
  · intro p hp
    rw [List.mem_singleton.1 hp]
    refine ⟨⟨b7, 0, cur7, rfl, ⟨hb7, lt_of_heap h3⟩, h3, fun j hj => ?_⟩, hn7, hc7, hz⟩
    rw [Nat.zero_add]
    exact hcur7 j hj
  · exact List.pairwise_singleton _ _
  · exact ⟨Int.le_refl _, h0, hz, trivial⟩
  · intro p hp
    rw [List.mem_singleton.1 hp]
    show 0 + (zs.length : Int) ≤ _
    omega
  · show [zs.length].sum ≤ _
    simp
    omega

set_option maxHeartbeats 1000000 in
theorem snew_any {w : World} {A : Option Addr} {n c B : Nat} {zs : List Int} (h : Byt w B A n zs) (hn : n ≤ 4194304) (hc : n ≤ c) :
    Calls Try.prog 31 #[.slice A n c] w fun e w' => ∃ g, e = .returned (.pointer (some ⟨g, 0, none⟩)) ∧ w.heap.size ≤ g ∧ NewS w g (newPs zs) (n : Int) w' ∧ Below w.heap.size w w' := by
  have hn' := box hn
  have hc' : (n : Int) ≤ (c : Int) := by omega
  have hmin : min (n : Int) 4194304 = n := by omega
  have hk := box (fun W (hW : Byt W B A n zs) => clone8_any hW (c := c) (by omega))
  have HS := box h
  have hl := box h.len
  clear h hn
  go_enter Try.func31, Try.ntmps31
  set_option maxRecDepth 8000 in
  go_wp2_with fail
  refine (hk.out _ HS.out).mono ?_
  rintro e w1 ⟨A1, c1, rfl, O1, b1⟩
  clear hmin hc'
  by_cases h0 : 0 < n
  · have h1 : (0 : Int) < (n : Int) := by omega
    have O2 := box O1
    have b2 := box b1
    clear O1 b1
    go_wp2_with fail
    go_ret
    exact ⟨_, rfl, b2.out.size, spanO_one b2.out O2.out HS.out.bs h0 hn'.out, (b2.out.alloc b2.out.size _).alloc (by have := b2.out.size; simp; omega) _⟩
  · obtain rfl : n = 0 := by omega
    have O2 := box O1
    have b2 := box b1
    clear O1 b1
    go_wp2_with fail
    go_ret
    obtain rfl : zs = [] := List.eq_nil_of_length_eq_zero hl.out
    exact ⟨_, rfl, b2.out.size, spanO_none b2.out, b2.out.alloc b2.out.size _⟩
end Go.Proofs.Ytajfamjdfhjdeaa
