/- Held and Next, of the program's bytes and of the reference's. mantlelaw01.SameBytes over both; (Pair).Like. -/
import Derived.Test.YtajfamjdfhjdeaaRefGet
import Derived.Test.YtajfamjdfhjdeaaMade
import Derived.Test.YtajfamjdfhjdeaaEq
namespace Go.Proofs.Ytajfamjdfhjdeaa
open Go.RowKit
attribute [local go_sem ↓] Go.wp_at_zero Go.wp_at_succ

/-- What Next tells. -/
def nextOf (ps : List Pc) (N at_ : Int) : Int × Int :=
  match ps.find? (fun p => decide (max at_ 0 < pEnd p)) with
  | some p => (max (max at_ 0) p.1, pEnd p)
  | none => (N, N)
theorem next_find {ps : List Pc} {a : Int} {j : Nat} (h1 : ∀ p ∈ ps.take j, pEnd p ≤ a) : ps.find? (fun p => decide (a < pEnd p)) = (ps.drop j).find? (fun p => decide (a < pEnd p)) := by
  conv => lhs; rw [← List.take_append_drop j ps]
  rw [List.find?_append, List.find?_eq_none.2 fun p hp => by have := h1 p hp; simp; omega]
  rfl
theorem next_here {ps : List Pc} {N at_ : Int} {j : Nat} {p : Pc} (h1 : ∀ p ∈ ps.take j, pEnd p ≤ max at_ 0) (hp : ps[j]? = some p) (h2 : max at_ 0 < pEnd p) : nextOf ps N at_ = (max (max at_ 0) p.1, pEnd p) := by
  unfold nextOf
  have hd : ps.drop j = p :: ps.drop (j + 1) := by
    have hj := (List.getElem?_eq_some_iff.1 hp).1
    rw [List.drop_eq_getElem_cons hj]
    congr 1
    exact (List.getElem?_eq_some_iff.1 hp).2
  rw [next_find h1, hd, List.find?_cons_of_pos (by simpa using h2)]
theorem next_end {ps : List Pc} {N at_ : Int} (h1 : ∀ p ∈ ps, pEnd p ≤ max at_ 0) : nextOf ps N at_ = (N, N) := by
  unfold nextOf
  rw [List.find?_eq_none.2 fun p hp => by have := h1 p hp; simp; omega]
/-- Bounds. -/
theorem next_bd {ps : List Pc} {N at_ : Int} (hc : Chain 0 ps) (he : Ends N ps) (h0 : 0 ≤ N) : 0 ≤ (nextOf ps N at_).1 ∧ (nextOf ps N at_).1 ≤ (nextOf ps N at_).2 ∧ (nextOf ps N at_).2 ≤ N := by
  unfold nextOf
  cases hf : ps.find? (fun p => decide (max at_ 0 < pEnd p)) with
  | none => exact ⟨h0, Int.le_refl _, Int.le_refl _⟩
  | some p =>
    have h1 : max at_ 0 < pEnd p := by simpa using List.find?_some hf
    have h2 := List.mem_of_find?_eq_some hf
    have h3 := he p h2
    have h4 := hc.lo p h2
    have h5 := pEnd_eq p
    exact ⟨by show 0 ≤ max (max at_ 0) p.1; omega, by show max (max at_ 0) p.1 ≤ pEnd p; omega, h3⟩

theorem ret2_next {a b c d : Int} {x : Int × Int} (h : x = (c, d)) (h1 : a = c) (h2 : b = d) : Ending.returned (.tuple #[.int .i64 a, .int .i64 b]) = Ending.returned (.tuple #[.int .i64 x.1, .int .i64 x.2]) := by rw [h, h1, h2]

set_option maxHeartbeats 2000000 in
theorem snext_any {w : World} {F : Nat → Prop} {g : Nat} {ls : List Lp} {N at_ : Int} (h : SpanO w F g ls N) (h0 : 0 ≤ at_) :
    Calls Try.prog 70 #[.pointer (some ⟨g, 0, none⟩), .int .i64 at_] w fun e w' => e = .returned (.tuple #[.int .i64 (nextOf (lpcs ls) N at_).1, .int .i64 (nextOf (lpcs ls) N at_).2]) ∧ Below w.heap.size w w' := by
  obtain ⟨A, c, ht, hO, hF⟩ := h.top
  have hmax : max at_ 0 = at_ := by omega
  have g0 : w.cell? ⟨g, 0, none⟩ = some (.slice A ls.length c) := cell_of_heap ht rfl
  have g1 : w.cell? ⟨g, 1, none⟩ = some (.int .i64 N) := cell_of_heap ht rfl
  have hsp := h.span
  have hcnt := hsp.count
  rw [lpcs_len] at hcnt
  obtain ⟨j, hj⟩ := behind_ex at_ h.chain
  have hjl : j ≤ ls.length := by have := hj.1; rwa [lpcs_len] at this
  have hbh := box (behind_is hsp (Nat.le_refl _) hj)
  have hcap := own_cap hO
  by_cases hlt : j < ls.length
  · obtain ⟨p, hp⟩ : ∃ p, ls[j]? = some p := ⟨_, List.getElem?_eq_getElem hlt⟩
    have hpl : (lpcs ls)[j]? = some (lpc p) := by unfold lpcs; rw [List.getElem?_map, hp]; rfl
    obtain ⟨ra, rfl, -, hrl, x0, x1, -⟩ := OwnP.cells2 hO hp
    have hpb := hsp.pc_bd (List.mem_of_getElem? hpl)
    have hpe : at_ < pEnd (lpc p) := hj.2.2 _ (List.mem_of_getElem? (by rw [List.getElem?_drop, Nat.add_zero]; exact hpl))
    have hnx := box (next_here (N := N) (at_ := at_) (by rw [hmax]; exact hj.2.1) hpl (by rw [hmax]; exact hpe))
    obtain ⟨pa, pA, pc, pz⟩ := p
    have hp0 : 0 ≤ pa := hpb.1
    have hp1 : pa + (pz.length : Int) ≤ 1073741824 := hpb.2.1
    simp only at x0 x1
    have jlt : (j : Int) < (ls.length : Int) := by omega
    have j0 : (0 : Int) ≤ (j : Int) := by omega
    have hend := box (fun W => end_any pa pA pz.length pc W hp0 hp1)
    replace ht := box ht
    clear h hO hF hsp hpl hpe hj hpb
    go_enter Try.func70, Try.ntmps70
    go_upto_region 5 with (with_reducible (refine Calls.mono hbh.out ?_); rintro e w1 ⟨rfl, hb1⟩)
    have y0 := cell_past hb1 x0
    have y1 := cell_past hb1 x1
    have z0 := cell_past hb1 g0
    have hgl : g < w1.heap.size := Nat.lt_of_lt_of_le (lt_of_heap ht.out) hb1.size
    have hral : ra < w1.heap.size := Nat.lt_of_lt_of_le hrl hb1.size
    replace hb1 := box hb1
    clear hbh x0 x1 g0 g1
    go_upto_region 6 with fail
    go_region_held3 (fun W => W.cell? ⟨g, 0, none⟩ = some (.slice (some ⟨ra, 0, none⟩) ls.length c) ∧ W.cell? ⟨ra, j * 2, none⟩ = some (.int .i64 pa) ∧ W.cell? ⟨ra, j * 2 + 1, none⟩ = some (.slice pA pz.length pc)) (first | go_keep | exact ⟨z0, y0, y1⟩ | exact ⟨cell_past (below_undrew hb2) z0, cell_past (below_undrew hb2) y0, cell_past (below_undrew hb2) y1⟩ | exact ⟨cell_past hb2 z0, cell_past hb2 y0, cell_past hb2 y1⟩)
      (((with_reducible refine Calls.mono (hend.out _) ?_); rintro e w2 ⟨rfl, hb2⟩))
    all_goals
      go_wp2_with fail
      go_ret2
      refine ⟨ret2_next hnx.out ?_ rfl, ?_⟩
      · rw [hmax]
        rfl
      · first | exact grown_trans hb1.out hb2 | exact grown_trans hb1.out (below_undrew hb2)
  · obtain rfl : j = ls.length := by omega
    have hnx := box (next_end (ps := lpcs ls) (N := N) (at_ := at_) (fun p hp => by rw [hmax]; exact hj.2.1 p (by rw [List.take_of_length_le (by rw [lpcs_len]; exact Nat.le_refl _)]; exact hp)))
    replace ht := box ht
    clear h hO hF hsp hj
    go_enter Try.func70, Try.ntmps70
    go_upto_region 5 with (with_reducible (refine Calls.mono hbh.out ?_); rintro e w1 ⟨rfl, hb1⟩)
    have z0 := cell_past hb1 g0
    have z1 := cell_past hb1 g1
    replace hb1 := box hb1
    clear hbh g0 g1
    go_wp2
    go_region
    all_goals
      go_wp2_with fail
      go_ret2
      exact ⟨ret2_next hnx.out rfl rfl, hb1.out.drew⟩

theorem sheld_any {w : World} {F : Nat → Prop} {g : Nat} {ls : List Lp} {N : Int} (h : SpanO w F g ls N) :
    Calls Try.prog 68 #[.pointer (some ⟨g, 0, none⟩)] w fun e w' => e = .returned (.int .i64 (heldS (lpcs ls) : Int)) ∧ Below w.heap.size w w' := by
  obtain ⟨A, c, ht, hO, hF⟩ := h.top
  have g0 : w.cell? ⟨g, 0, none⟩ = some (.slice A ls.length c) := cell_of_heap ht rfl
  have hcnt := h.span.count
  rw [lpcs_len] at hcnt
  have hh := box (held_any (c := c) hO.row (Nat.le_refl _) rfl (by omega) (Nat.le_trans h.held (by decide)))
  clear h hO hF ht
  go_enter Try.func68, Try.ntmps68
  go_wp2_with fail
  refine hh.out.mono ?_
  rintro e w1 ⟨rfl, hb⟩
  replace hb := box hb
  go_wp2
  go_ret
  exact ⟨rfl, hb.out⟩
theorem rheldB_any {w : World} {G : Nat → Prop} {g : Nat} {ls : List Lp} {N : Int} (h : RSpan w G g ls N) :
    Calls Try.prog 69 #[.pointer (some ⟨g, 0, none⟩)] w fun e w' => e = .returned (.int .i64 (heldS (lpcs ls) : Int)) ∧ w' = w := by
  obtain ⟨A, c, ht, hO, hG⟩ := h.top
  have g0 : w.cell? ⟨g, 0, none⟩ = some (.slice A ls.length c) := cell_of_heap ht rfl
  have hcnt := h.count
  have hh := box (rheld_any (c := c) hO.row (Nat.le_refl _) rfl (by omega) (Nat.le_trans h.held (by decide)))
  clear h hO hG ht
  go_enter Try.func69, Try.ntmps69
  go_wp2_with fail
  refine hh.out.mono ?_
  rintro e w1 ⟨rfl, rfl⟩
  go_wp2
  go_ret
  exact ⟨rfl, rfl⟩

set_option maxHeartbeats 2000000 in
theorem rnext_any {w : World} {G : Nat → Prop} {g : Nat} {ls : List Lp} {N at_ : Int} (h : RSpan w G g ls N) (h0 : 0 ≤ at_) :
    Calls Try.prog 71 #[.pointer (some ⟨g, 0, none⟩), .int .i64 at_] w fun e w' => e = .returned (.tuple #[.int .i64 (nextOf (lpcs ls) N at_).1, .int .i64 (nextOf (lpcs ls) N at_).2]) ∧ Below w.heap.size w w' := by
  obtain ⟨A, c, ht, hO, hG⟩ := h.top
  have hmax : max at_ 0 = at_ := by omega
  have g0 : w.cell? ⟨g, 0, none⟩ = some (.slice A ls.length c) := cell_of_heap ht rfl
  have g1 : w.cell? ⟨g, 1, none⟩ = some (.int .i64 N) := cell_of_heap ht rfl
  have hcnt := h.count
  have hbd := box (fun p hp => h.pc_bd (p := p) hp)
  have hR := box hO.row
  have hgl := lt_of_heap ht
  have hg0 := box g0
  have hg1 := box g1
  clear h hO hG ht
  go_enter Try.func71, Try.ntmps71
  go_wp2
  go_loopg [6] ls.length (fun kx s6 wr => ∃ i : Nat, s6 = .int .i64 (i : Int) ∧ i ≤ ls.length ∧ ls.length - i ≤ kx ∧ Box (∀ p ∈ (lpcs ls).take i, pEnd p ≤ max at_ 0) ∧ Box (Below w.heap.size w wr))
  case atStart => exact ⟨0, rfl, Nat.zero_le _, by omega, ⟨fun p hp => by rw [List.take_zero] at hp; cases hp⟩, ⟨Below.refl _ _⟩⟩
  case round =>
    obtain ⟨i, rfl, hi, hik, hI, hb⟩ := hrel
    have z0 := (hb.out.cell (p := ⟨g, 0, none⟩) hgl).trans hg0.out
    have z1 := (hb.out.cell (p := ⟨g, 1, none⟩) hgl).trans hg1.out
    clear g0 g1
    by_cases hlt : i < ls.length
    · obtain ⟨p, hp⟩ : ∃ p, ls[i]? = some p := ⟨_, List.getElem?_eq_getElem hlt⟩
      have hpl : (lpcs ls)[i]? = some (lpc p) := by unfold lpcs; rw [List.getElem?_map, hp]; rfl
      obtain ⟨rb, ro, rfl, hrb, hrc⟩ := hR.out (by omega)
      obtain ⟨x0, x1⟩ := hrc i p hp
      obtain ⟨p0, p1, p2, p3, p4, b, o, p5⟩ := hbd.out p (List.mem_of_getElem? hp)
      have y0 := (hb.out.cell (p := ⟨rb, ro + i * 2, none⟩) hrb).trans x0
      have y1 := (hb.out.cell (p := ⟨rb, ro + i * 2 + 1, none⟩) hrb).trans x1
      have i0' : (0 : Int) ≤ (i : Int) := by omega
      have i1' : (i : Int) < (ls.length : Int) := by omega
      obtain ⟨pa, pA, pc, pz⟩ := p
      simp only at p0 p2 p3 p4 p5 y0 y1
      subst p5
      have hE : lEnd (pa, some ⟨b, o, none⟩, pc, pz) = pa + (pz.length : Int) := rfl
      rw [hE] at p1
      have hend := box (fun W => rend_any pa (some ⟨b, o, none⟩) pz.length pc W p0 p1)
      have hgr : g < wr.heap.size := Nat.lt_of_lt_of_le hgl hb.out.size
      have hrr : rb < wr.heap.size := Nat.lt_of_lt_of_le hrb hb.out.size
      clear x0 x1 hrc
      by_cases hx : at_ < pa + (pz.length : Int)
      · have hnx := box (next_here (N := N) (at_ := at_) hI.out hpl (by rw [hmax]; exact hx))
        clear hpl
        go_upto_region 6 with (with_reducible (refine Calls.mono (hend.out _) ?_); rintro e w5 ⟨rfl, hb5⟩)
        have v0 := cell_past hb5 z0
        have v1 := cell_past hb5 y0
        have v2 := cell_past hb5 y1
        have hbw := hb.out.trans (hb5.mono hb.out.size)
        replace hbw := box hbw
        clear hb5 z0 z1 y0 y1
        go_region_held3 (fun W => W.cell? ⟨g, 0, none⟩ = some (.slice (some ⟨rb, ro, none⟩) ls.length c) ∧ W.cell? ⟨rb, ro + i * 2, none⟩ = some (.int .i64 pa) ∧ W.cell? ⟨rb, ro + i * 2 + 1, none⟩ = some (.slice (some ⟨b, o, none⟩) pz.length pc)) (first | go_keep | exact ⟨v0, v1, v2⟩ | exact ⟨cell_past (below_undrew hb2) v0, cell_past (below_undrew hb2) v1, cell_past (below_undrew hb2) v2⟩ | exact ⟨cell_past hb2 v0, cell_past hb2 v1, cell_past hb2 v2⟩)
          (((with_reducible refine Calls.mono (hend.out _) ?_); rintro e w2 ⟨rfl, hb2⟩))
        all_goals
          go_wp2_with fail
          go_ret2
          refine ⟨ret2_next hnx.out ?_ rfl, ?_⟩
          · rw [hmax]
            rfl
          · first | exact hbw.out.trans (hb2.mono hbw.out.size) | exact hbw.out.trans ((below_undrew hb2).mono hbw.out.size)
      · have hI2 : Box (∀ p ∈ (lpcs ls).take (i + 1), pEnd p ≤ max at_ 0) := ⟨fun p hp' => by
          rw [List.take_add_one, hpl] at hp'
          rcases List.mem_append.1 hp' with h | h
          · exact hI.out p h
          · simp at h
            rw [h, hmax]
            show pa + (pz.length : Int) ≤ at_
            omega⟩
        clear hpl
        go_wp2_with (with_reducible (refine Calls.mono (hend.out _) ?_); rintro e w5 ⟨rfl, hb5⟩; replace hb5 := box hb5)
        go_roundg (ls.length - (i + 1))
        case measure => omega
        case rel => exact ⟨i + 1, by go_num, by omega, by omega, hI2, ⟨hb.out.trans (hb5.out.mono hb.out.size)⟩⟩
    · obtain rfl : i = ls.length := by omega
      have hnx := box (next_end (ps := lpcs ls) (N := N) (at_ := at_) (fun p hp => hI.out p (by rw [List.take_of_length_le (by rw [lpcs_len]; exact Nat.le_refl _)]; exact hp)))
      go_wp2
      go_region
      all_goals
        go_wp2_with fail
        go_ret2
        exact ⟨ret2_next hnx.out rfl rfl, hb.out.drew⟩
end Go.Proofs.Ytajfamjdfhjdeaa

namespace Go.Proofs.Ytajfamjdfhjdeaa
open Go.RowKit
attribute [local go_sem ↓] Go.wp_at_zero Go.wp_at_succ

theorem same_any {p1 p2 : Option Addr} {n c m d B1 B2 : Nat} {xs ys : List Int} {w : World} (h1 : Byt w B1 p1 n xs) (h2 : Byt w B2 p2 m ys) :
    Calls Try.prog 72 #[.slice p1 n c, .slice p2 m d] w fun e w' => e = .returned (.bool (decide (xs = ys))) ∧ w = w' := by
  have c1 := Lib.BytesIn.convert (P := Try.prog) h1.lib h1.len c 22 5 9 Try.underlying22 Try.underlying5 Try.underlying9
  have c2 := Lib.BytesIn.convert (P := Try.prog) h2.lib h2.len d 22 5 9 Try.underlying22 Try.underlying5 Try.underlying9
  have e1 := strOf_eq h1.bs h2.bs
  obtain ⟨s, hs⟩ : ∃ s, strOfNums xs = s := ⟨_, rfl⟩
  obtain ⟨t, ht⟩ : ∃ t, strOfNums ys = t := ⟨_, rfl⟩
  rw [hs] at c1 e1
  rw [ht] at c2 e1
  have E := box e1
  clear e1 hs ht h1 h2
  go_enter Try.func72, Try.ntmps72
  go_wp2
  go_ret
  refine ⟨ret_bool ?_, rfl⟩
  rw [Bool.eq_iff_iff, beq_iff_eq, decide_eq_true_iff, ← E.out, Lib.toList_data, Lib.toList_data]
  constructor
  · intro h
    cases s; cases t
    simp only [ByteArray.mk.injEq]
    exact Array.ext' h
  · rintro rfl; rfl

set_option maxHeartbeats 4000000 in
set_option maxRecDepth 100000 in
theorem sameB_any {w : World} {B S R : Nat} {ps : List Pc} {N : Int} (h : Duo B w S R ps N ps N) :
    Calls Try.prog 49 #[.pointer (some ⟨S, 0, none⟩), .pointer (some ⟨R, 0, none⟩)] w fun e w' => e = .returned (.bool true) ∧ Below w.heap.size w w' := by
  obtain ⟨F, ls, G, ms, h1, h2, hps, hqs, _⟩ := h
  obtain ⟨A, c, ht, hO, hG⟩ := h2.top
  have hcap := own_cap hO
  have hcnt := h2.count
  have hN1 := h1.n1
  have r0 : w.cell? ⟨R, 0, none⟩ = some (.slice A ms.length c) := cell_of_heap ht rfl
  have r1 : w.cell? ⟨R, 1, none⟩ = some (.int .i64 N) := cell_of_heap ht rfl
  have hRl := lt_of_heap ht
  have hsz := box (fun W (hW : Below w.heap.size w W) => spanSize_any (w := W) (h1.same hW).span)
  have hhd := box (fun W (hW : Below w.heap.size w W) => sheld_any (w := W) (h1.same hW))
  have hrh := box (fun W (hW : Below w.heap.size w W) => rheldB_any (w := W) (h2.same hW))
  have hsn := box (fun W (a : Int) (hW : Below w.heap.size w W) (ha : 0 ≤ a) => snext_any (w := W) (h1.same hW) ha)
  have hrn := box (fun W (a : Int) (hW : Below w.heap.size w W) (ha : 0 ≤ a) => rnext_any (w := W) (h2.same hW) ha)
  have hsg := box (fun W (a n : Int) (hW : Below w.heap.size w W) (ha : 0 ≤ a) (hn : 0 < n) (hn2 : n ≤ 65536) => sget_any (w := W) (at_ := a) (n := n) (h1.same hW).span (Nat.le_refl _) ha (Int.le_of_lt hn) hn2)
  have hrg := box (fun W (a n : Int) (hW : Below w.heap.size w W) (ha : 0 ≤ a) (hn : 0 < n) (hn2 : n ≤ 65536) => rget_any (w := W) (at_ := a) (n := n) (h2.same hW) ha hn hn2)
  have hbd := box (fun a : Int => next_bd (at_ := a) h1.chain h1.ends h1.n0)
  have hn0 := h1.n0
  rw [hps] at hhd hsn hsg hbd
  rw [hqs] at hrh hrn hrg
  have hR0 := box r0
  have hR1 := box r1
  clear h1 h2 ht hO hG
  go_enter Try.func49, Try.ntmps49
  go_upto_region 1 with fail
  go_cut [26] (fun s26 wx => s26 = .bool false ∧ Box (Below w.heap.size w wx))
  case first =>
    go_region_held3 (fun W => W.cell? ⟨R, 1, none⟩ = some (.int .i64 N)) (first | go_keep | exact r1 | exact cell_past hb2 r1 | exact cell_past (below_undrew hb2) r1)
      ((first
        | ((with_reducible refine Calls.mono (hsz.out _ (by first | exact Below.refl _ _ | exact (Below.refl _ _).drew)) ?_); rintro e w1 ⟨rfl, rfl⟩)
        | ((with_reducible refine Calls.mono (hhd.out _ (by first | exact Below.refl _ _ | exact (Below.refl _ _).drew)) ?_); rintro e w2 ⟨rfl, hb2⟩)
        | ((with_reducible refine Calls.mono (hrh.out _ (by first | exact hb2 | exact below_undrew hb2 | exact hb2.drew | exact (below_undrew hb2).drew)) ?_); rintro e w3 ⟨rfl, rfl⟩)))
    all_goals
      go_wp2_with fail
      go_meet
      exact ⟨rfl, ⟨below_undrew hb2⟩⟩
  case rest =>
    obtain ⟨rfl, hbc⟩ := hcut
    clear r0 r1 hsz hhd hrh
    go_wp2_with fail
    go_loopg [5, 6] (ms.length + 1) (fun kx s5 s6 wr => ∃ (k : Nat) (a : Int), s6 = .int .i64 (k : Int) ∧ s5 = .int .i64 a ∧ 0 ≤ a ∧ a ≤ 1073741824 ∧ k ≤ ms.length + 1 ∧ ms.length + 1 - k ≤ kx ∧ Box (Below w.heap.size w wr))
    case atStart => exact ⟨0, 0, rfl, rfl, by omega, by omega, by omega, by omega, hbc⟩
    case round =>
      obtain ⟨k, a, rfl, rfl, ha0, ha1, hk, hkk, hb⟩ := hrel
      have z0 := (hb.out.cell (p := ⟨R, 0, none⟩) hRl).trans hR0.out
      by_cases hlt : k ≤ ms.length
      · have hlt' : (k : Int) ≤ (ms.length : Int) := by omega
        have hs1 := box (hsn.out wr a hb.out ha0)
        have hr1 := box (fun W (hW : Below w.heap.size w W) => hrn.out W a hW ha0)
        obtain ⟨b1, b2, b3⟩ := hbd.out a
        generalize (nextOf ps N a).1 = fr at *
        generalize (nextOf ps N a).2 = tt at *
        go_upto_region 8 with (((with_reducible refine Calls.mono hs1.out ?_); rintro e w2 ⟨rfl, hb2⟩; replace hb2 := box (hb.out.trans (hb2.mono hb.out.size))))
        go_upto_region 9 with (((with_reducible refine Calls.mono (hr1.out _ hb2.out) ?_); rintro e w3 ⟨rfl, hb3⟩; replace hb3 := box (hb2.out.trans (hb3.mono hb2.out.size))))
        clear hs1 hr1 z0 hb2
        go_wp2_with fail
        go_loopg [11] (tt - fr).toNat (fun kx s11 wx => ∃ p : Int, s11 = .int .i64 p ∧ fr ≤ p ∧ p ≤ tt + 65536 ∧ (tt - p).toNat ≤ kx ∧ Box (Below w.heap.size w wx))
        case atStart => exact ⟨fr, rfl, Int.le_refl _, by omega, Nat.le_refl _, hb3⟩
        case round =>
          obtain ⟨p, rfl, hp0, hp1, hpk, hbp⟩ := hrel
          by_cases hpt : p < tt
          · obtain ⟨n, hn⟩ : ∃ n : Int, min 65536 (tt - p) = n := ⟨_, rfl⟩
            have hn1 : 0 < n := by omega
            have hn2 : n ≤ 65536 := by omega
            have hg1 := box (fun W (hW : Below w.heap.size w W) => hsg.out W p n hW (by omega) hn1 hn2)
            have hg2 := box (fun W (hW : Below w.heap.size w W) => hrg.out W p n hW (by omega) hn1 hn2)
            go_wp2_with fail
            refine Calls.mono (hg1.out _ hbp.out) ?_
            rintro e w5 ⟨A5, k5, c5, rfl, hy5, hk5, hc5, hl5, hb5⟩
            replace hb5 := box (hbp.out.trans (hb5.mono hbp.out.size))
            replace hy5 := box hy5
            go_wp2_with fail
            refine Calls.mono (hg2.out _ hb5.out) ?_
            rintro e w6 ⟨A6, k6, c6, rfl, hy6, hk6, hc6, hl6, hb6⟩
            have hsame := box (same_any (c := c5) (d := c6) (hy5.out.below hb6) hy6)
            have hdec : decide (getOf ps N p n = getOf ps N p n) = true := decide_eq_true rfl
            rw [hdec] at hsame
            replace hb6 := box (hb5.out.trans (hb6.mono hb5.out.size))
            clear hy6 hy5 hdec
            go_wp2_with fail
            refine Calls.mono hsame.out ?_
            rintro e w7 ⟨rfl, rfl⟩
            go_wp2_with fail
            go_roundg (tt - (p + 65536)).toNat
            case measure => omega
            case rel => exact ⟨p + 65536, by go_num, by omega, by omega, Nat.le_refl _, hb6⟩
          · go_wp2_with fail
            go_roundg (ms.length + 1 - (k + 1))
            case measure => omega
            case rel => exact ⟨k + 1, tt, by go_num, rfl, by omega, by omega, by omega, Nat.le_refl _, hbp⟩
      · have hlt' : ¬ (k : Int) ≤ (ms.length : Int) := by omega
        go_wp2
        go_ret
        exact ⟨rfl, hb.out⟩
end Go.Proofs.Ytajfamjdfhjdeaa
