/- (*mantleref01.Bytes).lay, walked. -/
import Derived.Test.YtajfamjdfhjdeaaLayR
namespace Go.Proofs.Ytajfamjdfhjdeaa
open Go.RowKit
attribute [local go_sem ↓] Go.wp_at_zero Go.wp_at_succ

theorem ltaken_sub {fr tt : Int} {ls : List Lp} {p : Lp} (h : p ∈ ltaken fr tt ls) (hc : ∀ q ∈ ls, q.2.2.2.length ≤ q.2.2.1) : ∃ q ∈ ls, Sub p q := by
  unfold ltaken at h
  obtain ⟨q, hq, hp⟩ := List.mem_flatMap.1 h
  exact ⟨q, hq, sub_cutT hp (hc q hq)⟩

set_option maxHeartbeats 8000000 in
set_option maxRecDepth 100000 in
theorem layR_any {w : World} {G : Nat → Prop} {g n c : Nat} {A : Option Addr} {ls : List Lp} {N at_ : Int} {bs : List Int} (h : RSpan w G g ls N) (hb : Byt w w.heap.size A n bs) (hn : 0 < n) (h0 : 0 ≤ at_) (h1 : at_ + (n : Int) ≤ 1073741824)
    (hM : heldS (aheadS at_ (lpcs ls) ++ behindS at_ (at_ + (n : Int)) (lpcs ls)) + n ≤ 4194304) :
    Calls Try.prog 54 #[.pointer (some ⟨g, 0, none⟩), .int .i64 at_, .slice A n c] w fun e w' => e = .returned (.tuple #[]) ∧ LayLeft w G g N (layS at_ bs (aheadS at_ (lpcs ls)) (behindS at_ (at_ + (n : Int)) (lpcs ls))) w' := by
  obtain ⟨A0, c0, ht, hO, hG⟩ := h.top
  have hcnt := h.count
  have hcl := box (taken_any h h0 (show at_ < at_ + (n : Int) by omega) (by omega))
  have htk : lpcs (ltaken at_ (at_ + (n : Int)) ls) = aheadS at_ (lpcs ls) ++ behindS at_ (at_ + (n : Int)) (lpcs ls) := (lpcs_taken _ _ _).trans (taken_is h.chain (by omega))
  have hok : ∀ p ∈ ltaken at_ (at_ + (n : Int)) ls, LpOk w G p := fun p hp => by
    obtain ⟨q, hq, hs⟩ := ltaken_sub hp fun q hq => (h.pc_bd hq).2.2.2.1
    exact hs.ok (h.ok q hq)
  have hll := ltaken_len at_ (at_ + (n : Int)) ls
  have hchA := ahead_chain (fr := at_) h.chain
  have hchE := ahead_ends (fr := at_) h.chain
  have hchC : Chain (at_ + (n : Int)) (behindS at_ (at_ + (n : Int)) (lpcs ls)) := (behind_chain h.chain).mono (by omega)
  have hfold := lay_fold htk hchA hchE hchC (by omega)
  have hch2 : Chain 0 (lpcs (ltaken at_ (at_ + (n : Int)) ls)) := by rw [htk]; exact cut_chain h.chain (by omega) (by omega)
  have hen2 : Ends 1073741824 (lpcs (ltaken at_ (at_ + (n : Int)) ls)) := by rw [htk]; exact cut_ends h.chain (h.ends.mono h.n1) (by omega)
  have hbd : Box (∀ p ∈ ltaken at_ (at_ + (n : Int)) ls, 0 ≤ p.1 ∧ p.1 + (p.2.2.2.length : Int) ≤ 1073741824) := ⟨fun p hp => ⟨(hch2.lo _ (mem_lpcs hp)).1, hen2 _ (mem_lpcs hp)⟩⟩
  have hcn2 : (ltaken at_ (at_ + (n : Int)) ls).length ≤ 1073741825 := by
    have h9 := hch2.count hen2 (Int.le_refl 0) (by omega)
    rw [lpcs_len] at h9
    omega
  have hheld : heldS (lpcs (ltaken at_ (at_ + (n : Int)) ls)) + n ≤ 4194304 := by rw [htk]; exact hM
  have hmem := layTo_mem at_ (at_ + (n : Int)) (ltaken at_ (at_ + (n : Int)) ls)
  have e0 : ((n : Int) == 0) = false := by rw [beq_eq_false_iff_ne]; omega
  have hbl : bs.length = n := hb.len
  have hlay : layS at_ bs (aheadS at_ (lpcs ls)) (behindS at_ (at_ + (n : Int)) (lpcs ls)) = (splitL at_ (aheadS at_ (lpcs ls))).1 ++ ((splitL at_ (aheadS at_ (lpcs ls))).2.1, (splitL at_ (aheadS at_ (lpcs ls))).2.2 ++ bs ++ (splitR (at_ + (n : Int)) (behindS at_ (at_ + (n : Int)) (lpcs ls))).2) :: (splitR (at_ + (n : Int)) (behindS at_ (at_ + (n : Int)) (lpcs ls))).1 := by unfold layS; rw [hbl]
  have hchl : Chain 0 (layS at_ bs (aheadS at_ (lpcs ls)) (behindS at_ (at_ + (n : Int)) (lpcs ls))) := lay_chain hchA hchE (by rw [hbl]; exact hchC) hb.bs (by omega) h0
  rw [← hfold.1, ← hfold.2.1, ← hfold.2.2.1, ← hfold.2.2.2.1, ← hfold.2.2.2.2] at hlay
  rw [hlay] at hchl ⊢
  generalize ltaken at_ (at_ + (n : Int)) ls = l at *
  have hgt := box ht
  have hS := box h
  have hby := box hb
  have hgl := lt_of_heap ht
  replace hok := box hok
  replace hfold := box hfold
  replace hmem := box hmem
  replace hheld := box hheld
  replace hchl := box hchl
  clear h hb hO hG ht htk hchA hchE hchC hch2 hen2 hlay hM
  go_enter Try.func54, Try.ntmps54
  go_upto_region 2 with (with_reducible (refine Calls.mono hcl.out ?_); rintro e w1 ⟨A1, k1, rfl, hO1, hb1⟩)
  have hrow := box hO1.row
  have hlen : l.length ≤ 1073741825 := hcn2
  replace hO1 := box hO1
  replace hb1 := box hb1
  clear hcl
  go_upto_region 7 with fail
  have hgen : (w1.alloc (.cells #[.int .i64 at_, .slice none 0 0] 184)).heap[w1.heap.size]? = some (.cells #[.int .i64 at_, .slice none 0 0] 184) := rnew_heap w1 at_ none 0 0
  have hI0 : LayI (fun k => w1.heap.size ≤ k) w1 w1.heap.size (layTo at_ (at_ + (n : Int)) l 0) none 0 0 none 0 0 none 0 0 (w1.alloc (.cells #[.int .i64 at_, .slice none 0 0] 184)) := by
    refine ⟨World.ownsRow_nil _ _ _ _, World.ownsRow_nil _ _ _ _, fun x hx => (by cases hx), hgen, Own8.nil _ _, fun k hk => hk, (Chg.refl _ _).alloc _⟩
  generalize (w1.alloc (.cells #[.int .i64 at_, .slice none 0 0] 184)) = w2 at *
  obtain ⟨ow, how⟩ : ∃ ow, w1.heap.size = ow := ⟨_, rfl⟩
  rw [how] at hI0 hgen ⊢
  replace how := box how
  replace hI0 := box hI0
  go_loopg [8, 9, 10, 11] l.length (fun kx s8 s9 s10 s11 wr => ∃ (k : Nat) (B1 : Option Addr) (m1 d1 : Nat) (B2 : Option Addr) (m2 d2 : Nat) (B3 : Option Addr) (n3 d3 : Nat) (lA : Option Addr) (lN lC : Nat), k ≤ l.length ∧ l.length - k ≤ kx ∧ s11 = .int .i64 (k : Int) ∧ s8 = .slice B1 m1 d1 ∧ s9 = .slice B2 m2 d2 ∧ s10 = .slice lA lN lC ∧
      Box (lA = (layTo at_ (at_ + (n : Int)) l k).lastA ∧ lN = (layTo at_ (at_ + (n : Int)) l k).last.length ∧ lC = (layTo at_ (at_ + (n : Int)) l k).lastC) ∧ Box (LayI (fun k => ow ≤ k) w1 ow (layTo at_ (at_ + (n : Int)) l k) B1 m1 d1 B2 m2 d2 B3 n3 d3 wr))
  case atStart => exact ⟨0, none, 0, 0, none, 0, 0, none, 0, 0, none, 0, 0, Nat.zero_le _, by omega, rfl, rfl, rfl, rfl, ⟨rfl, rfl, rfl⟩, hI0⟩
  case round =>
    obtain ⟨k, B1, m1, d1, B2, m2, d2, B3, n3, d3, lA, lN, lC, hk, hgk, rfl, rfl, rfl, rfl, hL, hI⟩ := hrel
    have hm1 : m1 ≤ l.length := by have h1 := hI.out.r1.len; have h2 := (hmem.out k).2.2.2.1; omega
    have hm2 : m2 ≤ l.length := by have h1 := hI.out.r2.len; have h2 := (hmem.out k).2.2.2.2.1; omega
    have hn3 : n3 ≤ 4194304 := by
      have h1 := hI.out.o8.1
      rw [u8s_length] at h1
      have h2 := (hmem.out k).2.2.2.2.2
      have h3 : heldS (lpcs (l.take k)) ≤ heldS (lpcs l) := by rw [lpcs_take]; exact heldS_take_le _ _
      have h4 := hheld.out
      omega
    have hows := hI.out.lt
    have hw1r : Below w1.heap.size w1 wr := hI.out.bel.below (fun k hk => how.out ▸ hk) (Nat.le_refl _)
    by_cases hlt : k < l.length
    · obtain ⟨p, hp⟩ : ∃ p, l[k]? = some p := ⟨_, List.getElem?_eq_getElem hlt⟩
      obtain ⟨rb, ro, rfl, hrb, hrc⟩ := hrow.out (by omega)
      obtain ⟨x0, x1⟩ := hrc k p hp
      have hpl := List.mem_of_getElem? hp
      obtain ⟨p0, p1⟩ := hbd.out p hpl
      have hpo := hok.out p hpl
      have hst := layTo_succ (at_ := at_) (en := at_ + (n : Int)) hp
      obtain ⟨⟨b, o, pcur, pe, -, -, -⟩, pk1, pk2, -⟩ := id hpo
      have hpby := hpo.byt
      obtain ⟨pa, pA, pc, pz⟩ := p
      simp only at p0 p1 pe pk1 pk2 x0 x1 hpby
      subst pe
      have y0 := cell_past hw1r x0
      have y1 := cell_past hw1r x1
      have hbsz : w.heap.size ≤ wr.heap.size := Nat.le_trans hb1.out.size hw1r.size
      have i0' : (0 : Int) ≤ (k : Int) := by omega
      have i1' : (k : Int) < (l.length : Int) := by omega
      have hpsrc := box (((hpby.grown hb1.out).below (hw1r.mono hb1.out.size)).src)
      have hend := box (fun W => rend_any pa (some ⟨b, o, none⟩) pz.length pc W p0 p1)
      have hE : lEnd (pa, some ⟨b, o, none⟩, pc, pz) = pa + (pz.length : Int) := rfl
      clear hpby hpo hrc x0 x1 hrb
      go_upto_region 11 with fail
      have hWb := Below.alloc (Below.refl wr.heap.size wr) (Nat.le_refl _) (.cells #[.int .i64 pa, .slice (some ⟨b, o, none⟩) pz.length pc] 184)
      have hWh := rnew_heap wr pa (some ⟨b, o, none⟩) pz.length pc
      have hI1 := hI.out.grown hWb
      have hsz : wr.heap.size < (wr.alloc (.cells #[.int .i64 pa, .slice (some ⟨b, o, none⟩) pz.length pc] 184)).heap.size := by simp
      generalize (wr.alloc (.cells #[.int .i64 pa, .slice (some ⟨b, o, none⟩) pz.length pc] 184)) = W at *
      obtain ⟨pb, hpb⟩ : ∃ pb, wr.heap.size = pb := ⟨_, rfl⟩
      rw [hpb] at hWh hows hsz ⊢
      have q0 : W.cell? ⟨pb, 0, none⟩ = some (.int .i64 pa) := cell_of_heap hWh rfl
      have q1 : W.cell? ⟨pb, 1, none⟩ = some (.slice (some ⟨b, o, none⟩) pz.length pc) := cell_of_heap hWh rfl
      replace hI1 := box hI1
      replace hWb := box hWb
      replace hw1r := box hw1r
      clear y0 y1
      rcases (show pa + (pz.length : Int) < at_ ∨ pa + (pz.length : Int) = at_ ∨ (at_ < pa + (pz.length : Int) ∧ pa = at_ + (n : Int)) ∨ (at_ < pa + (pz.length : Int) ∧ pa ≠ at_ + (n : Int)) by omega) with hc | hc | ⟨hc, hc'⟩ | ⟨hc, hc'⟩
      · have hst2 : layTo at_ (at_ + (n : Int)) l (k + 1) = { layTo at_ (at_ + (n : Int)) l k with ahead := (layTo at_ (at_ + (n : Int)) l k).ahead ++ [(pa, some ⟨b, o, none⟩, pc, pz)] } := by rw [hst]; exact if_pos (by rw [hE]; omega)
        replace hst2 := box hst2
        clear hst hpsrc
        go_upto_region 12 with (with_reducible (refine Calls.mono (hend.out _) ?_); rintro e w5 ⟨rfl, hb5⟩; have z0 := cell_past hb5 q0; have z1 := cell_past hb5 q1)
        have hI6 := (hI1.out.grown hb5).grown (Below.alloc (Below.refl w5.heap.size w5) (Nat.le_refl _) (.cells #[.int .i64 pa, .slice (some ⟨b, o, none⟩) pz.length pc] 184))
        have hsrc := box (src_rpiece5 w5 (pa, some ⟨b, o, none⟩, pc, pz) pz.length rfl w5.heap.size rfl)
        replace hI6 := box hI6
        replace hb5 := box hb5
        clear hI1 hI q0 q1
        go_wp2_with (at_builtin; refine appR _ (.tmp 44) (.tmp 46) (ow + 1) hI6.out.r1 hsrc.out rfl rfl rfl rfl (by omega) hI6.out.lt ?_; intro A7 c7 w7 O7 G7 K7)
        go_roundg (l.length - (k + 1))
        case measure => omega
        case rel =>
          refine ⟨k + 1, A7, m1 + 1, c7, B2, m2, d2, B3, n3, d3, lA, lN, lC, by omega, Nat.le_refl _, by go_num, rfl, rfl, rfl, ⟨by rw [hst2.out]; exact hL.out⟩, ⟨?_⟩⟩
          rw [hst2.out]
          exact hI6.out.ahead O7.out G7.out K7.out
      · have hst2 : layTo at_ (at_ + (n : Int)) l (k + 1) = { layTo at_ (at_ + (n : Int)) l k with at_ := pa, own := (layTo at_ (at_ + (n : Int)) l k).own ++ pz } := by
          rw [hst]
          unfold layStep
          rw [if_neg (by rw [hE]; omega), if_pos (by rw [hE]; exact hc)]
        replace hst2 := box hst2
        clear hst
        go_upto_region 13 with (with_reducible (refine Calls.mono (hend.out _) ?_); rintro e w5 ⟨rfl, hb5⟩; have z0 := cell_past hb5 q0; have z1 := cell_past hb5 q1)
        have hI5 := hI1.out.grown hb5
        clear hI1 hI q0 q1
        go_upto_region 14 with (with_reducible (refine Calls.mono (hend.out _) ?_); rintro e w6 ⟨rfl, hb6⟩; have q0 := cell_past hb6 z0; have q1 := cell_past hb6 z1)
        have hI6 := hI5.grown hb6
        have hbw := (hWb.out.trans (hb5.mono hWb.out.size)).trans (hb6.mono (Nat.le_trans hWb.out.size hb5.size))
        have f0 : w6.frozen? ⟨ow, 0, none⟩ = false := frozen_of_heap hI6.own
        have c0 : w6.cell? ⟨ow, 0, none⟩ = some (.int .i64 (layTo at_ (at_ + (n : Int)) l k).at_) := cell_of_heap hI6.own rfl
        have hpb6 : pb < w6.heap.size := by have := hb5.size; have := hb6.size; omega
        have hne : ow ≠ pb := by omega
        have ho6 := hI6.lt
        have hpsrc6 := src_drop hpsrc.out hbw hbsz (Nat.le_refl _)
        clear z0 z1 hb5 hb6 hI5 hpsrc hbw
        replace hI6 := box hI6
        replace hpsrc6 := box hpsrc6
        go_upto_region 15 with fail
        have hI7 := hI6.out.setAt pa
        have hc6 : Chg (fun k => k = ow) w6 (w6.setCell ⟨ow, 0, none⟩ (.int .i64 pa)) := set_chg
        have z1 := cell_chg hc6 (fun h => hne h.symm) q1
        have hpsrc7 : Src (w6.setCell ⟨ow, 0, none⟩ (.int .i64 pa)) w.heap.size 1 (some ⟨b, o, none⟩) pz.length (u8s pz) := by
          refine hpsrc6.out.keep fun q hq => World.cell?_of_block ?_
          exact set_block (by have := hb1.out.size; have := how.out; omega)
        generalize (w6.setCell ⟨ow, 0, none⟩ (.int .i64 pa)) = w7 at *
        have q1 : w7.cell? ⟨ow, 1, none⟩ = some (.slice B3 n3 d3) := cell_of_heap hI7.own rfl
        have hne3 : some ow ≠ (Value.slice B3 n3 d3).ownBlock := fun e => by have := (own8_blk hI7.o8 e.symm).1; omega
        replace hI7 := box hI7
        replace hpsrc7 := box hpsrc7
        clear hI6 hpsrc6 hc6
        go_wp2_with (at_builtin; refine app8G _ (.tmp 57) (.tmp 59) (ow + 1) hI7.out.o8 hpsrc7.out rfl rfl rfl rfl (by omega) hI7.out.lt ?_; intro A8 c8 w8 O8 G8; have ht8 := (G8.out.block ow hI7.out.lt hne3).trans hI7.out.own; have f8 : w8.frozen? ⟨ow, 1, none⟩ = false := frozen_of_heap ht8; have g8 : w8.cell? ⟨ow, 1, none⟩ = some (.slice B3 n3 d3) := cell_of_heap ht8 rfl)
        go_roundg (l.length - (k + 1))
        case measure => omega
        case rel =>
          refine ⟨k + 1, B1, m1, d1, B2, m2, d2, A8, n3 + pz.length, c8, lA, lN, lC, by omega, Nat.le_refl _, by go_num, rfl, rfl, rfl, ⟨by rw [hst2.out]; exact hL.out⟩, ⟨?_⟩⟩
          rw [hst2.out]
          exact hI7.out.app8 O8.out G8.out
      · subst hc'
        have hst2 : layTo at_ (at_ + (n : Int)) l (k + 1) = { layTo at_ (at_ + (n : Int)) l k with lastA := some ⟨b, o, none⟩, lastC := pc, last := pz } := by
          rw [hst]
          unfold layStep
          rw [if_neg (by rw [hE]; omega), if_neg (by rw [hE]; omega), if_pos rfl]
        replace hst2 := box hst2
        clear hst hpsrc
        go_upto_region 13 with (with_reducible (refine Calls.mono (hend.out _) ?_); rintro e w5 ⟨rfl, hb5⟩; have z0 := cell_past hb5 q0; have z1 := cell_past hb5 q1; replace hb5 := box hb5)
        have hI5 := hI1.out.grown hb5.out
        clear hI1 hI q0 q1
        go_wp2_with (with_reducible (refine Calls.mono (hend.out _) ?_); rintro e w6 ⟨rfl, hb6⟩; have q0 := cell_past hb6 z0; have q1 := cell_past hb6 z1; replace hb6 := box hb6)
        go_roundg (l.length - (k + 1))
        case measure => omega
        case rel =>
          refine ⟨k + 1, B1, m1, d1, B2, m2, d2, B3, n3, d3, _, _, _, by omega, Nat.le_refl _, by go_num, rfl, rfl, rfl, ⟨by rw [hst2.out]; exact ⟨rfl, rfl, rfl⟩⟩, ⟨?_⟩⟩
          rw [hst2.out]
          have h9 := hI5.grown hb6.out
          exact ⟨h9.r1, h9.r2, h9.ne, h9.own, h9.o8, h9.fo, h9.bel⟩
      · have hst2 : layTo at_ (at_ + (n : Int)) l (k + 1) = { layTo at_ (at_ + (n : Int)) l k with behind := (layTo at_ (at_ + (n : Int)) l k).behind ++ [(pa, some ⟨b, o, none⟩, pc, pz)] } := by
          rw [hst]
          unfold layStep
          rw [if_neg (by rw [hE]; omega), if_neg (by rw [hE]; omega), if_neg hc']
        replace hst2 := box hst2
        clear hst hpsrc
        go_upto_region 13 with (with_reducible (refine Calls.mono (hend.out _) ?_); rintro e w5 ⟨rfl, hb5⟩; have z0 := cell_past hb5 q0; have z1 := cell_past hb5 q1)
        have hI5 := hI1.out.grown hb5
        clear hI1 hI q0 q1
        go_upto_region 10 with (with_reducible (refine Calls.mono (hend.out _) ?_); rintro e w6 ⟨rfl, hb6⟩; have q0 := cell_past hb6 z0; have q1 := cell_past hb6 z1)
        have hI6 := (hI5.grown hb6).grown (Below.alloc (Below.refl w6.heap.size w6) (Nat.le_refl _) (.cells #[.int .i64 pa, .slice (some ⟨b, o, none⟩) pz.length pc] 184))
        have hsrc := box (src_rpiece5 w6 (pa, some ⟨b, o, none⟩, pc, pz) pz.length rfl w6.heap.size rfl)
        replace hI6 := box hI6
        replace hb5 := box hb5
        replace hb6 := box hb6
        clear hI5 z0 z1
        go_wp2_with (at_builtin; refine appR _ (.tmp 35) (.tmp 37) (ow + 1) hI6.out.r2 hsrc.out rfl rfl rfl rfl (by omega) hI6.out.lt ?_; intro A7 c7 w7 O7 G7 K7)
        go_roundg (l.length - (k + 1))
        case measure => omega
        case rel =>
          refine ⟨k + 1, B1, m1, d1, A7, m2 + 1, c7, B3, n3, d3, lA, lN, lC, by omega, Nat.le_refl _, by go_num, rfl, rfl, rfl, ⟨by rw [hst2.out]; exact hL.out⟩, ⟨?_⟩⟩
          rw [hst2.out]
          exact hI6.out.behind O7.out G7.out K7.out
    · obtain rfl : k = l.length := by omega
      obtain ⟨rfl, rfl, rfl⟩ := hL.out
      have hmk := hmem.out l.length
      have hlast : (layTo at_ (at_ + (n : Int)) l l.length).last.length ≤ 1073741824 ∧ Byt w w.heap.size (layTo at_ (at_ + (n : Int)) l l.length).lastA (layTo at_ (at_ + (n : Int)) l l.length).last.length (layTo at_ (at_ + (n : Int)) l l.length).last := by
        rcases hmk.2.2.1 with ⟨e1, e2, e3⟩ | ⟨p, hp, e1, e2, e3⟩
        · rw [e1, e3]
          exact ⟨by simp, Byt.none_⟩
        · rw [e1, e3]
          have h1 := hbd.out p hp
          exact ⟨by omega, (hok.out p hp).byt⟩
      obtain ⟨hl1, hl2⟩ := hlast
      have hma : ∀ p ∈ (layTo at_ (at_ + (n : Int)) l l.length).ahead ++ (layTo at_ (at_ + (n : Int)) l l.length).behind, LpOk w G p := fun p hp => by
        rcases List.mem_append.1 hp with hp | hp
        · exact hok.out p (hmk.1 p hp)
        · exact hok.out p (hmk.2.1 p hp)
      have hbsz : w.heap.size ≤ wr.heap.size := Nat.le_trans hb1.out.size hw1r.size
      have hgow : g < ow := by have := hb1.out.size; have := how.out; omega
      have hgr := (hw1r.block g (Nat.lt_of_lt_of_le hgl hb1.out.size)).trans ((hb1.out.block g hgl).trans hgt.out)
      have hlI := hI.out
      clear hI hL hmem hfold hrow hbd hok hmk hgk hO1
      generalize hst : layTo at_ (at_ + (n : Int)) l l.length = st at *
      replace hst := box hst
      have hbW : Below w.heap.size w wr := hb1.out.trans (hw1r.mono hb1.out.size)
      have hsb := (hby.out.below hbW).src
      have hsl := (hl2.below hbW).src
      have c1 : wr.cell? ⟨ow, 1, none⟩ = some (.slice B3 n3 d3) := cell_of_heap hlI.own rfl
      have hne3 : some ow ≠ (Value.slice B3 n3 d3).ownBlock := fun e => by have := (own8_blk hlI.o8 e.symm).1; omega
      replace hma := box hma
      replace hlI := box hlI
      replace hsb := box hsb
      replace hl2 := box hl2
      replace hsl := box hsl
      replace hbW := box hbW
      replace hgr := box hgr
      replace hw1r := box hw1r
      go_upto_region 19 with (at_builtin; refine app8G _ (.tmp 73) (.tmp 74) (ow + 1) hlI.out.o8 hsb.out rfl rfl rfl rfl (by omega) hlI.out.lt ?_; intro A8 c8 w8 O8 G8; have ht8 := (G8.out.block ow hlI.out.lt hne3).trans hlI.out.own; have f8 : w8.frozen? ⟨ow, 1, none⟩ = false := frozen_of_heap ht8; have g8 : w8.cell? ⟨ow, 1, none⟩ = some (.slice B3 n3 d3) := cell_of_heap ht8 rfl)
      have hI9 := hlI.out.app8 O8.out G8.out
      clear ht8 f8 g8
      generalize (w8.setCell ⟨ow, 1, none⟩ (.slice A8 (n3 + n) c8)) = w9 at *
      have hb19 : Below w1.heap.size w1 w9 := hI9.bel.below (fun k hk => how.out ▸ hk) (Nat.le_refl _)
      have hsl9 := (hl2.out.below (hb1.out.trans (hb19.mono hb1.out.size))).src
      have c9 : w9.cell? ⟨ow, 1, none⟩ = some (.slice A8 (n3 + n) c8) := cell_of_heap hI9.own rfl
      have hne9 : some ow ≠ (Value.slice A8 (n3 + n) c8).ownBlock := fun e => by have := (own8_blk hI9.o8 e.symm).1; omega
      replace hI9 := box hI9
      replace hsl9 := box hsl9
      clear hlI hsl hsb c1 hne3 hb19 O8 G8
      go_upto_region 20 with (at_builtin; refine app8G _ (.tmp 78) (.tmp 79) (ow + 1) hI9.out.o8 hsl9.out rfl rfl rfl rfl (by omega) hI9.out.lt ?_; intro A10 c10 w10 O10 G10; have ht8 := (G10.out.block ow hI9.out.lt hne9).trans hI9.out.own; have f8 : w10.frozen? ⟨ow, 1, none⟩ = false := frozen_of_heap ht8; have g8 : w10.cell? ⟨ow, 1, none⟩ = some (.slice A8 (n3 + n) c8) := cell_of_heap ht8 rfl)
      have hI11 := hI9.out.app8 O10.out G10.out
      clear ht8 f8 g8
      generalize (w10.setCell ⟨ow, 1, none⟩ (.slice A10 (n3 + n + st.last.length) c10)) = w11 at *
      have q0 : w11.cell? ⟨ow, 0, none⟩ = some (.int .i64 st.at_) := cell_of_heap hI11.own rfl
      have q1 : w11.cell? ⟨ow, 1, none⟩ = some (.slice A10 (n3 + n + st.last.length) c10) := cell_of_heap hI11.own rfl
      have hxl : (st.own ++ bs ++ st.last).length = n3 + n + st.last.length := by have := hI11.o8.1; rwa [u8s_length, Nat.mul_one] at this
      have hI12 := (hI11.grown (Below.alloc (Below.refl w11.heap.size w11) (Nat.le_refl _) (.cells #[.int .i64 st.at_, .slice A10 (n3 + n + st.last.length) c10] 184))).wide (F' := fun k => k = g ∨ ow ≤ k) (fun k hk => .inr hk)
      have hsx := box (src_rpiece5 w11 (st.at_, A10, c10, st.own ++ bs ++ st.last) (n3 + n + st.last.length) hxl w11.heap.size rfl)
      have hgb12 : (w11.alloc (.cells #[.int .i64 st.at_, .slice A10 (n3 + n + st.last.length) c10] 184)).heap[g]? = some (.cells #[.slice A0 ls.length c0, .int .i64 N] 108) := by
        have hgw : g < w1.heap.size := by have := how.out; omega
        have h1 := (hI11.grown (Below.alloc (Below.refl w11.heap.size w11) (Nat.le_refl _) (.cells #[.int .i64 st.at_, .slice A10 (n3 + n + st.last.length) c10] 184))).bel.block g hgw (by omega)
        exact h1.trans ((hb1.out.block g hgl).trans hgt.out)
      have hneg : ∀ {W : World} {A : Option Addr} {m d : Nat} {L : List Lp}, OwnR W (ow + 1) A m d L → some g ≠ (Value.slice A m d).ownBlock := fun h e => by have := (OwnR.blk h e.symm).1; omega
      replace hneg := box @hneg
      replace hI12 := box hI12
      replace hgb12 := box hgb12
      replace hxl := box hxl
      clear hI9 hsl9 c9 hne9 O10 G10 hI11 hgr
      go_upto_region 21 with (at_builtin; refine appR _ (.tmp 83) (.tmp 85) (ow + 1) hI12.out.r1 hsx.out rfl rfl rfl rfl (by omega) hI12.out.lt ?_; intro A13 c13 w13 O13 G13 K13; have ht8 := (G13.out.block g (lt_of_heap hgb12.out) (hneg.out hI12.out.r1)).trans hgb12.out; have f8 : w13.frozen? ⟨g, 0, none⟩ = false := frozen_of_heap ht8; have g8 : w13.cell? ⟨g, 0, none⟩ = some (.slice A0 ls.length c0) := cell_of_heap ht8 rfl)
      have hI14 := (hI12.out.ahead O13.out G13.out K13.out).setG (o := 0) hgow (.inl rfl) (.slice A13 (m1 + 1) c13)
      have hg14 : (w13.setCell ⟨g, 0, none⟩ (.slice A13 (m1 + 1) c13)).heap[g]? = some (.cells #[.slice A13 (m1 + 1) c13, .int .i64 N] 108) := block_set ht8 _
      clear ht8 f8 g8 q0 q1
      generalize (w13.setCell ⟨g, 0, none⟩ (.slice A13 (m1 + 1) c13)) = w14 at *
      have q0 : w14.cell? ⟨g, 0, none⟩ = some (.slice A13 (m1 + 1) c13) := cell_of_heap hg14 rfl
      have hs2 := box hI14.r2.src
      replace hI14 := box hI14
      replace hg14 := box hg14
      clear O13 G13 K13 hI12 hgb12 hsx
      go_wp2_with (at_builtin; refine appR _ (.tmp 93) (.tmp 94) (ow + 1) hI14.out.r1 hs2.out rfl rfl rfl rfl (by omega) hI14.out.lt ?_; intro A15 c15 w15 O15 G15 K15; have ht8 := (G15.out.block g (lt_of_heap hg14.out) (hneg.out hI14.out.r1)).trans hg14.out; have f8 : w15.frozen? ⟨g, 0, none⟩ = false := frozen_of_heap ht8; have g8 : w15.cell? ⟨g, 0, none⟩ = some (.slice A13 (m1 + 1) c13) := cell_of_heap ht8 rfl; have hg15 := box ht8; clear ht8)
      go_end0
      have hI16 := (hI14.out.ahead O15.out G15.out K15.out).setG (o := 0) hgow (.inl rfl) (.slice A15 (m1 + 1 + m2) c15)
      have hg16 : (w15.setCell ⟨g, 0, none⟩ (.slice A15 (m1 + 1 + m2) c15)).heap[g]? = some (.cells #[.slice A15 (m1 + 1 + m2) c15, .int .i64 N] 108) := block_set hg15.out _
      generalize (w15.setCell ⟨g, 0, none⟩ (.slice A15 (m1 + 1 + m2) c15)) = w16 at *
      have hlen16 := hI16.r1.len
      have hbs16 : Chg (fun k => k = g) w w16 := (Chg.new hb1.out).trans hI16.bel fun k hk h => by
        have h1 := hb1.out.size
        have h2 := how.out
        rcases h with h | h
        · exact h
        · omega
      have hr16 : OwnR w16 w.heap.size A15 (m1 + 1 + m2) c15 ((st.ahead ++ [(st.at_, A10, c10, st.own ++ bs ++ st.last)]) ++ st.behind) := OwnR.base hI16.r1 fun k hk => by
        have h1 := (OwnR.blk hI16.r1 hk).1
        have h2 := hb1.out.size
        have h3 := how.out
        omega
      have hlen' : ((st.ahead ++ [(st.at_, A10, c10, st.own ++ bs ++ st.last)]) ++ st.behind).length = m1 + 1 + m2 := hlen16
      rw [hst.out]
      refine ⟨rfl, A15, c15, (st.ahead ++ [(st.at_, A10, c10, st.own ++ bs ++ st.last)]) ++ st.behind, ?_, ?_, ?_, ?_, hbs16⟩
      · rw [hlen']; exact hg16
      · rw [hlen']; exact hr16
      · have hold : ∀ p ∈ st.ahead ++ st.behind, LpOk w16 (fun k => G k ∨ (w.heap.size ≤ k ∧ k < w16.heap.size)) p := fun p hp => (hma.out p hp).keep (fun _ hk => .inl hk) fun k cur hk hc => hbs16.block k (lt_of_heap hc) (not_g hgt.out hc (by decide))
        intro p hp
        rcases List.mem_append.1 hp with hp | hp
        · rcases List.mem_append.1 hp with hp | hp
          · exact hold p (List.mem_append_left _ hp)
          · rw [List.mem_singleton.1 hp]
            obtain ⟨gx, cur, ex, hgx, hhx, hnx, hcx, hzx, hcur⟩ := own8_open hI16.o8 (show 0 < n3 + n + st.last.length by omega)
            refine ⟨⟨gx, 0, cur, ex, .inr ⟨?_, lt_of_heap hhx⟩, hhx, fun j hj => ?_⟩, ?_, hcx, ?_⟩
            · have h2 := hb1.out.size
              have h3 := how.out
              omega
            · rw [Nat.zero_add]
              exact hcur j (by rw [← hxl.out]; exact hj)
            · show (st.own ++ bs ++ st.last).length ≤ c10
              rw [hxl.out]
              exact hnx
            · exact hchl.out.bs (st.at_, st.own ++ bs ++ st.last) (List.mem_append_right _ List.mem_cons_self)
        · exact hold p (List.mem_append_right _ hp)
      · have hx : lpcs [(st.at_, A10, c10, st.own ++ bs ++ st.last)] = [(st.at_, st.own ++ (bs ++ st.last))] := by rw [← List.append_assoc]; rfl
        rw [lpcs_append, lpcs_append, hx]
        simp
end Go.Proofs.Ytajfamjdfhjdeaa
