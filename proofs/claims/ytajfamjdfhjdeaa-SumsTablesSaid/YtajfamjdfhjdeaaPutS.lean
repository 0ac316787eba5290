/- Put, not within a piece. -/
import Derived.Test.YtajfamjdfhjdeaaPutA
namespace Go.Proofs.Ytajfamjdfhjdeaa
open Go.RowKit
attribute [local go_sem ↓] Go.wp_at_zero Go.wp_at_succ

set_option maxHeartbeats 8000000 in
set_option maxRecDepth 100000 in
theorem put_out {w : World} {F : Nat → Prop} {g n c j : Nat} {A : Option Addr} {ls : List Lp} {N at_ : Int} {bs : List Int} (h : SpanO w F g ls N) (hb : Byt w w.heap.size A n bs) (hn : 0 < n) (hn2 : n ≤ 1048576) (h0 : 0 ≤ at_) (h1 : at_ + (n : Int) ≤ 1073741824) (hj : Behind (lpcs ls) at_ j) (hw : ¬ Within (lpcs ls) at_ (at_ + (n : Int)) j)
    {e : Int} {ps' : List Pc} {N' : Int} (hput : (e, ps', N') = if 4194304 < heldS (aheadS at_ (lpcs ls) ++ behindS at_ (at_ + (n : Int)) (lpcs ls)) + n then (3, lpcs ls, N) else (0, layS at_ bs (aheadS at_ (lpcs ls)) (behindS at_ (at_ + (n : Int)) (lpcs ls)), max N (at_ + (n : Int)))) :
    Calls Try.prog 39 #[.pointer (some ⟨g, 0, none⟩), .int .i64 at_, .slice A n c] w fun r w' => r = .returned (.int .i64 e) ∧ After w F g ps' N' w' := by
  obtain ⟨A0, c0, ht, hO, hF⟩ := h.top
  have hcap := own_cap hO
  have hjl : j ≤ ls.length := by have := hj.1; rwa [lpcs_len] at this
  have hsp := h.span
  have hcnt := hsp.count
  rw [lpcs_len] at hcnt
  have hbh := box (behind_is hsp (Nat.le_refl _) hj)
  have hrow := box hO.row
  have hcl := box (fun W (hW : Below w.heap.size w W) => cleared_any (w := W) (h.same hW) h0 (show at_ < at_ + (n : Int) by omega) (by omega))
  have hbd : Box (∀ p ∈ ls, 0 ≤ p.1 ∧ lEnd p ≤ 1073741824) := ⟨fun p hp => by
    have h1 := hsp.pc_bd (show lpc p ∈ lpcs ls from List.mem_map_of_mem hp)
    exact ⟨h1.1, h1.2.1⟩⟩
  have e0 : ((n : Int) == 0) = false := by rw [beq_eq_false_iff_ne]; omega
  have e1 : ¬ (1073741824 : Int) - (n : Int) < at_ := by omega
  have hg := box ht
  have hw' := box hw
  have hS := box h
  have hby := box hb
  clear h hb hO hF ht hsp hw
  replace hj := box hj
  go_enter Try.func39, Try.ntmps39
  go_upto_region 11 with (with_reducible (refine Calls.mono hbh.out ?_); rintro e w1 ⟨rfl, hb1⟩)
  replace hb1 := box hb1
  clear hbh
  go_cut [66] (fun s66 wx => s66 = .bool false ∧ Box (Below w.heap.size w wx))
  case first =>
    have ht1 := (hb1.out.block g (lt_of_heap hg.out)).trans hg.out
    have g0 : w1.cell? ⟨g, 0, none⟩ = some (.slice A0 ls.length c0) := cell_of_heap ht1 rfl
    replace ht1 := box ht1
    have j0 : (0 : Int) ≤ (j : Int) := by omega
    by_cases hjlt : j < ls.length
    · obtain ⟨p, hp⟩ : ∃ p, ls[j]? = some p := ⟨_, List.getElem?_eq_getElem hjlt⟩
      obtain ⟨rb, ro, rfl, hrb, hrc⟩ := (hrow.out.past hb1.out) (by omega)
      obtain ⟨x0, x1⟩ := hrc j p hp
      have hpb := hbd.out p (List.mem_of_getElem? hp)
      have hpl : (lpcs ls)[j]? = some (lpc p) := by unfold lpcs; rw [List.getElem?_map, hp]; rfl
      have hno : p.1 ≤ at_ → lEnd p < at_ + (n : Int) := fun h => by
        rcases Int.lt_or_le (lEnd p) (at_ + (n : Int)) with g | g
        · exact g
        · exact absurd ⟨lpc p, hpl, h, g⟩ hw'.out
      have jlt : (j : Int) < (ls.length : Int) := by omega
      obtain ⟨pa, pA, pc, pz⟩ := p
      have hE : lEnd (pa, pA, pc, pz) = pa + (pz.length : Int) := rfl
      rw [hE] at hno hpb
      simp only at x0 x1 hno hpb
      obtain ⟨hp0, hp1⟩ := hpb
      have hend := box (fun W => end_any pa pA pz.length pc W hp0 hp1)
      clear hrc hpl hp hE
      by_cases hat : pa ≤ at_
      · have hlt := hno hat
        clear hno
        go_wp2_with (with_reducible (refine Calls.mono (hend.out _) ?_); rintro e w2 ⟨rfl, hb2⟩; replace hb2 := box hb2)
        go_meet
        exact ⟨congrArg Value.bool (decide_eq_false (by omega)), ⟨grown_trans hb1.out hb2.out⟩⟩
      · clear hno
        go_wp2_with fail
        go_meet
        exact ⟨rfl, hb1⟩
    · have jge : ¬ (j : Int) < (ls.length : Int) := by omega
      go_wp2_with fail
      go_meet
      exact ⟨rfl, hb1⟩
  case rest =>
    obtain ⟨rfl, hbc⟩ := hcut
    clear hb1
    go_wp2_with fail
    refine Calls.mono (hcl.out _ hbc.out) ?_
    rintro e w2 ⟨A1, k1, l1, i, rfl, hi, hl1, hO1, hok1, hap1, hb2⟩
    have hl1len : l1.length ≤ 2147483650 := by
      have h1 : Ends 1073741824 (aheadS at_ (lpcs ls) ++ behindS at_ (at_ + (n : Int)) (lpcs ls)) := cut_ends hS.out.chain (hS.out.ends.mono hS.out.n1) (by omega)
      rw [← hl1] at h1
      have h2 : Chain 0 (aheadS at_ (lpcs ls) ++ behindS at_ (at_ + (n : Int)) (lpcs ls)) := cut_chain hS.out.chain (by omega) (by omega)
      rw [← hl1] at h2
      have h3 := h2.count h1 (Int.le_refl 0) (by omega)
      rw [lpcs_len] at h3
      omega
    have hilen : i ≤ l1.length := by
      have h1 := congrArg List.length hl1
      rw [lpcs_len, List.length_append] at h1
      omega
    have hheld := box (held_any (c := k1) hO1.row (Nat.le_refl _) rfl (by omega) (by rw [hl1]; exact Nat.le_trans (cut_held (by omega)) (Nat.le_trans hS.out.held (by decide))))
    rw [hl1] at hheld
    have hbd1 : Box (∀ p ∈ l1, 0 ≤ p.1 ∧ p.1 + (p.2.2.2.length : Int) ≤ 1073741824) := ⟨fun p hp => by
      have h1 : Ends 1073741824 (aheadS at_ (lpcs ls) ++ behindS at_ (at_ + (n : Int)) (lpcs ls)) := cut_ends hS.out.chain (hS.out.ends.mono hS.out.n1) (by omega)
      rw [← hl1] at h1
      have h2 : Chain 0 (aheadS at_ (lpcs ls) ++ behindS at_ (at_ + (n : Int)) (lpcs ls)) := cut_chain hS.out.chain (by omega) (by omega)
      rw [← hl1] at h2
      exact ⟨(h2.lo _ (show lpc p ∈ lpcs l1 from List.mem_map_of_mem hp)).1, h1 _ (show lpc p ∈ lpcs l1 from List.mem_map_of_mem hp)⟩⟩
    have hA1 : Box (∀ k, blkOf A1 = some k → w.heap.size ≤ k ∧ k < w2.heap.size) := ⟨fun k hk => by
      rw [← own_blk A1 l1.length k1] at hk
      obtain ⟨h1, h2, _⟩ := OwnP.blk hO1 hk
      exact ⟨Nat.le_trans hbc.out.size h1, h2⟩⟩
    replace hi := box hi
    replace hl1 := box hl1
    replace hO1 := box (OwnP.base hO1 (base' := 0) (fun _ _ => Nat.zero_le _))
    replace hok1 := box (fun p hp => (hok1 p hp).keep (fun _ hk => hk) (fun k _ hk _ => (hbc.out.block k (hS.out.lt k hk)).symm) : ∀ p ∈ l1, LpOk w F p)
    replace hap1 := box hap1
    replace hb2 := box (grown_trans hbc.out hb2)
    replace hl1len := box hl1len
    clear hcl hbc
    have hHb : heldS (aheadS at_ (lpcs ls) ++ behindS at_ (at_ + (n : Int)) (lpcs ls)) ≤ 4194304 := Nat.le_trans (cut_held (by omega)) hS.out.held
    replace hput := box hput
    generalize hHe : heldS (aheadS at_ (lpcs ls) ++ behindS at_ (at_ + (n : Int)) (lpcs ls)) = HH at *
    replace hHe := box hHe
    by_cases hM : 4194304 < HH + n
    · obtain ⟨p1⟩ := hput
      rw [if_pos hM] at p1
      cases p1
      have hM' : (4194304 : Int) < (HH : Int) + (n : Int) := by omega
      go_wp2_with fail
      refine Calls.mono hheld.out ?_
      rintro e w3 ⟨rfl, hb3⟩
      replace hb3 := box hb3
      go_wp2_with fail
      go_ret
      exact ⟨rfl, hS.out.after (grown_trans hb2.out hb3.out)⟩
    · obtain ⟨p1⟩ := hput
      rw [if_neg hM] at p1
      cases p1
      have hM' : ¬ (4194304 : Int) < (HH : Int) + (n : Int) := by omega
      go_upto_region 18 with (refine Calls.mono hheld.out ?_; rintro e w3 ⟨rfl, hb3⟩; replace hb3 := box hb3)
      have how : (w3.alloc (.cells #[.int .i64 at_, .slice none 0 0] 122)).heap[w3.heap.size]? = some (.cells #[.int .i64 at_, .slice none 0 0] 122) := heap_alloc_new _ _
      have hb4 : Below w3.heap.size w3 (w3.alloc (.cells #[.int .i64 at_, .slice none 0 0] 122)) := Below.alloc (Below.refl _ _) (Nat.le_refl _) _
      generalize (w3.alloc (.cells #[.int .i64 at_, .slice none 0 0] 122)) = w4 at *
      obtain ⟨ow, how0⟩ : ∃ k, w3.heap.size = k := ⟨_, rfl⟩
      rw [how0] at how hb4 ⊢
      replace how0 := box how0
      replace how := box how
      replace hb4 := box hb4
      obtain ⟨tl, i2, pl, zl, hspl, htl⟩ := splitL_ex at_ (aheadS at_ (lpcs ls))
      obtain ⟨tr, zr, hspr, htr⟩ := splitR_ex (at_ + (n : Int)) (behindS at_ (at_ + (n : Int)) (lpcs ls))
      rw [← hi.out] at htl
      have hO3 := box (OwnP.grown hO1.out (hb3.out))
      have hat1 : ∀ {k : Nat} {p : Pc}, k < i → (aheadS at_ (lpcs ls))[k]? = some p → ∃ q, l1[k]? = some q ∧ p = lpc q := fun {k p} hk hp => lpcs_get (by
        rw [hl1.out, List.getElem?_append_left (by rw [← hi.out]; exact hk)]
        exact hp)
      have hat2 : ∀ {k : Nat} {q : Lp}, k < i → l1[k]? = some q → (aheadS at_ (lpcs ls))[k]? = some (lpc q) := fun {k q} hk hp => by
        have h1 : (lpcs l1)[k]? = some (lpc q) := by unfold lpcs; rw [List.getElem?_map, hp]; rfl
        rw [hl1.out, List.getElem?_append_left (by rw [← hi.out]; exact hk)] at h1
        exact h1
      have hat3 : ∀ {p : Pc}, (behindS at_ (at_ + (n : Int)) (lpcs ls))[0]? = some p → ∃ q, l1[i]? = some q ∧ p = lpc q := fun {p} hp => lpcs_get (by
        rw [hl1.out, List.getElem?_append_right (by rw [← hi.out]; exact Nat.le_refl _), ← hi.out, Nat.sub_self]
        exact hp)
      have hat4 : ∀ {q : Lp}, l1[i]? = some q → (behindS at_ (at_ + (n : Int)) (lpcs ls))[0]? = some (lpc q) := fun {q} hp => by
        have h1 : (lpcs l1)[i]? = some (lpc q) := by unfold lpcs; rw [List.getElem?_map, hp]; rfl
        rw [hl1.out, List.getElem?_append_right (by rw [← hi.out]; exact Nat.le_refl _), ← hi.out, Nat.sub_self] at h1
        exact h1
      replace hat1 := box @hat1
      replace hat2 := box @hat2
      replace hat3 := box @hat3
      replace hat4 := box @hat4
      replace htl := box htl
      replace htr := box htr
      replace hspl := box hspl
      replace hspr := box hspr
      clear hheld hM
      go_cut [115] (fun s115 wx => s115 = .bool tl ∧ Box (Below ow w3 wx) ∧ Box (wx.heap[ow]? = some (.cells #[.int .i64 at_, .slice none 0 0] 122)))
      case first =>
        by_cases hi0 : 0 < i
        · obtain ⟨i', rfl⟩ : ∃ i', i = i' + 1 := ⟨i - 1, by omega⟩
          obtain ⟨p, hp⟩ : ∃ p, l1[i']? = some p := ⟨_, List.getElem?_eq_getElem (by omega)⟩
          obtain ⟨ra, rfl, -, hrl, x0, x1, -⟩ := OwnP.cells2 hO3.out hp
          have y0 := cell_past (how0.out ▸ hb4.out) x0
          have y1 := cell_past (how0.out ▸ hb4.out) x1
          have htlv : Box (tl = decide (pEnd (lpc p) = at_)) := ⟨by
            rcases htl.out with ⟨rfl, h2, h3, h4⟩ | ⟨rfl, h2, h3, h4, h5⟩
            · obtain rfl : i2 = i' := by omega
              rw [hat2.out (by omega) hp] at h3
              rw [Option.some.inj h3]
              exact (decide_eq_true h4).symm
            · exact (decide_eq_false (h5 i' _ rfl (hat2.out (by omega) hp))).symm⟩
          obtain ⟨hp0, hp1⟩ := hbd1.out p (List.mem_of_getElem? hp)
          obtain ⟨pa, pA, pc, pz⟩ := p
          simp only at y0 y1 hp0 hp1
          have hend := box (fun W => end_any pa pA pz.length pc W hp0 hp1)
          have ii0 : ((i' + 1 : Nat) : Int) - 1 = (i' : Int) := by omega
          have ii1 : (0 : Int) < ((i' + 1 : Nat) : Int) := by omega
          have ii2 : (i' : Int) < (l1.length : Int) := by omega
          have ii3 : (0 : Int) ≤ (i' : Int) := by omega
          have ii4 : wrap64 (i' : Int) = (i' : Int) := IntWalk.wrap64_in _ ⟨by omega, by have := hl1len.out; omega⟩
          clear x0 x1 hrl hp
          go_wp2_with (with_reducible (refine Calls.mono (hend.out _) ?_); rintro e w5 ⟨rfl, hb5⟩; replace hb5 := box hb5)
          go_meet
          refine ⟨?_, ⟨hb4.out.trans (hb5.out.mono (by have := hb4.out.size; have := how0.out; omega))⟩, ⟨(hb5.out.block ow (lt_of_heap how.out)).trans how.out⟩⟩
          rw [htlv.out]
          rfl
        · have ii0 : ¬ 0 < (i : Int) := by omega
          have htlv : Box (tl = false) := ⟨by
            rcases htl.out with ⟨rfl, h2, h3, h4⟩ | ⟨rfl, h2, h3, h4, h5⟩
            · omega
            · rfl⟩
          go_wp2_with fail
          go_meet
          refine ⟨?_, hb4, how⟩
          rw [htlv.out]
      case rest =>
        obtain ⟨rfl, hbx, hox⟩ := hcut
        clear how hb4
        go_upto_if 115 with fail
        go_cut [10] (fun s10 wx => s10 = .int .i64 (i2 : Int) ∧ ∃ A' n' c', Box (Below ow w3 wx) ∧ Box (wx.heap[ow]? = some (.cells #[.int .i64 pl, .slice A' n' c'] 122)) ∧ Box (Own8 wx (ow + 1) A' n' c' zl))
        case first =>
          cases tl
          · obtain ⟨rfl, rfl, rfl⟩ : i2 = i ∧ pl = at_ ∧ zl = [] := by
              rcases htl.out with ⟨h1, h2, h3, h4⟩ | ⟨h1, h2, h3, h4, h5⟩
              · cases h1
              · exact ⟨h2, h3, h4⟩
            go_wp2_with fail
            go_meet
            exact ⟨rfl, _, _, _, hbx, hox, ⟨Own8.nil _ _⟩⟩
          · obtain ⟨hi2, hC2, hpE⟩ : i2 + 1 = i ∧ (aheadS at_ (lpcs ls))[i2]? = some (pl, zl) ∧ pEnd (pl, zl) = at_ := by
              rcases htl.out with ⟨h1, h2, h3, h4⟩ | ⟨h1, h2, h3, h4, h5⟩
              · exact ⟨h2, h3, h4⟩
              · cases h1
            subst hi2
            obtain ⟨p, hp, hpe⟩ := hat1.out (Nat.lt_succ_self i2) hC2
            obtain ⟨ra, rfl, -, hrl, x0, x1, -⟩ := OwnP.cells2 hO3.out hp
            have hokp := box ((hok1.out p (List.mem_of_getElem? hp)).byt.grown hb2.out)
            obtain ⟨pa, pA, pc, pz⟩ := p
            cases hpe
            have hb34 : Below w3.heap.size w3 wc := how0.out ▸ hbx.out
            have y0 := cell_past hb34 x0
            have y1 := cell_past hb34 x1
            have hows := lt_of_heap hox.out
            have hclone := box (fun W (hW : Below wc.heap.size wc W) => clone8_any (w := W) (c := pc) (((hokp.out.grown hb3.out).grown hb34).grown hW) (by have := (hbd1.out _ (List.mem_of_getElem? hp)); simp only at this ⊢; omega))
            have ii0 : ((i2 + 1 : Nat) : Int) - 1 = (i2 : Int) := by omega
            have ii1 : (0 : Int) < ((i2 + 1 : Nat) : Int) := by omega
            have ii2 : (i2 : Int) < (l1.length : Int) := by omega
            have ii3 : (0 : Int) ≤ (i2 : Int) := by omega
            have ii4 : wrap64 (i2 : Int) = (i2 : Int) := IntWalk.wrap64_in _ ⟨by omega, by have := hl1len.out; omega⟩
            have hrne : ¬ (ra = ow) := by have := how0.out; omega
            clear x0 x1 hrl hp hokp hb34
            simp only at y0 y1
            go_upto_region 20 with fail
            rw [ii4]
            clear hC2 hpE
            go_region_held3 (fun W => W.cell? ⟨ra, i2 * 2, none⟩ = some (.int .i64 pa) ∧ W.cell? ⟨ra, i2 * 2 + 1, none⟩ = some (.slice pA pz.length pc)) (first | go_keep | exact ⟨cell_past hb5.out y0, cell_past hb5.out y1⟩ | exact ⟨cell_chg set_chg hrne (cell_chg set_chg hrne (cell_past hb5.out y0)), cell_chg set_chg hrne (cell_chg set_chg hrne (cell_past hb5.out y1))⟩)
              (((with_reducible refine Calls.mono (hclone.out _ (by first | exact Below.refl _ _ | exact (Below.refl _ _).drew)) ?_); rintro e w5 ⟨A5, c5, rfl, hO5, hb5⟩; have ht5 := (hb5.block ow hows).trans hox.out; have q0 : w5.cell? ⟨ow, 0, none⟩ = some (.int .i64 at_) := cell_of_heap ht5 rfl; have q1 : w5.cell? ⟨ow, 1, none⟩ = some (.slice none 0 0) := cell_of_heap ht5 rfl; have f0 : w5.frozen? ⟨ow, 0, none⟩ = false := frozen_of_heap ht5; have f1 : w5.frozen? ⟨ow, 1, none⟩ = false := frozen_of_heap ht5; have hlt5 : ow < w5.heap.size := lt_of_heap ht5; replace ht5 := box ht5; replace hO5 := box hO5; replace hb5 := box hb5))
            go_wp2_with fail
            go_meet
            have hb5' : Below wc.heap.size wc w5 := below_undrew hb5.out
            refine ⟨rfl, A5, pz.length, c5, ⟨?_⟩, ⟨?_⟩, ⟨?_⟩⟩
            · exact ((hbx.out.trans (hb5'.mono (Nat.le_of_lt hows))).setCell (p := ⟨ow, 0, none⟩) (Nat.le_refl _) _).setCell (p := ⟨ow, 1, none⟩) (Nat.le_refl _) _
            · exact block_set (block_set ht5.out _) _
            · exact own8_set (own8_set (own8_base hO5.out hows) ht5.out) (block_set ht5.out _)
        case rest =>
          obtain ⟨rfl, A', n', c', hby1, hoy, hown⟩ := hcut
          have hzl : zl.length = n' := by have := hown.out.1; rwa [u8s_length, Nat.mul_one] at this
          have hzl2 : zl.length ≤ 1073741824 := by
            rcases htl.out with ⟨h1, h2, h3, h4⟩ | ⟨h1, h2, h3, h4, h5⟩
            · obtain ⟨q, hq, hqe⟩ := hat1.out (by omega) h3
              have := hbd1.out q (List.mem_of_getElem? hq)
              cases hqe
              show q.2.2.2.length ≤ _
              omega
            · rw [h4]; exact Nat.zero_le _
          have hsrc := box (((hby.out.grown hb2.out).grown hb3.out).grown (how0.out ▸ hby1.out)).src
          have hows := lt_of_heap hoy.out
          have q1 : wc.cell? ⟨ow, 1, none⟩ = some (.slice A' n' c') := cell_of_heap hoy.out rfl
          go_upto_region 22 with (at_builtin; refine app8 _ (.tmp 131) (.tmp 132) (ow + 1) hown.out hsrc.out rfl rfl rfl rfl (by omega) (by omega) ?_; intro A6 c6 w6 O6 b6 s6; have ht6 := (b6.block ow (by omega)).trans hoy.out; have f6 : w6.frozen? ⟨ow, 1, none⟩ = false := frozen_of_heap ht6; have q6 : w6.cell? ⟨ow, 1, none⟩ = some (.slice A' n' c') := cell_of_heap ht6 rfl; replace O6 := box O6; replace b6 := box b6; replace ht6 := box ht6)
          have hh7 : (w6.setCell ⟨ow, 1, none⟩ (.slice A6 (n' + n) c6)).heap[ow]? = some (.cells #[.int .i64 pl, .slice A6 (n' + n) c6] 122) := block_set ht6.out _
          have hb7 : Below ow w3 (w6.setCell ⟨ow, 1, none⟩ (.slice A6 (n' + n) c6)) := (hby1.out.trans (b6.out.mono (Nat.le_succ _))).setCell (p := ⟨ow, 1, none⟩) (Nat.le_refl _) _
          have hO7 := own8_set (o := 1) (v := .slice A6 (n' + n) c6) O6.out ht6.out
          generalize w6.setCell ⟨ow, 1, none⟩ (.slice A6 (n' + n) c6) = w7 at *
          replace hh7 := box hh7
          replace hb7 := box hb7
          replace hO7 := box hO7
          obtain ⟨j2, hj2⟩ : ∃ j2, Box ((tr = true ∧ j2 = i + 1) ∨ (tr = false ∧ j2 = i)) := by
            cases tr
            · exact ⟨_, ⟨.inr ⟨rfl, rfl⟩⟩⟩
            · exact ⟨_, ⟨.inl ⟨rfl, rfl⟩⟩⟩
          clear hbx hox q1 f6 q6 O6 b6 ht6 hown hsrc hoy hby1
          go_cut [147] (fun s147 wx => s147 = .bool tr ∧ w7 = wx)
          case first =>
            have ii3 : (0 : Int) ≤ (i : Int) := by omega
            by_cases hil : i < l1.length
            · obtain ⟨p, hp⟩ : ∃ p, l1[i]? = some p := ⟨_, List.getElem?_eq_getElem hil⟩
              obtain ⟨ra, rfl, -, hrl, x0, x1, -⟩ := OwnP.cells2 hO3.out hp
              have y0 := cell_past (how0.out ▸ hb7.out) x0
              have htrv : tr = decide (p.1 = at_ + (n : Int)) := by
                rcases htr.out with ⟨rfl, h2, h3⟩ | ⟨rfl, h2, h3, h4⟩
                · rw [hat4.out hp] at h3
                  exact (decide_eq_true (congrArg Prod.fst (Option.some.inj h3))).symm
                · exact (decide_eq_false (h4 _ (hat4.out hp))).symm
              replace htrv := box htrv
              have ii2 : (i : Int) < (l1.length : Int) := by omega
              obtain ⟨pa, pA, pc, pz⟩ := p
              simp only at y0
              clear x0 x1 hp
              go_wp2_with fail
              go_meet
              refine ⟨?_, rfl⟩
              rw [htrv.out]
              rfl
            · have htrv : tr = false := by
                rcases htr.out with ⟨rfl, h2, h3⟩ | ⟨rfl, h2, h3, h4⟩
                · obtain ⟨q, hq, _⟩ := hat3.out h3
                  exact absurd (List.getElem?_eq_some_iff.1 hq).1 hil
                · rfl
              replace htrv := box htrv
              have ii2 : ¬ (i : Int) < (l1.length : Int) := by omega
              go_wp2_with fail
              go_meet
              exact ⟨by rw [htrv.out], rfl⟩
          case rest =>
            obtain ⟨rfl, rfl⟩ := hcut
            go_upto_if 147 with fail
            go_cut [12] (fun s12 wx => s12 = .int .i64 (j2 : Int) ∧ ∃ A' n' c', Box (Below ow w3 wx) ∧ Box (wx.heap[ow]? = some (.cells #[.int .i64 pl, .slice A' n' c'] 122)) ∧ Box (Own8 wx (ow + 1) A' n' c' (zl ++ bs ++ zr)))
            case first =>
              cases tr
              · obtain ⟨rfl, rfl⟩ : j2 = i ∧ zr = [] := by
                  rcases htr.out with ⟨h1, h2⟩ | ⟨_, h2, h3, h4⟩
                  · cases h1
                  · rcases hj2.out with ⟨g1, _⟩ | ⟨_, g1⟩
                    · cases g1
                    · exact ⟨g1, h3⟩
                go_wp2_with fail
                go_meet
                rw [List.append_nil]
                exact ⟨rfl, _, _, _, hb7, hh7, hO7⟩
              · obtain ⟨hj3, hD0⟩ : j2 = i + 1 ∧ (behindS at_ (at_ + (n : Int)) (lpcs ls))[0]? = some (at_ + (n : Int), zr) := by
                  rcases htr.out with ⟨h1, h2, h3⟩ | ⟨h1, _⟩
                  · rcases hj2.out with ⟨_, g1⟩ | ⟨g1, _⟩
                    · exact ⟨g1, h3⟩
                    · cases g1
                  · cases h1
                subst hj3
                obtain ⟨p, hp, hpe⟩ := hat3.out hD0
                obtain ⟨ra, rfl, -, hrl, x0, x1, -⟩ := OwnP.cells2 hO3.out hp
                have y1 := cell_past (how0.out ▸ hb7.out) x1
                have hzr := (hbd1.out p (List.mem_of_getElem? hp)).2
                have hzr0 := (hbd1.out p (List.mem_of_getElem? hp)).1
                have hsrc := box ((((hok1.out p (List.mem_of_getElem? hp)).byt.grown hb2.out).grown hb3.out).grown (how0.out ▸ hb7.out)).src
                have hil := (List.getElem?_eq_some_iff.1 hp).1
                obtain ⟨pa, pA, pc, pz⟩ := p
                cases hpe
                have q1 : w7.cell? ⟨ow, 1, none⟩ = some (.slice A6 (n' + n) c6) := cell_of_heap hh7.out rfl
                have f1 : w7.frozen? ⟨ow, 1, none⟩ = false := frozen_of_heap hh7.out
                have ii2 : (i : Int) < (l1.length : Int) := by omega
                have ii3 : (0 : Int) ≤ (i : Int) := by omega
                have hows := lt_of_heap hh7.out
                simp only at y1 hzr hzr0 hsrc
                clear x0 x1 hp hD0
                go_upto_region 23 with fail
                go_region_law
                  ((refine step8 _ (.tmp 149) (.tmp 154) (ow + 1) (by exact hO7.out) (by exact hsrc.out) (by rfl) (by rfl) (by rfl) (by rfl) (by omega) (by exact hows) ?_; intro A8 c8 w8 O8 b8 s8; have ht8 := (b8.block ow (by omega)).trans hh7.out; have f8 : w8.frozen? ⟨ow, 1, none⟩ = false := frozen_of_heap ht8; have q8 : w8.cell? ⟨ow, 1, none⟩ = some (.slice A6 (n' + n) c6) := cell_of_heap ht8 rfl; replace O8 := box O8; replace b8 := box b8; replace ht8 := box ht8))
                all_goals
                  go_wp2_with fail
                  go_meet
                  have b8' : Below (ow + 1) w7 w8 := ⟨b8.out.os, b8.out.tape, b8.out.output, b8.out.size, b8.out.block⟩
                  exact ⟨ret_i1 i (by have := hl1len.out; omega), A8, n' + n + pz.length, c8, ⟨(hb7.out.trans (b8'.mono (Nat.le_succ _))).setCell (p := ⟨ow, 1, none⟩) (Nat.le_refl _) _⟩, ⟨block_set ht8.out _⟩, ⟨own8_set O8.out ht8.out⟩⟩
            case rest =>
              obtain ⟨rfl, A8, n8, c8, hb8, hh8, hO8⟩ := hcut
              clear hb7 hh7 hO7
              have q0 : wc.cell? ⟨ow, 0, none⟩ = some (.int .i64 pl) := cell_of_heap hh8.out rfl
              have q1 : wc.cell? ⟨ow, 1, none⟩ = some (.slice A8 n8 c8) := cell_of_heap hh8.out rfl
              have hgo : wc.heap[g]? = some (.cells #[.slice A0 ls.length c0, .int .i64 N] 120) := (hb8.out.block g (by have := lt_of_heap hg.out; have := hb2.out.size; have := hb3.out.size; have := how0.out; omega)).trans (((hb3.out.block g (Nat.lt_of_lt_of_le (lt_of_heap hg.out) hb2.out.size)).trans (hb2.out.block g (lt_of_heap hg.out))).trans hg.out)
              replace hgo := box hgo
              go_upto_region 26 with fail
              have hn8 : (zl ++ bs ++ zr).length = n8 := by have := hO8.out.1; rwa [u8s_length, Nat.mul_one] at this
              have hWb : Below wc.heap.size wc (wc.alloc (.cells #[.int .i64 pl, .slice A8 n8 c8] 122)) := Below.alloc (Below.refl _ _) (Nat.le_refl _) _
              have hPc : PcIn (wc.alloc (.cells #[.int .i64 pl, .slice A8 n8 c8] 122)) wc.heap.size (pl, A8, c8, zl ++ bs ++ zr) := by
                unfold PcIn
                rw [hn8]
                exact heap_alloc_new _ _
              have hb38 : Below w3.heap.size w3 wc := how0.out ▸ hb8.out
              have hOv := OwnP.grown (OwnP.grown hO3.out hb38) hWb
              have hgW := (hWb.block g (lt_of_heap hgo.out)).trans hgo.out
              have hows8 := lt_of_heap hh8.out
              have hvb : blkOf A1 ≠ some wc.heap.size := fun h => by
                have h1 := (hA1.out _ h).2
                have h2 := hb3.out.size
                have h3 := hb38.size
                omega
              have hj2l : i2 ≤ j2 ∧ j2 ≤ l1.length := by
                rcases htl.out with ⟨_, h2, _⟩ | ⟨_, h2, _⟩ <;> rcases hj2.out with ⟨g1, g2⟩ | ⟨g1, g2⟩
                · rcases htr.out with ⟨_, _, h3⟩ | ⟨g3, _⟩
                  · obtain ⟨q, hq, _⟩ := hat3.out h3
                    have := (List.getElem?_eq_some_iff.1 hq).1
                    omega
                  · rw [g1] at g3; cases g3
                · omega
                · rcases htr.out with ⟨_, _, h3⟩ | ⟨g3, _⟩
                  · obtain ⟨q, hq, _⟩ := hat3.out h3
                    have := (List.getElem?_eq_some_iff.1 hq).1
                    omega
                  · rw [g1] at g3; cases g3
                · omega
              with_reducible refine Calls.mono (replace_any hOv hPc hvb (by have := hl1len.out; omega) (Nat.zero_le _) hj2l.1 hj2l.2) ?_
              rintro e w9 ⟨A9, c9, rfl, hO9, hC9, hA9⟩
              have hgA : ¬ blkOf A1 = some g := fun h => by
                have h1 := (hA1.out _ h).1
                have h2 := lt_of_heap hg.out
                omega
              have hg9 := (hC9.block g (lt_of_heap hgW) hgA).trans hgW
              have g90 : w9.cell? ⟨g, 0, none⟩ = some (.slice A0 ls.length c0) := cell_of_heap hg9 rfl
              have g91 : w9.cell? ⟨g, 1, none⟩ = some (.int .i64 N) := cell_of_heap hg9 rfl
              have f90 : w9.frozen? ⟨g, 0, none⟩ = false := frozen_of_heap hg9
              have f91 : w9.frozen? ⟨g, 1, none⟩ = false := frozen_of_heap hg9
              have hw3 := hb2.out.size
              have hw3' := hb3.out.size
              have hows0 := how0.out
              have hwW : Below w.heap.size w (wc.alloc (.cells #[.int .i64 pl, .slice A8 n8 c8] 122)) := ((grown_trans hb2.out hb3.out).trans (hb8.out.mono (by omega))).trans (hWb.mono (by have := hb38.size; omega))
              have hb9 : Below w.heap.size w w9 := hwW.trans (below_chg hC9 hwW.size (fun k hk => (hA1.out k hk).1))
              have hx9 : Own8 w9 w.heap.size A8 (zl ++ bs ++ zr).length c8 (zl ++ bs ++ zr) := by
                rw [hn8]
                refine own8_chg (own8_base (own8_chg hO8.out (Chg.new (F := NoB) hWb) (fun _ h => h.elim)) (by omega)) hC9 fun k hk => ?_
                rw [← own_blk A1 l1.length k1] at hk
                exact (OwnP.blk hOv hk).2.2.2
              have hbl : bs.length = n := hby.out.len
              have hpcs := put_lpcs (A := A8) (c := c8) (j2 := j2) hl1.out hbl hspl.out (by rw [← hi.out]; rcases htl.out with ⟨_, h2, _⟩ | ⟨_, h2, _⟩ <;> omega) hspr.out (by
                rw [← hi.out]
                rcases htr.out with ⟨g1, g2, _⟩ | ⟨g1, g2, _⟩ <;> rcases hj2.out with ⟨e1, e2⟩ | ⟨e1, e2⟩
                · exact .inr ⟨e2, g2⟩
                · rw [g1] at e1; cases e1
                · rw [g1] at e1; cases e1
                · exact .inl ⟨e2, g2⟩)
              have hCh : Chain 0 (layS at_ bs (aheadS at_ (lpcs ls)) (behindS at_ (at_ + (n : Int)) (lpcs ls))) := by
                have hs := hS.out
                have h9 : Chain (at_ + (bs.length : Int)) (behindS at_ (at_ + (n : Int)) (lpcs ls)) := by rw [hbl]; exact (behind_chain hs.chain).mono (by omega)
                exact lay_chain (ahead_chain hs.chain) (ahead_ends hs.chain) h9 hby.out.bs (by omega) h0
              have hxb : Bs (zl ++ bs ++ zr) := by
                rw [← hpcs] at hCh
                exact hCh.bs (lpc (pl, A8, c8, zl ++ bs ++ zr)) (List.mem_map_of_mem (List.mem_append_right _ List.mem_cons_self))
              have hfin := box (put_after (g := g) hS.out (Below.refl _ _) hok1.out hap1.out hb9 hO9 (fun k hk => by
                rcases hA9 k hk with h | h
                · exact (hA1.out k h).1
                · exact Nat.le_trans hwW.size h) hj2l.1 hx9 hxb (by show 0 < (zl ++ bs ++ zr).length; rw [List.length_append, List.length_append]; omega) hbl hby.out.bs hn hpcs h0 h1 (by rw [hHe.out]; omega))
              clear hpcs hCh hxb hx9 hb9 hwW hO9 hC9 hA9 hOv hPc hgA
              go_wp2_with fail
              go_ret
              have h := hfin.out
              simp only [List.length_append, List.length_cons, List.length_take, List.length_drop] at h
              exact ⟨rfl, h⟩
end Go.Proofs.Ytajfamjdfhjdeaa
