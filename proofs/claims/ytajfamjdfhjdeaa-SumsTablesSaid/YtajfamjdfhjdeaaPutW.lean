/- Put within a piece; Put. -/
import Derived.Test.YtajfamjdfhjdeaaPutS
namespace Go.Proofs.Ytajfamjdfhjdeaa
open Go.RowKit
attribute [local go_sem ↓] Go.wp_at_zero Go.wp_at_succ

theorem lcells_set : ∀ {ls : List Lp} {j : Nat} {p q : Lp}, ls[j]? = some p → lcell q = lcell p → lcells (ls.set j q) = lcells ls
  | x :: ls, 0, p, q, h, e => by
    rw [List.getElem?_cons_zero] at h
    cases h
    unfold lcells
    rw [List.set_cons_zero, List.flatMap_cons, List.flatMap_cons, e]
  | x :: ls, j + 1, p, q, h, e => by
    rw [List.getElem?_cons_succ] at h
    have := lcells_set h e
    unfold lcells at *
    rw [List.set_cons_succ, List.flatMap_cons, List.flatMap_cons, this]
theorem lpcs_set (ls : List Lp) (j : Nat) (q : Lp) : lpcs (ls.set j q) = (lpcs ls).set j (lpc q) := by
  unfold lpcs
  rw [List.map_set]
theorem apart_set : ∀ {ls : List Lp} {j : Nat} {p q : Lp}, ls[j]? = some p → q.2.1 = p.2.1 → q.2.2.2.length = p.2.2.2.length → ls.Pairwise Apart → (ls.set j q).Pairwise Apart
  | x :: ls, 0, p, q, h, e1, e2, g => by
    rw [List.getElem?_cons_zero] at h
    cases h
    rw [List.set_cons_zero]
    rw [List.pairwise_cons] at g ⊢
    refine ⟨fun y hy b o b' o' h1 h2 => ?_, g.2⟩
    rw [e2]
    exact g.1 y hy b o b' o' (e1 ▸ h1) h2
  | x :: ls, j + 1, p, q, h, e1, e2, g => by
    rw [List.getElem?_cons_succ] at h
    rw [List.set_cons_succ]
    rw [List.pairwise_cons] at g ⊢
    refine ⟨fun y hy b o b' o' h1 h2 => ?_, apart_set h e1 e2 g.2⟩
    rcases List.mem_or_eq_of_mem_set hy with hy | rfl
    · exact g.1 y hy b o b' o' h1 h2
    · rw [e2]
      exact g.1 p (List.mem_of_getElem? h) b o b' o' h1 (e1 ▸ h2)
theorem splice_len {α : Type} (L : List α) (d : Nat) (cs : List α) (h : d + cs.length ≤ L.length) : (splice L d cs).length = L.length := length_splice L d cs h
theorem splice_bs {L bs : List Int} {d : Nat} (h : Bs L) (g : Bs bs) : Bs (splice L d bs) := by
  unfold splice
  exact (h.take _).app (g.app (h.drop _))

/-- Behind the copy within piece j the span stands again. -/
theorem within_after {w w' : World} {F : Nat → Prop} {g j d b o : Nat} {ls : List Lp} {N at_ : Int} {bs : List Int} {p : Lp} {cur : Array Value} (h : SpanO w F g ls N) (hj : ls[j]? = some p) (hat : at_ = p.1 + (d : Int)) (hd : d + bs.length ≤ p.2.2.2.length) (h0 : 0 < bs.length) (hbs : Bs bs)
    (e : p.2.1 = some ⟨b, o, none⟩) (hF : F b) (hb : w.heap[b]? = some (.cells cur 5 (0, 0))) (hb' : w'.heap[b]? = some (.cells (splice cur.toList (o + d) (u8s bs)).toArray 5 (0, 0))) (hc : Chg (fun k => k = b) w w') (hcl : o + p.2.2.2.length ≤ cur.size) :
    After w F g (layS at_ bs (aheadS at_ (lpcs ls)) (behindS at_ (at_ + (bs.length : Int)) (lpcs ls))) (max N (at_ + (bs.length : Int))) w' ∧ heldS (aheadS at_ (lpcs ls)) + heldS (behindS at_ (at_ + (bs.length : Int)) (lpcs ls)) + bs.length ≤ 4194304 := by
  have hp : (lpcs ls)[j]? = some (lpc p) := by unfold lpcs; rw [List.getElem?_map, hj]; rfl
  have hpE : pEnd (lpc p) = p.1 + (p.2.2.2.length : Int) := rfl
  obtain ⟨hl1, hl2⟩ := lay_within (at_ := at_) (b := bs) h.chain hp (by rw [hat]; show p.1 ≤ _; omega) (by rw [hpE, hat]; omega) h0
  have hpN := h.ends (lpc p) (List.mem_of_getElem? hp)
  rw [hpE] at hpN
  have hp0 := (h.chain.lo (lpc p) (List.mem_of_getElem? hp)).1
  have hp0' : 0 ≤ p.1 := hp0
  have hA := ahead_chain (fr := at_) h.chain
  have hAe := ahead_ends (fr := at_) h.chain
  have hC : Chain (at_ + (bs.length : Int)) (behindS at_ (at_ + (bs.length : Int)) (lpcs ls)) := (behind_chain h.chain).mono (by omega)
  have hCe : Ends N (behindS at_ (at_ + (bs.length : Int)) (lpcs ls)) := behind_ends h.ends
  have hheld := lay_held at_ bs hA hAe hC
  have hh := h.held
  refine ⟨?_, by omega⟩
  have hd1 : (at_ - p.1).toNat = d := by omega
  have hset : lpcs (ls.set j (p.1, p.2.1, p.2.2.1, splice p.2.2.2 d bs)) = layS at_ bs (aheadS at_ (lpcs ls)) (behindS at_ (at_ + (bs.length : Int)) (lpcs ls)) := by
    rw [hl1, lpcs_set]
    show _ = (lpcs ls).set j (p.1, splice p.2.2.2 (at_ - p.1).toNat bs)
    rw [hd1]
    rfl
  have hcell : lcell (p.1, p.2.1, p.2.2.1, splice p.2.2.2 d bs) = lcell p := by
    unfold lcell
    show [Value.int .i64 p.1, .slice p.2.1 (splice p.2.2.2 d bs).length p.2.2.1] = _
    rw [splice_len _ _ _ hd]
  obtain ⟨A, c, ht, hO, hOF⟩ := h.top
  have hgb := not_g (show w.heap[g]? = some (.cells _ 120) from ht) hb (by decide)
  have hlen : (ls.set j (p.1, p.2.1, p.2.2.1, splice p.2.2.2 d bs)).length = ls.length := List.length_set
  have hpok := h.ok p (List.mem_of_getElem? hj)
  have hfit : (o + d) + (u8s bs).length ≤ cur.toList.length := by rw [u8s_length, show cur.toList.length = cur.size from rfl]; omega
  rw [← hset]
  refine ⟨F, _, ⟨⟨A, c, ?_, ?_, ?_⟩, h.fg, fun k hk => Nat.lt_of_lt_of_le (h.lt k hk) hc.size, ?_, ?_, ?_, ?_, ?_, ?_, ?_⟩, rfl, ?_, fun k hk => .inl hk⟩
  · rw [hlen, show max N (at_ + (bs.length : Int)) = N by omega]
    exact (hc.block g (lt_of_heap ht) (Ne.symm hgb)).trans ht
  · have h1 : OwnP w' 0 A ls.length c ls := OwnP.keep hO fun k hk => by
      obtain ⟨_, hlt, _, cur2, hk2⟩ := OwnP.blk hO hk
      exact hc.block k hlt fun hkb => by
        subst hkb
        rw [hb] at hk2
        cases hk2
    unfold OwnP at h1 ⊢
    rw [hlen, lcells_set hj hcell]
    exact h1
  · rw [hlen]; exact hOF
  · intro q hq
    obtain ⟨i, hi⟩ := List.mem_iff_getElem?.1 hq
    by_cases hij : j = i
    · subst hij
      have hjl := (List.getElem?_eq_some_iff.1 hj).1
      rw [List.getElem?_set_self hjl] at hi
      cases hi
      refine ⟨⟨b, o, _, e, hF, hb', fun i hi => ?_⟩, ?_, hpok.2.2.1, splice_bs hpok.2.2.2 hbs⟩
      · have hi' : i < p.2.2.2.length := by rw [show (p.1, p.2.1, p.2.2.1, splice p.2.2.2 d bs).2.2.2 = splice p.2.2.2 d bs from rfl, splice_len _ _ _ hd] at hi; exact hi
        obtain ⟨⟨b2, o2, cur2, e2, _, hh2, hc2⟩, _⟩ := hpok
        rw [e] at e2
        cases e2
        rw [hb] at hh2
        cases hh2
        have h3 := hc2 i hi'
        have h4 := splice_get cur.toList (o + d) (u8s bs) hfit (o + i)
        rw [u8s_length] at h4
        have h5 := splice_get p.2.2.2 d bs hd i
        show (splice cur.toList (o + d) (u8s bs)).toArray[o + i]? = some (.int .u8 ((splice p.2.2.2 d bs).getD i 0))
        rw [List.getElem?_toArray, h4, List.getD, h5]
        by_cases hin : d ≤ i ∧ i < d + bs.length
        · rw [if_pos (by omega), if_pos hin, show o + i - (o + d) = i - d by omega, u8s_get bs (i - d) (by omega)]
          rfl
        · rw [if_neg (by omega), if_neg hin, Array.getElem?_toList, h3]
          rfl
      · show (splice p.2.2.2 d bs).length ≤ p.2.2.1
        rw [splice_len _ _ _ hd]
        exact hpok.2.1
    · rw [List.getElem?_set_ne hij] at hi
      have hqok := h.ok q (List.mem_of_getElem? hi)
      obtain ⟨⟨b2, o2, cur2, e2, hF2, hh2, hc2⟩, h3⟩ := hqok
      by_cases hbb : b2 = b
      · subst hbb
        rw [hb] at hh2
        cases hh2
        have hap : o + p.2.2.2.length ≤ o2 ∨ o2 + q.2.2.2.length ≤ o := by
          have hjl := (List.getElem?_eq_some_iff.1 hj).1
          have hil := (List.getElem?_eq_some_iff.1 hi).1
          rcases Nat.lt_or_gt_of_ne hij with hlt | hlt
          · have := List.pairwise_iff_getElem.1 h.apart j i hjl hil hlt b2 o b2 o2 (by rw [(List.getElem?_eq_some_iff.1 hj).2]; exact e) (by rw [(List.getElem?_eq_some_iff.1 hi).2]; exact e2)
            rw [(List.getElem?_eq_some_iff.1 hj).2, (List.getElem?_eq_some_iff.1 hi).2] at this
            rcases this with h | h | h
            · exact absurd rfl h
            · exact .inl h
            · exact .inr h
          · have := List.pairwise_iff_getElem.1 h.apart i j hil hjl hlt b2 o2 b2 o (by rw [(List.getElem?_eq_some_iff.1 hi).2]; exact e2) (by rw [(List.getElem?_eq_some_iff.1 hj).2]; exact e)
            rw [(List.getElem?_eq_some_iff.1 hj).2, (List.getElem?_eq_some_iff.1 hi).2] at this
            rcases this with h | h | h
            · exact absurd rfl h
            · exact .inr h
            · exact .inl h
        refine ⟨⟨b2, o2, _, e2, hF2, hb', fun i hi => ?_⟩, h3⟩
        have h4 := splice_get cur.toList (o + d) (u8s bs) hfit (o2 + i)
        rw [u8s_length] at h4
        rw [List.getElem?_toArray, h4, if_neg (by omega), Array.getElem?_toList]
        exact hc2 i hi
      · exact ⟨⟨b2, o2, cur2, e2, hF2, (hc.block b2 (lt_of_heap hh2) hbb).trans hh2, hc2⟩, h3⟩
  · exact apart_set hj rfl (splice_len _ _ _ hd) h.apart
  · rw [hset]; exact lay_chain hA hAe hC hbs h0 (by omega)
  · rw [hset]; exact lay_ends hA hAe hC hCe
  · have := h.n0; omega
  · have := h.n1; omega
  · rw [hset, hheld]; omega
  · exact hc.mono fun k _ hk => by rw [hk]; exact hF

set_option maxHeartbeats 8000000 in
set_option maxRecDepth 100000 in
theorem put_within {w : World} {F : Nat → Prop} {g n c j : Nat} {A : Option Addr} {ls : List Lp} {N at_ : Int} {bs : List Int} (h : SpanO w F g ls N) (hb : Byt w w.heap.size A n bs) (hn : 0 < n) (hn2 : n ≤ 1048576) (h0 : 0 ≤ at_) (h1 : at_ + (n : Int) ≤ 1073741824) (hj : Behind (lpcs ls) at_ j) (hw : Within (lpcs ls) at_ (at_ + (n : Int)) j) :
    Calls Try.prog 39 #[.pointer (some ⟨g, 0, none⟩), .int .i64 at_, .slice A n c] w fun r w' => r = .returned (.int .i64 0) ∧ After w F g (layS at_ bs (aheadS at_ (lpcs ls)) (behindS at_ (at_ + (n : Int)) (lpcs ls))) (max N (at_ + (n : Int))) w' ∧ heldS (aheadS at_ (lpcs ls)) + heldS (behindS at_ (at_ + (n : Int)) (lpcs ls)) + n ≤ 4194304 := by
  obtain ⟨p, hp, hw1, hw2⟩ := hw
  obtain ⟨p, hq, rfl⟩ := lpcs_get hp
  obtain ⟨A0, c0, ht, hO, hF⟩ := h.top
  have hcap := own_cap hO
  have hjl := (List.getElem?_eq_some_iff.1 hq).1
  have hsp := h.span
  have hcnt := hsp.count
  rw [lpcs_len] at hcnt
  have hbh := box (behind_is hsp (Nat.le_refl _) hj)
  obtain ⟨ra, rfl, -, hrl, x0, x1, -⟩ := OwnP.cells2 hO hq
  have hpb := hsp.pc_bd (List.mem_of_getElem? hp)
  obtain ⟨⟨b, o, cur, e, hFb, hh, hc⟩, hk1, hk2, hk3⟩ := h.ok p (List.mem_of_getElem? hq)
  obtain ⟨pa, pA, pc, pz⟩ := p
  have hE : pEnd (lpc (pa, pA, pc, pz)) = pa + (pz.length : Int) := rfl
  rw [hE] at hw2 hpb
  simp only at e hk1 hk2 hk3 hc x0 x1
  subst e
  have hp0 : 0 ≤ pa := hpb.1
  have hp1 : pa + (pz.length : Int) ≤ 1073741824 := hpb.2.1
  have hwa : pa ≤ at_ := hw1
  obtain ⟨d, rfl⟩ : ∃ d : Nat, at_ = pa + (d : Int) := ⟨(at_ - pa).toNat, by omega⟩
  have hd : d + n ≤ pz.length := by omega
  have hcl : o + pz.length ≤ cur.size := by
    have h3 := hc (pz.length - 1) (by omega)
    have h4 := (Array.getElem?_eq_some_iff.1 h3).1
    omega
  have e0 : ((n : Int) == 0) = false := by rw [beq_eq_false_iff_ne]; omega
  have e1 : ¬ (1073741824 : Int) - (n : Int) < pa + (d : Int) := by omega
  have hbl : bs.length = n := hb.len
  have hfin := box (fun w' (hb' : w'.heap[b]? = some (.cells (splice cur.toList (o + d) (u8s bs)).toArray 5 (0, 0))) (hcg : Chg (fun k => k = b) w w') => within_after (w' := w') (at_ := pa + (d : Int)) h hq rfl (by rw [hbl]; exact hd) (by omega) hb.bs rfl hFb hh hb' hcg hcl)
  rw [hbl] at hfin
  have hby := box hb
  have hhb := box hh
  have hgt := box ht
  have hrb : ra ≠ b := by
    rintro rfl
    obtain ⟨_, _, _, cur2, hk2⟩ := OwnP.blk hO (show (Value.slice (some ⟨ra, 0, none⟩) ls.length c0).ownBlock = some ra from rfl)
    rw [hh] at hk2
    cases hk2
  have hgb : g ≠ b := Ne.symm (not_g ht hh (by decide))
  have hbl2 := box hbl
  have hbbs := box hb.bs
  clear h hb hO hF ht hsp hp hpb hE hk3 hc hFb hh hw1 hj hbl
  go_enter Try.func39, Try.ntmps39
  go_upto_region 11 with (with_reducible (refine Calls.mono hbh.out ?_); rintro e w1 ⟨rfl, hb1⟩)
  have g0 := cell_past hb1 (cell_of_heap (o := 0) hgt.out rfl)
  have y0 := cell_past hb1 x0
  have y1 := cell_past hb1 x1
  have hend := box (fun W => end_any pa (some ⟨b, o, none⟩) pz.length pc W hp0 hp1)
  have jlt : (j : Int) < (ls.length : Int) := by omega
  have j0 : (0 : Int) ≤ (j : Int) := by omega
  have hlow : pa ≤ pa + (d : Int) := by omega
  have hhi : pa + (d : Int) + (n : Int) ≤ pa + (pz.length : Int) := by omega
  have hrb1 : ra < w1.heap.size := Nat.lt_of_lt_of_le hrl hb1.size
  have hgl1 : g < w1.heap.size := Nat.lt_of_lt_of_le (lt_of_heap hgt.out) hb1.size
  replace hb1 := box hb1
  clear hbh x0 x1
  go_upto_region 12 with (with_reducible (refine Calls.mono (hend.out _) ?_); rintro e w2 ⟨rfl, hb2⟩; have z0 := cell_past hb2 g0; have za := cell_past hb2 y0; have zb := cell_past hb2 y1)
  have hcur := (hb2.block b (Nat.lt_of_lt_of_le (lt_of_heap hhb.out) hb1.out.size)).trans ((hb1.out.block b (lt_of_heap hhb.out)).trans hhb.out)
  have hsrc := ((hby.out.grown hb1.out).grown hb2).src
  obtain ⟨sb, so, hsA, hsb, hsc⟩ := hsrc.2 hn
  obtain ⟨cl, rfl⟩ : ∃ cl : List Value, cur = cl.toArray := ⟨cur.toList, by simp⟩
  subst hsA
  have hsc2 : Box (∀ j v, (u8s bs)[j]? = some v → w2.cell? ((⟨sb, so, none⟩ : Addr).add j) = some v) := ⟨fun j v hj => by rw [add_at]; exact hsc j v hj⟩
  have hul : (u8s bs).length = n := by rw [u8s_length, hbl2.out]
  have hfit : o + d + (u8s bs).length ≤ cl.length := by
    have : cl.toArray.size = cl.length := by simp
    omega
  have hb2w := box (grown_trans hb1.out hb2)
  replace hcur := box hcur
  replace hul := box hul
  replace hfit := box hfit
  have v1 : pa + (d : Int) - pa = (d : Int) := by omega
  have v2 : ¬ (pc = d) := by omega
  have v3 : (0 : Int) ≤ (d : Int) := by omega
  have v4 : (d : Int) ≤ (pz.length : Int) := by omega
  have v6 : (pz.length : Int) ≤ (pc : Int) := by omega
  have v5 : IntKind.i64.wrap (d : Int) = (d : Int) := IntWalk.i64_in _ (by omega)
  clear hend g0 y0 y1 hb2 hsrc hsc hb1 hsb
  go_region_held3 (fun W => W.cell? ⟨g, 0, none⟩ = some (.slice (some ⟨ra, 0, none⟩) ls.length c0) ∧ W.cell? ⟨ra, j * 2, none⟩ = some (.int .i64 pa) ∧ W.cell? ⟨ra, j * 2 + 1, none⟩ = some (.slice (some ⟨b, o, none⟩) pz.length pc)) (first | go_keep | exact ⟨z0, za, zb⟩ | exact ⟨cell_chg HC.out hgb z0, cell_chg HC.out hrb za, cell_chg HC.out hrb zb⟩)
    ((refine step_copy8 (.tmp 85) (.tmp 86) (some ⟨b, o + d, none⟩) (some ⟨sb, so, none⟩) (pz.length - d) (pc - d) n c b (o + d) cl (u8s bs) 5 (by rfl) (by rfl) (by rfl) (by rfl) (by exact hcur.out) (by rw [hul.out]; show n = min n (pz.length - d); omega) (fun _ => ⟨rfl, _, rfl, by exact hsc2.out⟩) (by exact hfit.out) (u8s_one _) ?_; intro w3 HG HC))
  go_wp2_with fail
  go_ret
  have hC : Chg (fun k => k = b) w w3 := (Chg.new hb2w.out).trans (chg_undrew HC.out) (fun _ _ h => h)
  obtain ⟨f1, f2⟩ := hfin.out w3 (by simpa using HG.out) hC
  exact ⟨rfl, f1, f2⟩

set_option maxRecDepth 100000 in
/-- Put, whatever it is asked. -/
theorem sput_any {w : World} {F : Nat → Prop} {g n c : Nat} {A : Option Addr} {ls : List Lp} {N at_ : Int} {bs : List Int} (h : SpanO w F g ls N) (hb : Byt w w.heap.size A n bs) (hn2 : n ≤ 1048576) :
    Calls Try.prog 39 #[.pointer (some ⟨g, 0, none⟩), .int .i64 at_, .slice A n c] w fun r w' => r = .returned (.int .i64 (putOf (lpcs ls) N at_ bs).1) ∧ After w F g (putOf (lpcs ls) N at_ bs).2.1 (putOf (lpcs ls) N at_ bs).2.2 w' := by
  have hbl : bs.length = n := hb.len
  have hS := box h
  unfold putOf
  rw [hbl]
  by_cases c1 : at_ < 0
  · rw [if_pos c1]
    clear h hb
    go_enter Try.func39, Try.ntmps39
    go_wp2
    go_ret
    exact ⟨rfl, hS.out.after (Below.refl _ _)⟩
  · rw [if_neg c1]
    by_cases c2 : n = 0
    · rw [if_pos c2]
      subst c2
      clear h hb
      go_enter Try.func39, Try.ntmps39
      go_wp2
      go_ret
      exact ⟨rfl, hS.out.after (Below.refl _ _)⟩
    · rw [if_neg c2]
      by_cases c3 : 1073741824 - (n : Int) < at_
      · rw [if_pos c3]
        have e0 : ((n : Int) == 0) = false := by rw [beq_eq_false_iff_ne]; omega
        clear h hb
        go_enter Try.func39, Try.ntmps39
        go_wp2
        go_ret
        exact ⟨rfl, hS.out.after (Below.refl _ _)⟩
      · rw [if_neg c3]
        obtain ⟨j, hj⟩ := behind_ex at_ h.chain
        by_cases hw : Within (lpcs ls) at_ (at_ + (n : Int)) j
        · refine (put_within (c := c) h hb (by omega) hn2 (by omega) (by omega) hj hw).mono fun r w' ⟨h1, h2, h3⟩ => ?_
          rw [if_neg (by rw [heldS_append]; omega)]
          exact ⟨h1, h2⟩
        · exact put_out (c := c) h hb (by omega) hn2 (by omega) (by omega) hj hw rfl
end Go.Proofs.Ytajfamjdfhjdeaa
