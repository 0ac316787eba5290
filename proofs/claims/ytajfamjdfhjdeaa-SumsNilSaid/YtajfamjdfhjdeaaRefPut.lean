/- The reference's Put, Cut, Punch, New. -/
import Derived.Test.YtajfamjdfhjdeaaLayW
namespace Go.Proofs.Ytajfamjdfhjdeaa
open Go.RowKit
attribute [local go_sem ↓] Go.wp_at_zero Go.wp_at_succ

theorem taken_held {fr tt : Int} {ls : List Lp} {lo : Int} (h : Chain lo (lpcs ls)) (hft : fr < tt) : lpcs (ltaken fr tt ls) = aheadS fr (lpcs ls) ++ behindS fr tt (lpcs ls) := (lpcs_taken _ _ _).trans (taken_is h hft)

theorem RSpan.left {w w2 : World} {G : Nat → Prop} {g c : Nat} {A : Option Addr} {ls ls' : List Lp} {N N' : Int} (h : RSpan w G g ls N) (hc : Chg (fun k => k = g) w w2) (hg2 : w2.heap[g]? = some (.cells #[.slice A ls'.length c, .int .i64 N'] 108))
    (hO : OwnR w2 w.heap.size A ls'.length c ls') (hok : ∀ p ∈ ls', LpOk w2 (fun k => G k ∨ (w.heap.size ≤ k ∧ k < w2.heap.size)) p) (hch : Chain 0 (lpcs ls')) (he : Ends N' (lpcs ls')) (h0 : 0 ≤ N') (h1 : N' ≤ 1073741824) (hh : heldS (lpcs ls') ≤ 4194304) : AfterR w G g (lpcs ls') N' w2 := by
  refine ⟨fun k => G k ∨ (w.heap.size ≤ k ∧ k < w2.heap.size), ls', ⟨⟨A, c, hg2, OwnR.base hO fun _ _ => Nat.zero_le _, fun k hk => .inr ⟨(OwnR.blk hO hk).1, (OwnR.blk hO hk).2.1⟩⟩, .inl h.fg, ?_, hok, hch, he, h0, h1, hh⟩, rfl, hc, ?_⟩
  · intro k hk
    rcases hk with hk | hk
    · exact Nat.lt_of_lt_of_le (h.lt k hk) hc.size
    · exact hk.2
  · intro k hk
    rcases hk with hk | hk
    · exact .inl hk
    · exact .inr hk.1
theorem LayLeft.after {w w2 w3 : World} {G : Nat → Prop} {g : Nat} {ls : List Lp} {N N' : Int} {ps : List Pc} (h : RSpan w G g ls N) (hb : Below w.heap.size w w2) (hL : LayLeft w2 G g N ps w3) (hch : Chain 0 ps) (he : Ends N' ps) (h0 : 0 ≤ N') (h1 : N' ≤ 1073741824) (hh : heldS ps ≤ 4194304) :
    AfterR w G g ps N' (w3.setCell ⟨g, 1, none⟩ (.int .i64 N')) := by
  obtain ⟨A, c, ls', hg, hO, hok, rfl, hc⟩ := hL
  have hs := hb.size
  have hc3 : Chg (fun k => k = g) w3 (w3.setCell ⟨g, 1, none⟩ (.int .i64 N')) := set_chg
  refine h.left (((Chg.new hb).trans hc fun _ _ h => h).trans hc3 fun _ _ h => h) (block_set hg _) ?_ ?_ hch he h0 h1 hh
  · refine OwnR.base (OwnR.keep hO fun k hk => ?_) fun k hk => by have := (OwnR.blk hO hk).1; omega
    obtain ⟨_, hlt, _, cur, hk2⟩ := OwnR.blk hO hk
    exact hc3.block k hlt (not_g hg hk2 (by decide))
  · intro p hp
    refine (hok p hp).keep (fun k hk => ?_) fun k cur _ hk => hc3.block k (lt_of_heap hk) (not_g hg hk (by decide))
    rcases hk with hk | hk
    · exact .inl hk
    · exact .inr ⟨by omega, Nat.lt_of_lt_of_le hk.2 hc3.size⟩

set_option maxHeartbeats 2000000 in
theorem rput_any {w : World} {G : Nat → Prop} {g n c : Nat} {A : Option Addr} {ls : List Lp} {N at_ : Int} {bs : List Int} (h : RSpan w G g ls N) (hb : Byt w w.heap.size A n bs) (hn2 : n ≤ 1048576) :
    Calls Try.prog 40 #[.pointer (some ⟨g, 0, none⟩), .int .i64 at_, .slice A n c] w fun r w' => r = .returned (.int .i64 (putOf (lpcs ls) N at_ bs).1) ∧ AfterR w G g (putOf (lpcs ls) N at_ bs).2.1 (putOf (lpcs ls) N at_ bs).2.2 w' := by
  have hbl : bs.length = n := hb.len
  have hS := box h
  have hN0 := h.n0
  have hN1 := h.n1
  unfold putOf
  rw [hbl]
  by_cases c1 : at_ < 0
  · rw [if_pos c1]
    clear h hb
    go_enter Try.func40, Try.ntmps40
    go_wp2
    go_ret
    exact ⟨rfl, hS.out.after (Below.refl _ _)⟩
  · rw [if_neg c1]
    by_cases c2 : n = 0
    · rw [if_pos c2]
      subst c2
      clear h hb
      go_enter Try.func40, Try.ntmps40
      go_wp2
      go_ret
      exact ⟨rfl, hS.out.after (Below.refl _ _)⟩
    · rw [if_neg c2]
      have e0 : ((n : Int) == 0) = false := by rw [beq_eq_false_iff_ne]; omega
      by_cases c3 : 1073741824 - (n : Int) < at_
      · rw [if_pos c3]
        clear h hb
        go_enter Try.func40, Try.ntmps40
        go_wp2
        go_ret
        exact ⟨rfl, hS.out.after (Below.refl _ _)⟩
      · rw [if_neg c3]
        have h1 : at_ + (n : Int) ≤ 1073741824 := by omega
        have h0 : 0 ≤ at_ := by omega
        have hcl := box (taken_any h h0 (show at_ < at_ + (n : Int) by omega) (by omega))
        have htk := taken_held (fr := at_) (tt := at_ + (n : Int)) h.chain (by omega)
        have hcn : (ltaken at_ (at_ + (n : Int)) ls).length ≤ 2147483650 := by have := ltaken_len at_ (at_ + (n : Int)) ls; have := h.count; omega
        have hH : heldS (aheadS at_ (lpcs ls) ++ behindS at_ (at_ + (n : Int)) (lpcs ls)) ≤ 4194304 := Nat.le_trans (cut_held (by omega)) h.held
        have hHe : heldS (lpcs (ltaken at_ (at_ + (n : Int)) ls)) = heldS (aheadS at_ (lpcs ls) ++ behindS at_ (at_ + (n : Int)) (lpcs ls)) := by rw [htk]
        have hlay := box (fun W (hW : Below w.heap.size w W) (hM : heldS (aheadS at_ (lpcs ls) ++ behindS at_ (at_ + (n : Int)) (lpcs ls)) + n ≤ 4194304) => layR_any (w := W) (c := c) (h.same hW) ((hb.grown hW).more hW.size) (by omega) h0 h1 hM)
        have hC2 : Chain (at_ + (bs.length : Int)) (behindS at_ (at_ + (n : Int)) (lpcs ls)) := by rw [hbl]; exact (behind_chain h.chain).mono (by omega)
        have hfC := box (lay_chain (b := bs) (ahead_chain (fr := at_) h.chain) (ahead_ends h.chain) hC2 hb.bs (by omega) h0)
        have hfE := lay_ends (b := bs) (N := N) (ahead_chain (fr := at_) h.chain) (ahead_ends h.chain) hC2 (behind_ends h.ends)
        have hfH := lay_held at_ bs (ahead_chain (fr := at_) h.chain) (ahead_ends h.chain) hC2
        have hap : heldS (aheadS at_ (lpcs ls)) + bs.length + heldS (behindS at_ (at_ + (n : Int)) (lpcs ls)) = heldS (aheadS at_ (lpcs ls) ++ behindS at_ (at_ + (n : Int)) (lpcs ls)) + n := by rw [heldS_append, hbl]; omega
        rw [hap] at hfH
        rw [hbl] at hfE
        replace hfE := box hfE
        replace hfH := box hfH
        obtain ⟨A0, c0, ht, hO0, -⟩ := h.top
        have g1 : w.cell? ⟨g, 1, none⟩ = some (.int .i64 N) := cell_of_heap ht rfl
        have hgl := lt_of_heap ht
        clear h hb ht hO0 hap htk hC2
        generalize heldS (aheadS at_ (lpcs ls) ++ behindS at_ (at_ + (n : Int)) (lpcs ls)) = HH at *
        generalize layS at_ bs (aheadS at_ (lpcs ls)) (behindS at_ (at_ + (n : Int)) (lpcs ls)) = ps' at *
        by_cases c4 : 4194304 < HH + n
        · rw [if_pos c4]
          have c4' : (4194304 : Int) < (HH : Int) + (n : Int) := by omega
          clear hlay
          go_enter Try.func40, Try.ntmps40
          go_wp2_with fail
          refine Calls.mono hcl.out ?_
          rintro e w1 ⟨A1, k1, rfl, hO1, hb1⟩
          have hheld := box (rheld_any (c := k1) hO1.row (Nat.le_refl _) rfl (by omega) (by rw [hHe]; omega))
          rw [hHe] at hheld
          replace hb1 := box hb1
          replace hO1 := box hO1
          clear hcl
          go_wp2_with fail
          refine Calls.mono hheld.out ?_
          rintro e w2 ⟨rfl, rfl⟩
          go_wp2_with fail
          go_ret
          exact ⟨rfl, hS.out.after hb1.out⟩
        · rw [if_neg c4]
          have c4' : ¬ (4194304 : Int) < (HH : Int) + (n : Int) := by omega
          go_enter Try.func40, Try.ntmps40
          go_wp2_with fail
          refine Calls.mono hcl.out ?_
          rintro e w1 ⟨A1, k1, rfl, hO1, hb1⟩
          have hheld := box (rheld_any (c := k1) hO1.row (Nat.le_refl _) rfl (by omega) (by rw [hHe]; omega))
          rw [hHe] at hheld
          replace hb1 := box hb1
          replace hO1 := box hO1
          clear hcl
          go_wp2_with fail
          refine Calls.mono hheld.out ?_
          rintro e w2 ⟨rfl, rfl⟩
          go_wp2_with fail
          refine Calls.mono (hlay.out _ hb1.out (by omega)) ?_
          rintro e w3 ⟨rfl, hL⟩
          have hfin := hL.after (N' := max N (at_ + (n : Int))) hS.out hb1.out hfC.out hfE.out (by omega) (by omega) (by have := hfH.out; omega)
          obtain ⟨A5, c5, ls5, hg5, -⟩ := hL
          have q1 : w3.cell? ⟨g, 1, none⟩ = some (.int .i64 N) := cell_of_heap hg5 rfl
          have f1 : w3.frozen? ⟨g, 1, none⟩ = false := frozen_of_heap hg5
          have hgl3 := lt_of_heap hg5
          replace hfin := box hfin
          replace hg5 := box hg5
          clear hlay g1
          go_wp2_with fail
          go_ret
          exact ⟨rfl, hfin.out⟩

set_option maxHeartbeats 1000000 in
theorem rcut_any {w : World} {G : Nat → Prop} {g : Nat} {ls : List Lp} {N size : Int} (h : RSpan w G g ls N) :
    Calls Try.prog 42 #[.pointer (some ⟨g, 0, none⟩), .int .i64 size] w fun e w' => e = .returned (.int .i64 (cutOf (lpcs ls) N size).1) ∧ AfterR w G g (cutOf (lpcs ls) N size).2.1 (cutOf (lpcs ls) N size).2.2 w' := by
  obtain ⟨A, c, ht, hO, hF⟩ := h.top
  have g1 : w.cell? ⟨g, 1, none⟩ = some (.int .i64 N) := cell_of_heap ht rfl
  have f1 : w.frozen? ⟨g, 1, none⟩ = false := frozen_of_heap ht
  have hh := box h
  unfold cutOf
  by_cases c1 : size < 0
  · rw [if_pos c1]
    clear h ht hO hF
    go_enter Try.func42, Try.ntmps42
    go_wp2
    go_ret
    exact ⟨rfl, hh.out.after (Below.refl _ _)⟩
  · rw [if_neg c1]
    have c1' : 0 ≤ size := by omega
    by_cases c2 : 1073741824 < size
    · rw [if_pos c2]
      clear h ht hO hF
      go_enter Try.func42, Try.ntmps42
      go_wp2
      go_ret
      exact ⟨rfl, hh.out.after (Below.refl _ _)⟩
    · rw [if_neg c2]
      by_cases c3 : size < N
      · rw [if_pos c3]
        have hN1 := h.n1
        have hcl := box (taken_any h c1' c3 (by omega))
        have htk := box (taken_held (fr := size) (tt := N) h.chain c3)
        have hok := box (fun p (hp : p ∈ ltaken size N ls) => (show LpOk w G p by
          obtain ⟨q, hq, hs⟩ := ltaken_sub hp fun q hq => (h.pc_bd hq).2.2.2.1
          exact hs.ok (h.ok q hq)))
        replace ht := box ht
        clear h hO hF c1
        go_enter Try.func42, Try.ntmps42
        go_wp2_with fail
        refine hcl.out.mono ?_
        rintro e w1 ⟨A1, k1, rfl, hO1, hb1⟩
        have ht1 := (hb1.block g (lt_of_heap ht.out)).trans ht.out
        have g0' : w1.cell? ⟨g, 0, none⟩ = some (.slice A ls.length c) := cell_of_heap ht1 rfl
        have g1' : w1.cell? ⟨g, 1, none⟩ = some (.int .i64 N) := cell_of_heap ht1 rfl
        have f0' : w1.frozen? ⟨g, 0, none⟩ = false := frozen_of_heap ht1
        have f1' : w1.frozen? ⟨g, 1, none⟩ = false := frozen_of_heap ht1
        have hgl : g < w1.heap.size := lt_of_heap ht1
        replace ht1 := box ht1
        replace hO1 := box hO1
        replace hb1 := box hb1
        clear hcl g1 f1
        go_wp2
        go_ret
        refine ⟨rfl, ?_⟩
        have hs := hh.out
        rw [← htk.out]
        refine hs.remake hb1.out (set_chg.trans set_chg (fun _ _ h => h)) (block_set (block_set ht1.out _) _) (.inl hO1.out) (fun p hp => (hok.out p hp).grow hs.lt hb1.out) ?_ ?_ c1' (by omega) ?_
        · rw [htk.out]; exact cut_chain hs.chain c3 (by omega)
        · rw [htk.out, behind_none hs.ends, List.append_nil]; exact ahead_ends hs.chain
        · rw [htk.out]; exact Nat.le_trans (cut_held c3) hs.held
      · rw [if_neg c3]
        replace ht := box ht
        clear h hO hF c1
        go_enter Try.func42, Try.ntmps42
        go_wp2
        go_ret
        have hs := hh.out
        obtain ⟨A', c', ht', hO', hF'⟩ := hs.top
        refine ⟨rfl, hs.remake (Below.refl _ _) set_chg (block_set ht' _) (.inr ⟨hO', hF'⟩) (fun p hp => (hs.ok p hp).grow hs.lt (Below.refl _ _)) hs.chain (fun p hp => ?_) c1' (by omega) hs.held⟩
        have := hs.ends p hp
        omega

set_option maxHeartbeats 1000000 in
theorem rpunch_any {w : World} {G : Nat → Prop} {g : Nat} {ls : List Lp} {N at_ n : Int} (h : RSpan w G g ls N) :
    Calls Try.prog 44 #[.pointer (some ⟨g, 0, none⟩), .int .i64 at_, .int .i64 n] w fun e w' => e = .returned (.int .i64 (punchOf (lpcs ls) N at_ n).1) ∧ AfterR w G g (punchOf (lpcs ls) N at_ n).2.1 (punchOf (lpcs ls) N at_ n).2.2 w' := by
  obtain ⟨A, c, ht, hO, hF⟩ := h.top
  have g1 : w.cell? ⟨g, 1, none⟩ = some (.int .i64 N) := cell_of_heap ht rfl
  have hh := box h
  unfold punchOf
  by_cases c1 : at_ < 0 ∨ n < 0
  · rw [if_pos c1]
    clear h ht hO hF
    by_cases c2 : at_ < 0
    · clear c1
      go_enter Try.func44, Try.ntmps44
      go_wp2
      go_ret
      exact ⟨rfl, hh.out.after (Below.refl _ _)⟩
    · have c3 : n < 0 := by omega
      clear c1
      go_enter Try.func44, Try.ntmps44
      go_wp2
      go_ret
      exact ⟨rfl, hh.out.after (Below.refl _ _)⟩
  · rw [if_neg c1]
    have c2 : 0 ≤ at_ := by omega
    have c3 : 0 ≤ n := by omega
    by_cases c4 : at_ < N ∧ 0 < n
    · rw [if_pos c4]
      obtain ⟨c5, c6⟩ := c4
      have e6 : (n == 0) = false := by rw [beq_eq_false_iff_ne]; omega
      have hN1 := h.n1
      obtain ⟨m, hm⟩ : ∃ m, min n (N - at_) = m := ⟨_, rfl⟩
      have hm1 : 0 < m := by omega
      have hm2 : at_ + m ≤ N := by omega
      rw [hm]
      have hcl := box (taken_any h c2 (show at_ < at_ + m by omega) (by omega))
      have htk := box (taken_held (fr := at_) (tt := at_ + m) h.chain (by omega))
      have hok := box (fun p (hp : p ∈ ltaken at_ (at_ + m) ls) => (show LpOk w G p by
        obtain ⟨q, hq, hs⟩ := ltaken_sub hp fun q hq => (h.pc_bd hq).2.2.2.1
        exact hs.ok (h.ok q hq)))
      replace ht := box ht
      clear h hO hF c1
      go_enter Try.func44, Try.ntmps44
      go_wp2_with fail
      refine hcl.out.mono ?_
      rintro e w1 ⟨A1, k1, rfl, hO1, hb1⟩
      have ht1 := (hb1.block g (lt_of_heap ht.out)).trans ht.out
      have g0' : w1.cell? ⟨g, 0, none⟩ = some (.slice A ls.length c) := cell_of_heap ht1 rfl
      have f0' : w1.frozen? ⟨g, 0, none⟩ = false := frozen_of_heap ht1
      replace ht1 := box ht1
      replace hO1 := box hO1
      replace hb1 := box hb1
      clear hcl g1
      go_wp2
      go_ret
      refine ⟨rfl, ?_⟩
      have hs := hh.out
      rw [← htk.out]
      refine hs.remake hb1.out set_chg (block_set ht1.out _) (.inl hO1.out) (fun p hp => (hok.out p hp).grow hs.lt hb1.out) ?_ ?_ hs.n0 hs.n1 ?_
      · rw [htk.out]; exact cut_chain hs.chain (by omega) (by omega)
      · rw [htk.out]; exact cut_ends hs.chain hs.ends (by omega)
      · rw [htk.out]; exact Nat.le_trans (cut_held (by omega)) hs.held
    · rw [if_neg c4]
      clear h ht hO hF c1
      by_cases c5 : at_ < N
      · have c6 : n = 0 := by omega
        subst c6
        clear c4
        go_enter Try.func44, Try.ntmps44
        go_wp2
        go_ret
        exact ⟨rfl, hh.out.after (Below.refl _ _)⟩
      · clear c4
        go_enter Try.func44, Try.ntmps44
        go_wp2
        go_ret
        exact ⟨rfl, hh.out.after (Below.refl _ _)⟩
end Go.Proofs.Ytajfamjdfhjdeaa
