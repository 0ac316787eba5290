/- Cut, Punch. -/
import Derived.Test.YtajfamjdfhjdeaaHeld
namespace Go.Proofs.Ytajfamjdfhjdeaa
open Go.RowKit
attribute [local go_sem ↓] Go.wp_at_zero Go.wp_at_succ

/-- What Cut does: its answer, the pieces, the size. -/
def cutOf (ps : List Pc) (N size : Int) : Int × List Pc × Int :=
  if size < 0 then (2, ps, N) else if 1073741824 < size then (3, ps, N) else (0, if size < N then aheadS size ps ++ behindS size N ps else ps, size)
def punchOf (ps : List Pc) (N at_ n : Int) : Int × List Pc × Int :=
  if at_ < 0 ∨ n < 0 then (2, ps, N) else (0, if at_ < N ∧ 0 < n then aheadS at_ ps ++ behindS at_ (at_ + min n (N - at_)) ps else ps, N)

theorem set_chg {w : World} {g o : Nat} {v : Value} : Chg (fun k => k = g) w (w.setCell ⟨g, o, none⟩ v) := Chg.setCell (F := fun k => k = g) (p := ⟨g, o, none⟩) (Chg.refl _ w) (fun _ => rfl) v
theorem cut_ends {fr to N : Int} {ps : List Pc} {lo : Int} (h : Chain lo ps) (he : Ends N ps) (h1 : fr ≤ N) : Ends N (aheadS fr ps ++ behindS fr to ps) := by
  intro p hp
  rcases List.mem_append.1 hp with hp | hp
  · have := ahead_ends (fr := fr) h p hp
    omega
  · exact behind_ends he p hp
theorem cut_held {fr to : Int} {ps : List Pc} (h : fr < to) : heldS (aheadS fr ps ++ behindS fr to ps) ≤ heldS ps := by
  rw [heldS_append]
  rcases held_cut fr to ps with h1 | h1
  · exact h1
  · omega
theorem LpOk.grow {w w1 : World} {F : Nat → Prop} {p : Lp} (h : LpOk w F p) (hlt : ∀ k, F k → k < w.heap.size) (hb : Below w.heap.size w w1) : LpOk w1 (fun k => F k ∨ (w.heap.size ≤ k ∧ k < w1.heap.size)) p :=
  h.keep (fun _ hk => .inl hk) (fun k _ hk _ => hb.block k (hlt k hk))

set_option maxHeartbeats 1000000 in
theorem cut_any {w : World} {F : Nat → Prop} {g : Nat} {ls : List Lp} {N size : Int} (h : SpanO w F g ls N) :
    Calls Try.prog 41 #[.pointer (some ⟨g, 0, none⟩), .int .i64 size] w fun e w' => e = .returned (.int .i64 (cutOf (lpcs ls) N size).1) ∧ After w F g (cutOf (lpcs ls) N size).2.1 (cutOf (lpcs ls) N size).2.2 w' := by
  obtain ⟨A, c, ht, hO, hF⟩ := h.top
  have g1 : w.cell? ⟨g, 1, none⟩ = some (.int .i64 N) := cell_of_heap ht rfl
  have f1 : w.frozen? ⟨g, 1, none⟩ = false := frozen_of_heap ht
  have hh := box h
  unfold cutOf
  by_cases c1 : size < 0
  · rw [if_pos c1]
    clear h ht hO hF
    go_enter Try.func41, Try.ntmps41
    go_wp2
    go_ret
    exact ⟨rfl, hh.out.after (Below.refl _ _)⟩
  · rw [if_neg c1]
    have c1' : 0 ≤ size := by omega
    by_cases c2 : 1073741824 < size
    · rw [if_pos c2]
      clear h ht hO hF
      go_enter Try.func41, Try.ntmps41
      go_wp2
      go_ret
      exact ⟨rfl, hh.out.after (Below.refl _ _)⟩
    · rw [if_neg c2]
      by_cases c3 : size < N
      · rw [if_pos c3]
        have hN1 := h.n1
        have hcl := box (cleared_any h c1' c3 (by omega))
        replace ht := box ht
        clear h hO hF c1
        go_enter Try.func41, Try.ntmps41
        go_wp2_with fail
        refine hcl.out.mono ?_
        rintro e w1 ⟨A1, k1, ls1, j1, rfl, hj1, hl1, hO1, hok1, hap1, hb1⟩
        have ht1 := (hb1.block g (lt_of_heap ht.out)).trans ht.out
        have g0' : w1.cell? ⟨g, 0, none⟩ = some (.slice A ls.length c) := cell_of_heap ht1 rfl
        have g1' : w1.cell? ⟨g, 1, none⟩ = some (.int .i64 N) := cell_of_heap ht1 rfl
        have f0' : w1.frozen? ⟨g, 0, none⟩ = false := frozen_of_heap ht1
        have f1' : w1.frozen? ⟨g, 1, none⟩ = false := frozen_of_heap ht1
        have hgl : g < w1.heap.size := lt_of_heap ht1
        replace ht1 := box ht1
        replace hl1 := box hl1
        replace hj1 := box hj1
        replace hO1 := box hO1
        replace hok1 := box hok1
        replace hap1 := box hap1
        replace hb1 := box hb1
        clear hcl g1 f1
        go_wp2
        go_ret
        refine ⟨rfl, ?_⟩
        rw [← hl1.out]
        have hs := hh.out
        refine hs.remake (Chg.new hb1.out) (set_chg.trans set_chg (fun _ _ h => h)) (block_set (block_set ht1.out _) _) ⟨_, ht1.out⟩ (OwnP.base hO1.out fun _ _ => Nat.zero_le _) ?_ (fun p hp => (hok1.out p hp).grow hs.lt hb1.out) hap1.out ?_ ?_ c1' (by omega) ?_
        · intro k hk
          rw [← own_blk A1 ls1.length k1] at hk
          exact .inr (OwnP.blk hO1.out hk).1
        · rw [hl1.out]; exact cut_chain hs.chain c3 (by omega)
        · rw [hl1.out, behind_none hs.ends, List.append_nil]; exact ahead_ends hs.chain
        · rw [hl1.out]; exact Nat.le_trans (cut_held c3) hs.held
      · rw [if_neg c3]
        replace ht := box ht
        clear h hO hF c1
        go_enter Try.func41, Try.ntmps41
        go_wp2
        go_ret
        have hs := hh.out
        obtain ⟨A', c', ht', hO', hF'⟩ := hs.top
        refine ⟨rfl, hs.remake (Chg.refl _ _) set_chg (block_set ht' _) ⟨_, ht'⟩ hO' (fun k hk => .inl (hF' k (by rw [own_blk]; exact hk))) (fun p hp => (hs.ok p hp).grow hs.lt (Below.refl _ _)) hs.apart hs.chain (fun p hp => ?_) c1' (by omega) hs.held⟩
        have := hs.ends p hp
        omega

set_option maxHeartbeats 1000000 in
theorem punch_any {w : World} {F : Nat → Prop} {g : Nat} {ls : List Lp} {N at_ n : Int} (h : SpanO w F g ls N) :
    Calls Try.prog 43 #[.pointer (some ⟨g, 0, none⟩), .int .i64 at_, .int .i64 n] w fun e w' => e = .returned (.int .i64 (punchOf (lpcs ls) N at_ n).1) ∧ After w F g (punchOf (lpcs ls) N at_ n).2.1 (punchOf (lpcs ls) N at_ n).2.2 w' := by
  obtain ⟨A, c, ht, hO, hF⟩ := h.top
  have g1 : w.cell? ⟨g, 1, none⟩ = some (.int .i64 N) := cell_of_heap ht rfl
  have hh := box h
  unfold punchOf
  by_cases c1 : at_ < 0 ∨ n < 0
  · rw [if_pos c1]
    clear h ht hO hF
    by_cases c2 : at_ < 0
    · clear c1
      go_enter Try.func43, Try.ntmps43
      go_wp2
      go_ret
      exact ⟨rfl, hh.out.after (Below.refl _ _)⟩
    · have c3 : n < 0 := by omega
      clear c1
      go_enter Try.func43, Try.ntmps43
      go_wp2
      go_ret
      exact ⟨rfl, hh.out.after (Below.refl _ _)⟩
  · rw [if_neg c1]
    have c2 : 0 ≤ at_ := by omega
    have c3 : 0 ≤ n := by omega
    by_cases c4 : at_ < N ∧ 0 < n
    · rw [if_pos c4]
      obtain ⟨c5, c6⟩ := c4
      have hN1 := h.n1
      obtain ⟨m, hm⟩ : ∃ m, min n (N - at_) = m := ⟨_, rfl⟩
      have hm1 : 0 < m := by omega
      have hm2 : at_ + m ≤ N := by omega
      rw [hm]
      have hcl := box (cleared_any h c2 (show at_ < at_ + m by omega) (by omega))
      replace ht := box ht
      clear h hO hF c1
      go_enter Try.func43, Try.ntmps43
      go_wp2_with fail
      refine hcl.out.mono ?_
      rintro e w1 ⟨A1, k1, ls1, j1, rfl, hj1, hl1, hO1, hok1, hap1, hb1⟩
      have ht1 := (hb1.block g (lt_of_heap ht.out)).trans ht.out
      have g0' : w1.cell? ⟨g, 0, none⟩ = some (.slice A ls.length c) := cell_of_heap ht1 rfl
      have f0' : w1.frozen? ⟨g, 0, none⟩ = false := frozen_of_heap ht1
      replace ht1 := box ht1
      replace hl1 := box hl1
      replace hj1 := box hj1
      replace hO1 := box hO1
      replace hok1 := box hok1
      replace hap1 := box hap1
      replace hb1 := box hb1
      clear hcl g1
      go_wp2
      go_ret
      refine ⟨rfl, ?_⟩
      rw [← hl1.out]
      have hs := hh.out
      refine hs.remake (Chg.new hb1.out) set_chg (block_set ht1.out _) ⟨_, ht1.out⟩ (OwnP.base hO1.out fun _ _ => Nat.zero_le _) ?_ (fun p hp => (hok1.out p hp).grow hs.lt hb1.out) hap1.out ?_ ?_ hs.n0 hs.n1 ?_
      · intro k hk
        rw [← own_blk A1 ls1.length k1] at hk
        exact .inr (OwnP.blk hO1.out hk).1
      · rw [hl1.out]; exact cut_chain hs.chain (by omega) (by omega)
      · rw [hl1.out]; exact cut_ends hs.chain hs.ends (by omega)
      · rw [hl1.out]; exact Nat.le_trans (cut_held (by omega)) hs.held
    · rw [if_neg c4]
      clear h ht hO hF c1
      by_cases c5 : at_ < N
      · have c6 : ¬ 0 < n := by omega
        clear c4
        go_enter Try.func43, Try.ntmps43
        go_wp2
        go_ret
        exact ⟨rfl, hh.out.after (Below.refl _ _)⟩
      · clear c4
        go_enter Try.func43, Try.ntmps43
        go_wp2
        go_ret
        exact ⟨rfl, hh.out.after (Below.refl _ _)⟩
end Go.Proofs.Ytajfamjdfhjdeaa
