/- held; Cut; Punch. -/
import Derived.Test.YtajfamjdfhjdeaaReplace
namespace Go.Proofs.Ytajfamjdfhjdeaa
open Go.RowKit
attribute [local go_sem ↓] Go.wp_at_zero Go.wp_at_succ

theorem heldS_take {ps : List Pc} {k : Nat} {p : Pc} (h : ps[k]? = some p) : heldS (ps.take (k + 1)) = heldS (ps.take k) + p.2.length := by
  rw [List.take_add_one, h, heldS_append]
  simp [heldS]
theorem heldS_take_le (ps : List Pc) (k : Nat) : heldS (ps.take k) ≤ heldS ps := by
  conv => rhs; rw [← List.take_append_drop k ps, heldS_append]
  omega

theorem held_any {w : World} {B n c : Nat} {A : Option Addr} {ls : List Lp} (h : RowL w B A ls) (hB : B ≤ w.heap.size) (hn : ls.length = n) (hn2 : n ≤ 4294967296) (hh : heldS (lpcs ls) ≤ 4294967296) :
    Calls Try.prog 58 #[.slice A n c] w fun e w' => e = .returned (.int .i64 (heldS (lpcs ls) : Int)) ∧ Below w.heap.size w w' := by
  replace hn := box hn
  have hR := box h
  have hhB := box (fun k => Nat.le_trans (heldS_take_le (lpcs ls) k) hh)
  clear h hh
  go_enter Try.func58, Try.ntmps58
  go_wp2
  go_loopw [3, 8] (fun s3 s8 wr => ∃ k : Nat, k ≤ n ∧ s8 = .int .i64 (k : Int) ∧ s3 = .int .i64 (heldS ((lpcs ls).take k) : Int) ∧ Box (Below w.heap.size w wr)) (fun _ s8 _ => n - (intOf s8).toNat)
  case atStart => exact ⟨0, Nat.zero_le _, rfl, rfl, ⟨Below.refl _ _⟩⟩
  case round =>
    obtain ⟨k, hk, rfl, rfl, hb⟩ := hrel
    by_cases hlt : k < n
    · obtain ⟨b, o, rfl, hbB, hc⟩ := hR.out (by rw [hn.out]; omega)
      obtain ⟨p, hp⟩ : ∃ p, ls[k]? = some p := ⟨_, List.getElem?_eq_getElem (by rw [hn.out]; exact hlt)⟩
      obtain ⟨x0, x1⟩ := hc k p hp
      have y0 := (hb.out.cell (p := ⟨b, o + k * 2, none⟩) (by show b < _; omega)).trans x0
      have y1 := (hb.out.cell (p := ⟨b, o + k * 2 + 1, none⟩) (by show b < _; omega)).trans x1
      have hp2 : (lpcs ls)[k]? = some (lpc p) := by unfold lpcs; rw [List.getElem?_map, hp]; rfl
      have hs := box (heldS_take hp2)
      have hle := hhB.out (k + 1)
      rw [heldS_take hp2] at hle
      have hle2 : heldS ((lpcs ls).take k) + p.2.2.2.length ≤ 4294967296 := hle
      obtain ⟨pa, pA, pc, pz⟩ := p
      have hb2 := box (hb.out.alloc hb.out.size (.cells #[.int .i64 pa, .slice pA pz.length pc] 122))
      simp only at y0 y1 hle2
      clear x0 x1 hc hp hp2 hle
      generalize heldS ((lpcs ls).take k) = H at *
      go_wp2
      go_roundw
      case measure => simp [intOf]; omega
      case rel => exact ⟨k + 1, by omega, by go_num, by rw [hs.out]; show Value.int .i64 ((H : Int) + (pz.length : Int)) = Value.int .i64 ((H + pz.length : Nat) : Int); rw [Int.natCast_add], hb2⟩
    · obtain rfl : k = n := by omega
      go_wp2
      go_ret
      exact ⟨ret_int (by rw [List.take_of_length_le (by rw [lpcs_len, hn.out]; exact Nat.le_refl _)]), hb.out⟩

/-- What a call that turns a span leaves. -/
def After (w : World) (F : Nat → Prop) (g : Nat) (ps : List Pc) (N : Int) (w' : World) : Prop :=
  ∃ F' ls, SpanO w' F' g ls N ∧ lpcs ls = ps ∧ Chg F w w' ∧ ∀ k, F' k → F k ∨ w.heap.size ≤ k

theorem SpanO.gBlk {w : World} {F : Nat → Prop} {g : Nat} {ls : List Lp} {N : Int} (h : SpanO w F g ls N) : ∃ cs, w.heap[g]? = some (.cells cs 120) := by
  obtain ⟨A, c, ht, _⟩ := h.top
  exact ⟨_, ht⟩
theorem not_g {w : World} {g k : Nat} {cs cur : Array Value} {t t' : TypeId} (hg : w.heap[g]? = some (.cells cs t)) (hk : w.heap[k]? = some (.cells cur t' (0, 0))) (hne : t ≠ t') : k ≠ g := by
  rintro rfl
  rw [hg] at hk
  cases hk
  exact hne rfl
theorem SpanO.same {w w' : World} {F : Nat → Prop} {g : Nat} {ls : List Lp} {N : Int} (h : SpanO w F g ls N) (hb : Below w.heap.size w w') : SpanO w' F g ls N := by
  obtain ⟨A, c, ht, hO, hF⟩ := h.top
  refine ⟨⟨A, c, (hb.block g (lt_of_heap ht)).trans ht, OwnP.grown hO hb, hF⟩, h.fg, fun k hk => Nat.lt_of_lt_of_le (h.lt k hk) hb.size, fun p hp => (h.ok p hp).keep (fun _ hk => hk) (fun k _ hk _ => hb.block k (h.lt k hk)), h.apart, h.chain, h.ends, h.n0, h.n1, h.held⟩
theorem SpanO.after {w w' : World} {F : Nat → Prop} {g : Nat} {ls : List Lp} {N : Int} (h : SpanO w F g ls N) (hb : Below w.heap.size w w') : After w F g (lpcs ls) N w' :=
  ⟨F, ls, h.same hb, rfl, Chg.new hb, fun _ hk => .inl hk⟩

theorem SpanO.remake {w w1 w2 : World} {F : Nat → Prop} {g c : Nat} {A : Option Addr} {ls ls' : List Lp} {N N' : Int} (h : SpanO w F g ls N) (hc1 : Chg F w w1) (hc : Chg (fun k => k = g) w1 w2)
    (hg2 : w2.heap[g]? = some (.cells #[.slice A ls'.length c, .int .i64 N'] 120)) (hg1 : ∃ cs, w1.heap[g]? = some (.cells cs 120))
    (hO : OwnP w1 0 A ls'.length c ls') (hA : ∀ k, blkOf A = some k → F k ∨ w.heap.size ≤ k) (hok : ∀ p ∈ ls', LpOk w1 (fun k => F k ∨ (w.heap.size ≤ k ∧ k < w1.heap.size)) p) (hap : ls'.Pairwise Apart)
    (hch : Chain 0 (lpcs ls')) (he : Ends N' (lpcs ls')) (h0 : 0 ≤ N') (h1 : N' ≤ 1073741824) (hh : heldS (lpcs ls') ≤ 4194304) : After w F g (lpcs ls') N' w2 := by
  obtain ⟨cs, hg1⟩ := hg1
  have hsz := hc.size
  refine ⟨fun k => F k ∨ (w.heap.size ≤ k ∧ k < w1.heap.size), ls', ⟨⟨A, c, hg2, ?_, ?_⟩, .inl h.fg, ?_, ?_, hap, hch, he, h0, h1, hh⟩, rfl, ?_, ?_⟩
  · refine OwnP.keep hO fun k hk => ?_
    obtain ⟨_, hlt, _, cur, hk2⟩ := OwnP.blk hO hk
    exact hc.block k hlt (not_g hg1 hk2 (by decide))
  · intro k hk
    have hk' := hk
    rw [own_blk] at hk
    rcases hA k hk with h | h
    · exact .inl h
    · exact .inr ⟨h, (OwnP.blk hO hk').2.1⟩
  · intro k hk
    rcases hk with hk | hk
    · have := h.lt k hk; have := hc1.size; omega
    · omega
  · intro p hp
    refine (hok p hp).keep (fun _ hk => hk) fun k cur _ hk => ?_
    exact hc.block k (lt_of_heap hk) (not_g hg1 hk (by decide))
  · exact hc1.trans hc (fun k _ hk => by rw [hk]; exact h.fg)
  · intro k hk
    rcases hk with hk | hk
    · exact .inl hk
    · exact .inr hk.1
end Go.Proofs.Ytajfamjdfhjdeaa
