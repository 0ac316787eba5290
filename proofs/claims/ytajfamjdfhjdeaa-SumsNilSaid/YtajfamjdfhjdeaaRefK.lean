/- The reference's bytes in memory: rows of its pieces, owned; (Piece).end; held. -/
import Derived.Test.YtajfamjdfhjdeaaRefL
import Derived.Laws.Tables
namespace Go.Proofs.Ytajfamjdfhjdeaa
open Go.RowKit
attribute [local go_sem ↓] Go.wp_at_zero Go.wp_at_succ

@[go_sem] theorem rpc_build (x : Int) (A : Option Addr) (n c : Nat) (w : World) : (Instr.build 184 #[(0, .int .i64 x), (1, .slice A n c)]).run Try.prog w = .ok (.agg #[.int .i64 x, .slice A n c]) w := run_build w 184 _ _ (by kernel_rfl)
@[go_sem] theorem rpc_build1 (x : Int) (w : World) : (Instr.build 184 #[(0, .int .i64 x)]).run Try.prog w = .ok (.agg #[.int .i64 x, .slice none 0 0]) w := run_build w 184 _ _ (by kernel_rfl)

/-- The call owns a row of the reference's pieces. -/
abbrev OwnR (w : World) (base : Nat) (A : Option Addr) (n c : Nat) (l : List Lp) : Prop := w.ownsRow base 184 2 (.slice A n c) n (lcells l)
theorem OwnR.len {w : World} {base n c : Nat} {A : Option Addr} {l : List Lp} (h : OwnR w base A n c l) : l.length = n := by
  have := h.1
  rw [lcells_len] at this
  omega
theorem OwnR.grown {w w' : World} {base n c : Nat} {A : Option Addr} {l : List Lp} (h : OwnR w base A n c l) (hb : Below w.heap.size w w') : OwnR w' base A n c l :=
  h.kept (row := none) ⟨hb.os, hb.tape, hb.output, hb.size, fun k hk _ => hb.block k hk⟩ (by cases (Value.slice A n c).ownBlock <;> simp)
theorem OwnR.keep {w w' : World} {base n c : Nat} {A : Option Addr} {l : List Lp} (h : OwnR w base A n c l) (hk : ∀ k, (Value.slice A n c).ownBlock = some k → w'.heap[k]? = w.heap[k]?) : OwnR w' base A n c l := by
  refine ⟨h.1, ?_⟩
  rcases h.2 with h | ⟨g, cap, cur, h1, h2, h3, h4⟩
  · exact .inl h
  · refine .inr ⟨g, cap, cur, h1, h2, (hk g ?_).trans h3, h4⟩
    rw [h1]
    rfl
theorem OwnR.base {w : World} {base base' n c : Nat} {A : Option Addr} {l : List Lp} (h : OwnR w base A n c l) (hb : ∀ k, (Value.slice A n c).ownBlock = some k → base' ≤ k) : OwnR w base' A n c l := by
  refine ⟨h.1, ?_⟩
  rcases h.2 with h | ⟨g, cap, cur, h1, h2, h3⟩
  · exact .inl h
  · exact .inr ⟨g, cap, cur, h1, hb g (by rw [h1]; rfl), h3⟩
theorem OwnR.blk {w : World} {base n c : Nat} {A : Option Addr} {l : List Lp} (h : OwnR w base A n c l) {k : Nat} (hk : (Value.slice A n c).ownBlock = some k) : base ≤ k ∧ k < w.heap.size ∧ A = some ⟨k, 0, none⟩ ∧ ∃ cur, w.heap[k]? = some (.cells cur 184 (0, 0)) := by
  rcases h.2 with ⟨h1, _⟩ | ⟨g, cap, cur, h1, h2, h3, _⟩
  · rw [h1] at hk; cases hk
  · rw [h1] at hk
    cases hk
    cases h1
    exact ⟨h2, lt_of_heap h3, rfl, cur, h3⟩
/-- The cells of piece i. -/
theorem OwnR.cells2 {w : World} {base n c i : Nat} {A : Option Addr} {l : List Lp} {p : Lp} (h : OwnR w base A n c l) (hp : l[i]? = some p) : ∃ g, A = some ⟨g, 0, none⟩ ∧ base ≤ g ∧ g < w.heap.size ∧
    w.cell? ⟨g, i * 2, none⟩ = some (.int .i64 p.1) ∧ w.cell? ⟨g, i * 2 + 1, none⟩ = some (.slice p.2.1 p.2.2.2.length p.2.2.1) ∧ ∀ j, w.frozen? ⟨g, j, none⟩ = false := by
  have hl := h.len
  have hi := (List.getElem?_eq_some_iff.1 hp).1
  obtain ⟨g, cap, hv, hb, hlt⟩ := h.form (by omega)
  cases hv
  have hg := lcells_get hp
  refine ⟨g, rfl, hb, hlt, ?_, ?_, fun j => World.ownsRow.frozenAt h j⟩
  · rw [World.ownsRow.cellAt h (i * 2) (by omega)]
    exact hg.1
  · rw [World.ownsRow.cellAt h (i * 2 + 1) (by omega)]
    exact hg.2

theorem rpc_info : (Try.prog.info? 184).map (fun i => (i.zero, i.size, i.bytes)) = some (some (.agg #[.int .i64 0, .slice none 0 0]), 2, 32) := by kernel_rfl

theorem appR (w : World) {ops : Array Oper} {rest : List Oper} {o : Oper} {a : Act} {Q : Exit → Act → World → Prop} (s x : Operand) (base : Nat) {A : Option Addr} {n c : Nat} {xs : List Lp}
    {B : Nat} {A1 : Option Addr} {m c1 : Nat} {zs : List Lp} (hown : OwnR w base A n c xs) (hr : Src w B 2 A1 m (lcells zs)) (hgd : o.guard = none)
    (ho : o.op = .call { callee := .builtin .append, args := #[s, x], argTypes := #[106, 106] })
    (hs : a.eval s = .slice A n c) (hx : a.eval x = .slice A1 m c1) (hb : n + m ≤ 4294967296) (hbase : base ≤ w.heap.size)
    (h : ∀ A' c' w', Box (OwnR w' base A' (n + m) c' (xs ++ zs)) → Box (w.grownBy w' (Value.slice A n c).ownBlock) → Box ((Value.slice A' (n + m) c').ownBlock = (Value.slice A n c).ownBlock ∨ (Value.slice A' (n + m) c').ownBlock = some w.heap.size) → wpList Try.prog ops Q rest (a.put o.dst (.slice A' (n + m) c')) w') :
    wpList Try.prog ops Q (o :: rest) a w := by
  obtain ⟨i0, hi0, hz⟩ := Option.map_eq_some_iff.1 rpc_info
  simp only [Prod.mk.injEq] at hz
  refine wpList_app w hgd s x 106 ho base 184 i0 (.agg #[.int .i64 0, .slice none 0 0]) 2 32 Try.underlying106 hi0 hz.1 hz.2.1 hz.2.2 rfl (by omega) _ n (lcells xs) hs hown B A1 m c1 (lcells zs) hx hr (lcells_one _) (by simp only [maxLen]; omega) (by omega) hbase ?_
  intro A' c' w' L
  exact h A' c' w' ⟨by have := L.1; rwa [← lcells_append] at this⟩ ⟨L.2.1⟩ ⟨L.2.2⟩

theorem stepR (w : World) {ops : Array Oper} {o : Oper} {a : Act} {K : Act → World → Prop} {Q : Exit → Act → World → Prop} {E : Prop} (s x : Operand) (base : Nat) {A : Option Addr} {n c : Nat} {xs : List Lp}
    {B : Nat} {A1 : Option Addr} {m c1 : Nat} {zs : List Lp} (hown : OwnR w base A n c xs) (hr : Src w B 2 A1 m (lcells zs)) (hgd : o.guard = none)
    (ho : o.op = .call { callee := .builtin .append, args := #[s, x], argTypes := #[106, 106] })
    (hs : a.eval s = .slice A n c) (hx : a.eval x = .slice A1 m c1) (hb : n + m ≤ 4294967296) (hbase : base ≤ w.heap.size)
    (h : ∀ A' c' w', Box (OwnR w' base A' (n + m) c' (xs ++ zs)) → Box (w.grownBy w' (Value.slice A n c).ownBlock) → Box ((Value.slice A' (n + m) c').ownBlock = (Value.slice A n c).ownBlock ∨ (Value.slice A' (n + m) c').ownBlock = some w.heap.size) → K (a.put o.dst (.slice A' (n + m) c')) w') :
    if Region.wanted o (yielded ops a.tmps) = true then Oper.wp Try.prog o a w K Q else E := by
  obtain ⟨i0, hi0, hz⟩ := Option.map_eq_some_iff.1 rpc_info
  simp only [Prod.mk.injEq] at hz
  refine step_app w hgd s x 106 ho base 184 i0 (.agg #[.int .i64 0, .slice none 0 0]) 2 32 Try.underlying106 hi0 hz.1 hz.2.1 hz.2.2 rfl (by omega) _ n (lcells xs) hs hown B A1 m c1 (lcells zs) hx hr (lcells_one _) (by simp only [maxLen]; omega) (by omega) hbase ?_
  intro A' c' w' L
  exact h A' c' w' ⟨by have := L.1; rwa [← lcells_append] at this⟩ ⟨L.2.1⟩ ⟨L.2.2⟩

theorem OwnR.row {w : World} {base n c : Nat} {A : Option Addr} {l : List Lp} (h : OwnR w base A n c l) : RowL w w.heap.size A l := by
  intro hn
  have hl := h.len
  obtain ⟨g, cap, hv, _, hlt⟩ := h.form (by omega)
  cases hv
  refine ⟨g, 0, rfl, hlt, fun i p hp => ?_⟩
  obtain ⟨g', e, _, _, c1, c2, _⟩ := h.cells2 hp
  cases e
  rw [Nat.zero_add]
  exact ⟨c1, c2⟩
theorem src_rpiece (W : World) (x : Lp) (n : Nat) (hn : x.2.2.2.length = n) : Src (W.alloc (.cells #[.int .i64 x.1, .slice x.2.1 n x.2.2.1] 184)) (W.heap.size + 1) 2 (some ⟨W.heap.size, 0, none⟩) 1 (lcells [x]) := by
  subst hn
  exact Src.new W #[.int .i64 x.1, .slice x.2.1 x.2.2.2.length x.2.2.1] 184 1 2 rfl

theorem src_rpiece5 (W : World) (x : Lp) (n : Nat) (hn : x.2.2.2.length = n) (k : Nat) (hk : W.heap.size = k) : Src (W.alloc (.cells #[.int .i64 x.1, .slice x.2.1 n x.2.2.1] 184)) (k + 1) 2 (some ⟨k, 0, none⟩) 1 (lcells [x]) := by
  subst hk
  exact src_rpiece W x n hn

/-- The reference's bytes: their pieces lie in blocks of G. -/
structure RSpan (w : World) (G : Nat → Prop) (g : Nat) (ls : List Lp) (N : Int) : Prop where
  top : ∃ A c, w.heap[g]? = some (.cells #[.slice A ls.length c, .int .i64 N] 108) ∧ OwnR w 0 A ls.length c ls ∧ ∀ k, (Value.slice A ls.length c).ownBlock = some k → G k
  fg : G g
  lt : ∀ k, G k → k < w.heap.size
  ok : ∀ p ∈ ls, LpOk w G p
  chain : Chain 0 (lpcs ls)
  ends : Ends N (lpcs ls)
  n0 : 0 ≤ N
  n1 : N ≤ 1073741824
  held : heldS (lpcs ls) ≤ 4194304
/-- What a call that turns it leaves. -/
def AfterR (w : World) (G : Nat → Prop) (g : Nat) (ps : List Pc) (N : Int) (w' : World) : Prop :=
  ∃ G' ls, RSpan w' G' g ls N ∧ lpcs ls = ps ∧ Chg (fun k => k = g) w w' ∧ ∀ k, G' k → G k ∨ w.heap.size ≤ k

section
variable {w w' : World} {G : Nat → Prop} {g : Nat} {ls : List Lp} {N : Int}
theorem RSpan.keep (h : RSpan w G g ls N) (hs : w.heap.size ≤ w'.heap.size) (hk : ∀ k, G k → w'.heap[k]? = w.heap[k]?) : RSpan w' G g ls N := by
  obtain ⟨A, c, ht, hO, hG⟩ := h.top
  exact ⟨⟨A, c, (hk g h.fg).trans ht, OwnR.keep hO fun k hb => hk k (hG k hb), hG⟩, h.fg, fun k hg => Nat.lt_of_lt_of_le (h.lt k hg) hs, fun p hp => (h.ok p hp).keep (fun _ hk => hk) (fun k _ hg _ => hk k hg), h.chain, h.ends, h.n0, h.n1, h.held⟩
theorem RSpan.same (h : RSpan w G g ls N) (hb : Below w.heap.size w w') : RSpan w' G g ls N := h.keep hb.size fun k hk => hb.block k (h.lt k hk)
theorem RSpan.after (h : RSpan w G g ls N) (hb : Below w.heap.size w w') : AfterR w G g (lpcs ls) N w' := ⟨G, ls, h.same hb, rfl, Chg.new hb, fun _ hk => .inl hk⟩
theorem RSpan.count (h : RSpan w G g ls N) : ls.length ≤ 1073741825 := by
  have h1 := h.chain.count h.ends (Int.le_refl 0) h.n0
  have h2 := h.n1
  rw [lpcs_len] at h1
  omega
theorem RSpan.pc_bd (h : RSpan w G g ls N) {p : Lp} (hp : p ∈ ls) : 0 ≤ p.1 ∧ lEnd p ≤ 1073741824 ∧ 0 < p.2.2.2.length ∧ p.2.2.2.length ≤ p.2.2.1 ∧ p.2.2.1 ≤ 9223372036854775807 ∧ ∃ b o, p.2.1 = some ⟨b, o, none⟩ := by
  have h1 := h.chain.lo _ (mem_lpcs hp)
  have h2 := h.ends _ (mem_lpcs hp)
  have h3 := h.n1
  obtain ⟨⟨b, o, cur, e, _⟩, h5, h6, _⟩ := h.ok p hp
  rw [lEnd_eq] at h2
  exact ⟨h1.1, by omega, h1.2, h5, h6, b, o, e⟩
/-- Out of the fresh row and the stores. -/
theorem RSpan.remake {w1 w2 : World} {N' : Int} {c : Nat} {A : Option Addr} {ls' : List Lp} (h : RSpan w G g ls N) (hc1 : Below w.heap.size w w1) (hc : Chg (fun k => k = g) w1 w2)
    (hg2 : w2.heap[g]? = some (.cells #[.slice A ls'.length c, .int .i64 N'] 108)) (hO : OwnR w1 w.heap.size A ls'.length c ls' ∨ OwnR w1 0 A ls'.length c ls' ∧ ∀ k, (Value.slice A ls'.length c).ownBlock = some k → G k)
    (hok : ∀ p ∈ ls', LpOk w1 (fun k => G k ∨ (w.heap.size ≤ k ∧ k < w1.heap.size)) p)
    (hch : Chain 0 (lpcs ls')) (he : Ends N' (lpcs ls')) (h0 : 0 ≤ N') (h1 : N' ≤ 1073741824) (hh : heldS (lpcs ls') ≤ 4194304) : AfterR w G g (lpcs ls') N' w2 := by
  obtain ⟨A0, c0, hg, _⟩ := h.top
  have hg1 := (hc1.block g (lt_of_heap hg)).trans hg
  have hsz := hc.size
  have hO' : OwnR w1 0 A ls'.length c ls' ∧ ∀ k, (Value.slice A ls'.length c).ownBlock = some k → G k ∨ (w.heap.size ≤ k ∧ k < w1.heap.size) := by
    rcases hO with hO | ⟨hO, hk⟩
    · exact ⟨OwnR.base hO fun _ _ => Nat.zero_le _, fun k hk => .inr ⟨(OwnR.blk hO hk).1, (OwnR.blk hO hk).2.1⟩⟩
    · exact ⟨hO, fun k h => .inl (hk k h)⟩
  refine ⟨fun k => G k ∨ (w.heap.size ≤ k ∧ k < w1.heap.size), ls', ⟨⟨A, c, hg2, ?_, hO'.2⟩, .inl h.fg, ?_, ?_, hch, he, h0, h1, hh⟩, rfl, ?_, ?_⟩
  · refine OwnR.keep hO'.1 fun k hk => ?_
    obtain ⟨_, hlt, _, cur, hk2⟩ := OwnR.blk hO'.1 hk
    exact hc.block k hlt (not_g hg1 hk2 (by decide))
  · intro k hk
    rcases hk with hk | hk
    · have := h.lt k hk; have := hc1.size; omega
    · omega
  · intro p hp
    refine (hok p hp).keep (fun _ hk => hk) fun k cur _ hk => ?_
    exact hc.block k (lt_of_heap hk) (not_g hg1 hk (by decide))
  · exact (Chg.new hc1).trans hc (fun _ _ h => h)
  · intro k hk
    rcases hk with hk | hk
    · exact .inl hk
    · exact .inr hk.1
end

theorem rend_any (at_ : Int) (A : Option Addr) (n c : Nat) (w : World) (h0 : 0 ≤ at_) (h1 : at_ + (n : Int) ≤ 1073741824) :
    Calls Try.prog 75 #[.agg #[.int .i64 at_, .slice A n c]] w fun e w' => e = .returned (.int .i64 (at_ + (n : Int))) ∧ Below w.heap.size w w' := by
  go_enter Try.func75, Try.ntmps75
  go_wp2
  go_ret
  exact ⟨rfl, Below.alloc (Below.refl _ _) (Nat.le_refl _) _⟩

theorem rheld_any {w : World} {B n c : Nat} {A : Option Addr} {ls : List Lp} (h : RowL w B A ls) (hB : B ≤ w.heap.size) (hn : ls.length = n) (hn2 : n ≤ 4294967296) (hh : heldS (lpcs ls) ≤ 4294967296) :
    Calls Try.prog 60 #[.slice A n c] w fun e w' => e = .returned (.int .i64 (heldS (lpcs ls) : Int)) ∧ w' = w := by
  replace hn := box hn
  have hR := box h
  have hhB := box (fun k => Nat.le_trans (heldS_take_le (lpcs ls) k) hh)
  clear h hh
  go_enter Try.func60, Try.ntmps60
  go_wp2
  go_loopw [3, 4] (fun s3 s4 wr => ∃ k : Nat, k ≤ n ∧ s4 = .int .i64 (k : Int) ∧ s3 = .int .i64 (heldS ((lpcs ls).take k) : Int) ∧ wr = w) (fun _ s4 _ => n - (intOf s4).toNat)
  case atStart => exact ⟨0, Nat.zero_le _, rfl, rfl, rfl⟩
  case round =>
    obtain ⟨k, hk, rfl, rfl, rfl⟩ := hrel
    by_cases hlt : k < n
    · obtain ⟨b, o, rfl, hbB, hc⟩ := hR.out (by rw [hn.out]; omega)
      obtain ⟨p, hp⟩ : ∃ p, ls[k]? = some p := ⟨_, List.getElem?_eq_getElem (by rw [hn.out]; exact hlt)⟩
      obtain ⟨y0, y1⟩ := hc k p hp
      have hp2 : (lpcs ls)[k]? = some (lpc p) := by unfold lpcs; rw [List.getElem?_map, hp]; rfl
      have hs := box (heldS_take hp2)
      have hle := hhB.out (k + 1)
      rw [heldS_take hp2] at hle
      have hle2 : heldS ((lpcs ls).take k) + p.2.2.2.length ≤ 4294967296 := hle
      obtain ⟨pa, pA, pc, pz⟩ := p
      simp only at y0 y1 hle2
      clear hc hp hp2 hle
      generalize heldS ((lpcs ls).take k) = H at *
      go_wp2
      go_roundw
      case measure => simp [intOf]; omega
      case rel => exact ⟨k + 1, by omega, by go_num, by rw [hs.out]; show Value.int .i64 ((H : Int) + (pz.length : Int)) = Value.int .i64 ((H + pz.length : Nat) : Int); rw [Int.natCast_add], trivial⟩
    · obtain rfl : k = n := by omega
      go_wp2
      go_ret
      exact ⟨ret_int (by rw [List.take_of_length_le (by rw [lpcs_len, hn.out]; exact Nat.le_refl _)]), rfl⟩
end Go.Proofs.Ytajfamjdfhjdeaa
