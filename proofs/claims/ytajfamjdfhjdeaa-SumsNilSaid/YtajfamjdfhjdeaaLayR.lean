/- (*mantleref01.Bytes).lay. (*mantleref01.Bytes).lay, walked. The reference's Put, Cut, Punch, New. -/
import Derived.Test.YtajfamjdfhjdeaaRefL
import Derived.Test.YtajfamjdfhjdeaaPutA
namespace Go.Proofs.Ytajfamjdfhjdeaa
open Go.RowKit
attribute [local go_sem ↓] Go.wp_at_zero Go.wp_at_succ

theorem app8G (w : World) {ops : Array Oper} {rest : List Oper} {o : Oper} {a : Act} {Q : Exit → Act → World → Prop} (s x : Operand) (base : Nat) {A : Option Addr} {n c : Nat} {xs : List Int}
    {B : Nat} {A1 : Option Addr} {m c1 : Nat} {zs : List Int} (hown : Own8 w base A n c xs) (hr : Src w B 1 A1 m (u8s zs)) (hgd : o.guard = none)
    (ho : o.op = .call { callee := .builtin .append, args := #[s, x], argTypes := #[22, 22] })
    (hs : a.eval s = .slice A n c) (hx : a.eval x = .slice A1 m c1) (hb : n + m ≤ 140737488355328) (hbase : base ≤ w.heap.size)
    (h : ∀ A' c' w', Box (Own8 w' base A' (n + m) c' (xs ++ zs)) → Box (w.grownBy w' (Value.slice A n c).ownBlock) → wpList Try.prog ops Q rest (a.put o.dst (.slice A' (n + m) c')) w') :
    wpList Try.prog ops Q (o :: rest) a w := by
  obtain ⟨i0, hi0, hz⟩ := Option.map_eq_some_iff.1 u8_info
  simp only [Prod.mk.injEq] at hz
  refine wpList_app w hgd s x 22 ho base 5 i0 (.int .u8 0) 1 1 Try.underlying22 hi0 hz.1 hz.2.1 hz.2.2 rfl (by omega) _ n (u8s xs) hs hown B A1 m c1 (u8s zs) hx hr (u8s_one _) (by simp only [maxLen]; omega) (by omega) hbase ?_
  intro A' c' w' L
  exact h A' c' w' ⟨by have := L.1; rwa [← u8s_append] at this⟩ ⟨L.2.1⟩

/-- What lay has, while it goes over the pieces. -/
structure LayI (F : Nat → Prop) (w1 : World) (ow : Nat) (st : LaySt) (A1 : Option Addr) (m1 c1 : Nat) (A2 : Option Addr) (m2 c2 : Nat) (A3 : Option Addr) (n3 c3 : Nat) (wr : World) : Prop where
  r1 : OwnR wr (ow + 1) A1 m1 c1 st.ahead
  r2 : OwnR wr (ow + 1) A2 m2 c2 st.behind
  ne : ∀ x, (Value.slice A1 m1 c1).ownBlock = some x → (Value.slice A2 m2 c2).ownBlock ≠ some x
  own : wr.heap[ow]? = some (.cells #[.int .i64 st.at_, .slice A3 n3 c3] 184)
  o8 : Own8 wr (ow + 1) A3 n3 c3 st.own
  fo : ∀ k, ow ≤ k → F k
  bel : Chg F w1 wr

theorem own8_blk {w : World} {base n c : Nat} {A : Option Addr} {zs : List Int} (h : Own8 w base A n c zs) {k : Nat} (hk : (Value.slice A n c).ownBlock = some k) : base ≤ k ∧ k < w.heap.size ∧ ∃ cur, w.heap[k]? = some (.cells cur 5 (0, 0)) := by
  rcases h.2 with ⟨h1, _⟩ | ⟨g, cap, cur, h1, h2, h3, _⟩
  · rw [h1] at hk; cases hk
  · rw [h1] at hk
    cases hk
    exact ⟨h2, lt_of_heap h3, cur, h3⟩
theorem own8_keep {w w' : World} {base n c : Nat} {A : Option Addr} {zs : List Int} (h : Own8 w base A n c zs) (hk : ∀ k, (Value.slice A n c).ownBlock = some k → w'.heap[k]? = w.heap[k]?) : Own8 w' base A n c zs := by
  refine ⟨h.1, ?_⟩
  rcases h.2 with h | ⟨g, cap, cur, h1, h2, h3, h4⟩
  · exact .inl h
  · refine .inr ⟨g, cap, cur, h1, h2, (hk g ?_).trans h3, h4⟩
    rw [h1]
    rfl

section
variable {F : Nat → Prop} {w1 wr w' : World} {ow : Nat} {st : LaySt} {A1 A2 A3 : Option Addr} {m1 c1 m2 c2 n3 c3 : Nat}
theorem Chg.grownB {F : Nat → Prop} {a w w' : World} {row : Option Nat} (h : Chg F a w) (hg : w.grownBy w' row) (hr : ∀ k, row = some k → F k) : Chg F a w' :=
  ⟨hg.os.trans h.os, hg.tape.trans h.tape, hg.output.trans h.output, Nat.le_trans h.size hg.size, fun k hk hn => (hg.block k (Nat.lt_of_lt_of_le hk h.size) fun e => hn (hr k e.symm)).trans (h.block k hk hn)⟩
theorem LayI.lt (h : LayI F w1 ow st A1 m1 c1 A2 m2 c2 A3 n3 c3 wr) : ow < wr.heap.size := lt_of_heap h.own
theorem LayI.grown (h : LayI F w1 ow st A1 m1 c1 A2 m2 c2 A3 n3 c3 wr) (hb : Below wr.heap.size wr w') : LayI F w1 ow st A1 m1 c1 A2 m2 c2 A3 n3 c3 w' :=
  ⟨OwnR.grown h.r1 hb, OwnR.grown h.r2 hb, h.ne, (hb.block ow h.lt).trans h.own, own8_keep h.o8 fun k hk => hb.block k (own8_blk h.o8 hk).2.1, h.fo, h.bel.trans (Chg.new (F := NoB) hb) fun _ _ h => h.elim⟩
theorem LayI.ahead {zs : List Lp} {A' : Option Addr} {m' c' : Nat} (h : LayI F w1 ow st A1 m1 c1 A2 m2 c2 A3 n3 c3 wr) (hO : OwnR w' (ow + 1) A' m' c' (st.ahead ++ zs)) (hG : wr.grownBy w' (Value.slice A1 m1 c1).ownBlock)
    (hK : (Value.slice A' m' c').ownBlock = (Value.slice A1 m1 c1).ownBlock ∨ (Value.slice A' m' c').ownBlock = some wr.heap.size) : LayI F w1 ow { st with ahead := st.ahead ++ zs } A' m' c' A2 m2 c2 A3 n3 c3 w' := by
  refine ⟨hO, ?_, ?_, ?_, ?_, h.fo, ?_⟩
  · exact OwnR.keep h.r2 fun k hk => hG.block k (OwnR.blk h.r2 hk).2.1 fun e => h.ne k e.symm hk
  · intro x hx
    rcases hK with e | e
    · exact h.ne x (e.symm.trans hx)
    · rw [e] at hx
      cases hx
      intro h2
      have := (OwnR.blk h.r2 h2).2.1
      omega
  · exact (hG.block ow h.lt fun e => by have := (OwnR.blk h.r1 e.symm).1; omega).trans h.own
  · refine own8_keep h.o8 fun k hk => ?_
    obtain ⟨_, hlt, cur, hc⟩ := own8_blk h.o8 hk
    refine hG.block k hlt fun e => ?_
    obtain ⟨_, _, _, cur2, hc2⟩ := OwnR.blk h.r1 e.symm
    rw [hc] at hc2
    cases hc2
  · exact h.bel.grownB hG fun k hk => h.fo k (by have := (OwnR.blk h.r1 hk).1; omega)
theorem LayI.behind {p : Lp} {A' : Option Addr} {m' c' : Nat} (h : LayI F w1 ow st A1 m1 c1 A2 m2 c2 A3 n3 c3 wr) (hO : OwnR w' (ow + 1) A' m' c' (st.behind ++ [p])) (hG : wr.grownBy w' (Value.slice A2 m2 c2).ownBlock)
    (hK : (Value.slice A' m' c').ownBlock = (Value.slice A2 m2 c2).ownBlock ∨ (Value.slice A' m' c').ownBlock = some wr.heap.size) : LayI F w1 ow { st with behind := st.behind ++ [p] } A1 m1 c1 A' m' c' A3 n3 c3 w' := by
  refine ⟨?_, hO, ?_, ?_, ?_, h.fo, ?_⟩
  · exact OwnR.keep h.r1 fun k hk => hG.block k (OwnR.blk h.r1 hk).2.1 fun e => h.ne k hk e.symm
  · intro x hx
    rcases hK with e | e
    · rw [e]; exact h.ne x hx
    · rw [e]
      intro h2
      cases h2
      have := (OwnR.blk h.r1 hx).2.1
      omega
  · exact (hG.block ow h.lt fun e => by have := (OwnR.blk h.r2 e.symm).1; omega).trans h.own
  · refine own8_keep h.o8 fun k hk => ?_
    obtain ⟨_, hlt, cur, hc⟩ := own8_blk h.o8 hk
    refine hG.block k hlt fun e => ?_
    obtain ⟨_, _, _, cur2, hc2⟩ := OwnR.blk h.r2 e.symm
    rw [hc] at hc2
    cases hc2
  · exact h.bel.grownB hG fun k hk => h.fo k (by have := (OwnR.blk h.r2 hk).1; omega)
theorem set_block {w : World} {k b o : Nat} {v : Value} (h : k ≠ b) : (w.setCell ⟨b, o, none⟩ v).heap[k]? = w.heap[k]? := Below.heap_setCell w ⟨b, o, none⟩ v k h
theorem LayI.setAt (h : LayI F w1 ow st A1 m1 c1 A2 m2 c2 A3 n3 c3 wr) (x : Int) : LayI F w1 ow { st with at_ := x } A1 m1 c1 A2 m2 c2 A3 n3 c3 (wr.setCell ⟨ow, 0, none⟩ (.int .i64 x)) := by
  refine ⟨OwnR.keep h.r1 fun k hk => ?_, OwnR.keep h.r2 fun k hk => ?_, h.ne, block_set h.own _, own8_keep h.o8 fun k hk => ?_, h.fo, h.bel.setCell (p := ⟨ow, 0, none⟩) (fun _ => h.fo ow (Nat.le_refl _)) _⟩
  · exact set_block (by have := (OwnR.blk h.r1 hk).1; omega)
  · exact set_block (by have := (OwnR.blk h.r2 hk).1; omega)
  · exact set_block (by have := (own8_blk h.o8 hk).1; omega)
theorem LayI.setG {g o : Nat} (h : LayI F w1 ow st A1 m1 c1 A2 m2 c2 A3 n3 c3 wr) (hg : g < ow) (hF : F g) (x : Value) : LayI F w1 ow st A1 m1 c1 A2 m2 c2 A3 n3 c3 (wr.setCell ⟨g, o, none⟩ x) := by
  refine ⟨OwnR.keep h.r1 fun k hk => ?_, OwnR.keep h.r2 fun k hk => ?_, h.ne, ?_, own8_keep h.o8 fun k hk => ?_, h.fo, h.bel.setCell (p := ⟨g, o, none⟩) (fun _ => hF) _⟩
  · exact set_block (by have := (OwnR.blk h.r1 hk).1; omega)
  · exact set_block (by have := (OwnR.blk h.r2 hk).1; omega)
  · exact (set_block (by omega)).trans h.own
  · exact set_block (by have := (own8_blk h.o8 hk).1; omega)
theorem LayI.wide {F' : Nat → Prop} (h : LayI F w1 ow st A1 m1 c1 A2 m2 c2 A3 n3 c3 wr) (hF : ∀ k, F k → F' k) : LayI F' w1 ow st A1 m1 c1 A2 m2 c2 A3 n3 c3 wr :=
  ⟨h.r1, h.r2, h.ne, h.own, h.o8, fun k hk => hF k (h.fo k hk), h.bel.mono fun k _ hk => hF k hk⟩
theorem LayI.app8 {zs : List Int} {A' : Option Addr} {n' c' : Nat} (h : LayI F w1 ow st A1 m1 c1 A2 m2 c2 A3 n3 c3 wr) (hO : Own8 w' (ow + 1) A' n' c' (st.own ++ zs)) (hG : wr.grownBy w' (Value.slice A3 n3 c3).ownBlock) :
    LayI F w1 ow { st with own := st.own ++ zs } A1 m1 c1 A2 m2 c2 A' n' c' (w'.setCell ⟨ow, 1, none⟩ (.slice A' n' c')) := by
  have hb : ∀ {A : Option Addr} {m c k : Nat} {l : List Lp}, OwnR wr (ow + 1) A m c l → (Value.slice A m c).ownBlock = some k → (w'.setCell ⟨ow, 1, none⟩ (.slice A' n' c')).heap[k]? = wr.heap[k]? := fun {A m c k l} hr hk => by
    obtain ⟨hk1, hk2, _, cur, hk3⟩ := OwnR.blk hr hk
    rw [set_block (by omega)]
    refine hG.block k hk2 fun e => ?_
    obtain ⟨_, _, cur2, hc2⟩ := own8_blk h.o8 e.symm
    rw [hk3] at hc2
    cases hc2
  refine ⟨OwnR.keep h.r1 fun k hk => hb h.r1 hk, OwnR.keep h.r2 fun k hk => hb h.r2 hk, h.ne, ?_, own8_keep hO fun k hk => set_block (by have := (own8_blk hO hk).1; omega), h.fo, ?_⟩
  · exact block_set ((hG.block ow h.lt fun e => by have := (own8_blk h.o8 e.symm).1; omega).trans h.own) _
  · exact (h.bel.grownB hG fun k hk => h.fo k (by have := (own8_blk h.o8 hk).1; omega)).setCell (p := ⟨ow, 1, none⟩) (fun _ => h.fo ow (Nat.le_refl _)) _
end

theorem OwnR.src {w : World} {base n c : Nat} {A : Option Addr} {l : List Lp} (h : OwnR w base A n c l) : Src w w.heap.size 2 A n (lcells l) := by
  have hl := h.len
  refine ⟨by rw [lcells_len]; omega, fun hn => ?_⟩
  obtain ⟨g, cap, hv, _, hlt⟩ := h.form (by omega)
  cases hv
  refine ⟨g, 0, rfl, hlt, fun i u hu => ?_⟩
  have hi := (List.getElem?_eq_some_iff.1 hu).1
  rw [lcells_len] at hi
  rw [Nat.zero_add, World.ownsRow.cellAt h i (by omega), ← hu]

/-- What lay leaves. -/
def LayLeft (w : World) (G : Nat → Prop) (g : Nat) (N : Int) (ps : List Pc) (w' : World) : Prop :=
  ∃ A c ls', w'.heap[g]? = some (.cells #[.slice A ls'.length c, .int .i64 N] 108) ∧ OwnR w' w.heap.size A ls'.length c ls' ∧
    (∀ p ∈ ls', LpOk w' (fun k => G k ∨ (w.heap.size ≤ k ∧ k < w'.heap.size)) p) ∧ lpcs ls' = ps ∧ Chg (fun k => k = g) w w'
end Go.Proofs.Ytajfamjdfhjdeaa

namespace Go.Proofs.Ytajfamjdfhjdeaa
open Go.RowKit
attribute [local go_sem ↓] Go.wp_at_zero Go.wp_at_succ

theorem ltaken_sub {fr tt : Int} {ls : List Lp} {p : Lp} (h : p ∈ ltaken fr tt ls) (hc : ∀ q ∈ ls, q.2.2.2.length ≤ q.2.2.1) : ∃ q ∈ ls, Sub p q := by
  unfold ltaken at h
  obtain ⟨q, hq, hp⟩ := List.mem_flatMap.1 h
  exact ⟨q, hq, sub_cutT hp (hc q hq)⟩

set_option maxHeartbeats 8000000 in
set_option maxRecDepth 100000 in
theorem layR_any {w : World} {G : Nat → Prop} {g n c : Nat} {A : Option Addr} {ls : List Lp} {N at_ : Int} {bs : List Int} (h : RSpan w G g ls N) (hb : Byt w w.heap.size A n bs) (hn : 0 < n) (h0 : 0 ≤ at_) (h1 : at_ + (n : Int) ≤ 1073741824)
    (hM : heldS (aheadS at_ (lpcs ls) ++ behindS at_ (at_ + (n : Int)) (lpcs ls)) + n ≤ 4194304) :
    Calls Try.prog 54 #[.pointer (some ⟨g, 0, none⟩), .int .i64 at_, .slice A n c] w fun e w' => e = .returned (.tuple #[]) ∧ LayLeft w G g N (layS at_ bs (aheadS at_ (lpcs ls)) (behindS at_ (at_ + (n : Int)) (lpcs ls))) w' := by
  obtain ⟨A0, c0, ht, hO, hG⟩ := h.top
  have hcnt := h.count
  have hcl := box (taken_any h h0 (show at_ < at_ + (n : Int) by omega) (by omega))
  have htk : lpcs (ltaken at_ (at_ + (n : Int)) ls) = aheadS at_ (lpcs ls) ++ behindS at_ (at_ + (n : Int)) (lpcs ls) := (lpcs_taken _ _ _).trans (taken_is h.chain (by omega))
  have hok : ∀ p ∈ ltaken at_ (at_ + (n : Int)) ls, LpOk w G p := fun p hp => by
    obtain ⟨q, hq, hs⟩ := ltaken_sub hp fun q hq => (h.pc_bd hq).2.2.2.1
    exact hs.ok (h.ok q hq)
  have hll := ltaken_len at_ (at_ + (n : Int)) ls
  have hchA := ahead_chain (fr := at_) h.chain
  have hchE := ahead_ends (fr := at_) h.chain
  have hchC : Chain (at_ + (n : Int)) (behindS at_ (at_ + (n : Int)) (lpcs ls)) := (behind_chain h.chain).mono (by omega)
  have hfold := lay_fold htk hchA hchE hchC (by omega)
  have hch2 : Chain 0 (lpcs (ltaken at_ (at_ + (n : Int)) ls)) := by rw [htk]; exact cut_chain h.chain (by omega) (by omega)
  have hen2 : Ends 1073741824 (lpcs (ltaken at_ (at_ + (n : Int)) ls)) := by rw [htk]; exact cut_ends h.chain (h.ends.mono h.n1) (by omega)
  have hbd : Box (∀ p ∈ ltaken at_ (at_ + (n : Int)) ls, 0 ≤ p.1 ∧ p.1 + (p.2.2.2.length : Int) ≤ 1073741824) := ⟨fun p hp => ⟨(hch2.lo _ (mem_lpcs hp)).1, hen2 _ (mem_lpcs hp)⟩⟩
  have hcn2 : (ltaken at_ (at_ + (n : Int)) ls).length ≤ 1073741825 := by
    have h9 := hch2.count hen2 (Int.le_refl 0) (by omega)
    rw [lpcs_len] at h9
    omega
  have hheld : heldS (lpcs (ltaken at_ (at_ + (n : Int)) ls)) + n ≤ 4194304 := by rw [htk]; exact hM
  have hmem := layTo_mem at_ (at_ + (n : Int)) (ltaken at_ (at_ + (n : Int)) ls)
  have e0 : ((n : Int) == 0) = false := by rw [beq_eq_false_iff_ne]; omega
  have hbl : bs.length = n := hb.len
  have hlay : layS at_ bs (aheadS at_ (lpcs ls)) (behindS at_ (at_ + (n : Int)) (lpcs ls)) = (splitL at_ (aheadS at_ (lpcs ls))).1 ++ ((splitL at_ (aheadS at_ (lpcs ls))).2.1, (splitL at_ (aheadS at_ (lpcs ls))).2.2 ++ bs ++ (splitR (at_ + (n : Int)) (behindS at_ (at_ + (n : Int)) (lpcs ls))).2) :: (splitR (at_ + (n : Int)) (behindS at_ (at_ + (n : Int)) (lpcs ls))).1 := by unfold layS; rw [hbl]
  have hchl : Chain 0 (layS at_ bs (aheadS at_ (lpcs ls)) (behindS at_ (at_ + (n : Int)) (lpcs ls))) := lay_chain hchA hchE (by rw [hbl]; exact hchC) hb.bs (by omega) h0
  rw [← hfold.1, ← hfold.2.1, ← hfold.2.2.1, ← hfold.2.2.2.1, ← hfold.2.2.2.2] at hlay
  rw [hlay] at hchl ⊢
  generalize ltaken at_ (at_ + (n : Int)) ls = l at *
  have hgt := box ht
  have hS := box h
  have hby := box hb
  have hgl := lt_of_heap ht
  replace hok := box hok
  replace hfold := box hfold
  replace hmem := box hmem
  replace hheld := box hheld
  replace hchl := box hchl
  clear h hb hO hG ht htk hchA hchE hchC hch2 hen2 hlay hM
  go_enter Try.func54, Try.ntmps54
  go_upto_region 2 with (with_reducible (refine Calls.mono hcl.out ?_); rintro e w1 ⟨A1, k1, rfl, hO1, hb1⟩)
  have hrow := box hO1.row
  have hlen : l.length ≤ 1073741825 := hcn2
  replace hO1 := box hO1
  replace hb1 := box hb1
  clear hcl
  go_upto_region 7 with fail
  have hgen : (w1.alloc (.cells #[.int .i64 at_, .slice none 0 0] 184)).heap[w1.heap.size]? = some (.cells #[.int .i64 at_, .slice none 0 0] 184) := rnew_heap w1 at_ none 0 0
  have hI0 : LayI (fun k => w1.heap.size ≤ k) w1 w1.heap.size (layTo at_ (at_ + (n : Int)) l 0) none 0 0 none 0 0 none 0 0 (w1.alloc (.cells #[.int .i64 at_, .slice none 0 0] 184)) := by
    refine ⟨World.ownsRow_nil _ _ _ _, World.ownsRow_nil _ _ _ _, fun x hx => (by cases hx), hgen, Own8.nil _ _, fun k hk => hk, (Chg.refl _ _).alloc _⟩
  generalize (w1.alloc (.cells #[.int .i64 at_, .slice none 0 0] 184)) = w2 at *
  obtain ⟨ow, how⟩ : ∃ ow, w1.heap.size = ow := ⟨_, rfl⟩
  rw [how] at hI0 hgen ⊢
  replace how := box how
  replace hI0 := box hI0
  go_loopg [8, 9, 10, 11] l.length (fun kx s8 s9 s10 s11 wr => ∃ (k : Nat) (B1 : Option Addr) (m1 d1 : Nat) (B2 : Option Addr) (m2 d2 : Nat) (B3 : Option Addr) (n3 d3 : Nat) (lA : Option Addr) (lN lC : Nat), k ≤ l.length ∧ l.length - k ≤ kx ∧ s11 = .int .i64 (k : Int) ∧ s8 = .slice B1 m1 d1 ∧ s9 = .slice B2 m2 d2 ∧ s10 = .slice lA lN lC ∧
      Box (lA = (layTo at_ (at_ + (n : Int)) l k).lastA ∧ lN = (layTo at_ (at_ + (n : Int)) l k).last.length ∧ lC = (layTo at_ (at_ + (n : Int)) l k).lastC) ∧ Box (LayI (fun k => ow ≤ k) w1 ow (layTo at_ (at_ + (n : Int)) l k) B1 m1 d1 B2 m2 d2 B3 n3 d3 wr))
  case atStart => exact ⟨0, none, 0, 0, none, 0, 0, none, 0, 0, none, 0, 0, Nat.zero_le _, by omega, rfl, rfl, rfl, rfl, ⟨rfl, rfl, rfl⟩, hI0⟩
  case round =>
    obtain ⟨k, B1, m1, d1, B2, m2, d2, B3, n3, d3, lA, lN, lC, hk, hgk, rfl, rfl, rfl, rfl, hL, hI⟩ := hrel
    have hm1 : m1 ≤ l.length := by have h1 := hI.out.r1.len; have h2 := (hmem.out k).2.2.2.1; omega
    have hm2 : m2 ≤ l.length := by have h1 := hI.out.r2.len; have h2 := (hmem.out k).2.2.2.2.1; omega
    have hn3 : n3 ≤ 4194304 := by
      have h1 := hI.out.o8.1
      rw [u8s_length] at h1
      have h2 := (hmem.out k).2.2.2.2.2
      have h3 : heldS (lpcs (l.take k)) ≤ heldS (lpcs l) := by rw [lpcs_take]; exact heldS_take_le _ _
      have h4 := hheld.out
      omega
    have hows := hI.out.lt
    have hw1r : Below w1.heap.size w1 wr := hI.out.bel.below (fun k hk => how.out ▸ hk) (Nat.le_refl _)
    by_cases hlt : k < l.length
    · obtain ⟨p, hp⟩ : ∃ p, l[k]? = some p := ⟨_, List.getElem?_eq_getElem hlt⟩
      obtain ⟨rb, ro, rfl, hrb, hrc⟩ := hrow.out (by omega)
      obtain ⟨x0, x1⟩ := hrc k p hp
      have hpl := List.mem_of_getElem? hp
      obtain ⟨p0, p1⟩ := hbd.out p hpl
      have hpo := hok.out p hpl
      have hst := layTo_succ (at_ := at_) (en := at_ + (n : Int)) hp
      obtain ⟨⟨b, o, pcur, pe, -, -, -⟩, pk1, pk2, -⟩ := id hpo
      have hpby := hpo.byt
      obtain ⟨pa, pA, pc, pz⟩ := p
      simp only at p0 p1 pe pk1 pk2 x0 x1 hpby
      subst pe
      have y0 := cell_past hw1r x0
      have y1 := cell_past hw1r x1
      have hbsz : w.heap.size ≤ wr.heap.size := Nat.le_trans hb1.out.size hw1r.size
      have i0' : (0 : Int) ≤ (k : Int) := by omega
      have i1' : (k : Int) < (l.length : Int) := by omega
      have hpsrc := box (((hpby.grown hb1.out).below (hw1r.mono hb1.out.size)).src)
      have hend := box (fun W => rend_any pa (some ⟨b, o, none⟩) pz.length pc W p0 p1)
      have hE : lEnd (pa, some ⟨b, o, none⟩, pc, pz) = pa + (pz.length : Int) := rfl
      clear hpby hpo hrc x0 x1 hrb
      go_upto_region 11 with fail
      have hWb := Below.alloc (Below.refl wr.heap.size wr) (Nat.le_refl _) (.cells #[.int .i64 pa, .slice (some ⟨b, o, none⟩) pz.length pc] 184)
      have hWh := rnew_heap wr pa (some ⟨b, o, none⟩) pz.length pc
      have hI1 := hI.out.grown hWb
      have hsz : wr.heap.size < (wr.alloc (.cells #[.int .i64 pa, .slice (some ⟨b, o, none⟩) pz.length pc] 184)).heap.size := by simp
      generalize (wr.alloc (.cells #[.int .i64 pa, .slice (some ⟨b, o, none⟩) pz.length pc] 184)) = W at *
      obtain ⟨pb, hpb⟩ : ∃ pb, wr.heap.size = pb := ⟨_, rfl⟩
      rw [hpb] at hWh hows hsz ⊢
      have q0 : W.cell? ⟨pb, 0, none⟩ = some (.int .i64 pa) := cell_of_heap hWh rfl
      have q1 : W.cell? ⟨pb, 1, none⟩ = some (.slice (some ⟨b, o, none⟩) pz.length pc) := cell_of_heap hWh rfl
      replace hI1 := box hI1
      replace hWb := box hWb
      replace hw1r := box hw1r
      clear y0 y1
      rcases (show pa + (pz.length : Int) < at_ ∨ pa + (pz.length : Int) = at_ ∨ (at_ < pa + (pz.length : Int) ∧ pa = at_ + (n : Int)) ∨ (at_ < pa + (pz.length : Int) ∧ pa ≠ at_ + (n : Int)) by omega) with hc | hc | ⟨hc, hc'⟩ | ⟨hc, hc'⟩
      · have hst2 : layTo at_ (at_ + (n : Int)) l (k + 1) = { layTo at_ (at_ + (n : Int)) l k with ahead := (layTo at_ (at_ + (n : Int)) l k).ahead ++ [(pa, some ⟨b, o, none⟩, pc, pz)] } := by rw [hst]; exact if_pos (by rw [hE]; omega)
        replace hst2 := box hst2
        clear hst hpsrc
        go_upto_region 12 with (with_reducible (refine Calls.mono (hend.out _) ?_); rintro e w5 ⟨rfl, hb5⟩; have z0 := cell_past hb5 q0; have z1 := cell_past hb5 q1)
        have hI6 := (hI1.out.grown hb5).grown (Below.alloc (Below.refl w5.heap.size w5) (Nat.le_refl _) (.cells #[.int .i64 pa, .slice (some ⟨b, o, none⟩) pz.length pc] 184))
        have hsrc := box (src_rpiece5 w5 (pa, some ⟨b, o, none⟩, pc, pz) pz.length rfl w5.heap.size rfl)
        replace hI6 := box hI6
        replace hb5 := box hb5
        clear hI1 hI q0 q1
        go_wp2_with (at_builtin; refine appR _ (.tmp 44) (.tmp 46) (ow + 1) hI6.out.r1 hsrc.out rfl rfl rfl rfl (by omega) hI6.out.lt ?_; intro A7 c7 w7 O7 G7 K7)
        go_roundg (l.length - (k + 1))
        case measure => omega
        case rel =>
          refine ⟨k + 1, A7, m1 + 1, c7, B2, m2, d2, B3, n3, d3, lA, lN, lC, by omega, Nat.le_refl _, by go_num, rfl, rfl, rfl, ⟨by rw [hst2.out]; exact hL.out⟩, ⟨?_⟩⟩
          rw [hst2.out]
          exact hI6.out.ahead O7.out G7.out K7.out
      · have hst2 : layTo at_ (at_ + (n : Int)) l (k + 1) = { layTo at_ (at_ + (n : Int)) l k with at_ := pa, own := (layTo at_ (at_ + (n : Int)) l k).own ++ pz } := by
          rw [hst]
          unfold layStep
          rw [if_neg (by rw [hE]; omega), if_pos (by rw [hE]; exact hc)]
        replace hst2 := box hst2
        clear hst
        go_upto_region 13 with (with_reducible (refine Calls.mono (hend.out _) ?_); rintro e w5 ⟨rfl, hb5⟩; have z0 := cell_past hb5 q0; have z1 := cell_past hb5 q1)
        have hI5 := hI1.out.grown hb5
        clear hI1 hI q0 q1
        go_upto_region 14 with (with_reducible (refine Calls.mono (hend.out _) ?_); rintro e w6 ⟨rfl, hb6⟩; have q0 := cell_past hb6 z0; have q1 := cell_past hb6 z1)
        have hI6 := hI5.grown hb6
        have hbw := (hWb.out.trans (hb5.mono hWb.out.size)).trans (hb6.mono (Nat.le_trans hWb.out.size hb5.size))
        have f0 : w6.frozen? ⟨ow, 0, none⟩ = false := frozen_of_heap hI6.own
        have c0 : w6.cell? ⟨ow, 0, none⟩ = some (.int .i64 (layTo at_ (at_ + (n : Int)) l k).at_) := cell_of_heap hI6.own rfl
        have hpb6 : pb < w6.heap.size := by have := hb5.size; have := hb6.size; omega
        have hne : ow ≠ pb := by omega
        have ho6 := hI6.lt
        have hpsrc6 := src_drop hpsrc.out hbw hbsz (Nat.le_refl _)
        clear z0 z1 hb5 hb6 hI5 hpsrc hbw
        replace hI6 := box hI6
        replace hpsrc6 := box hpsrc6
        go_upto_region 15 with fail
        have hI7 := hI6.out.setAt pa
        have hc6 : Chg (fun k => k = ow) w6 (w6.setCell ⟨ow, 0, none⟩ (.int .i64 pa)) := set_chg
        have z1 := cell_chg hc6 (fun h => hne h.symm) q1
        have hpsrc7 : Src (w6.setCell ⟨ow, 0, none⟩ (.int .i64 pa)) w.heap.size 1 (some ⟨b, o, none⟩) pz.length (u8s pz) := by
          refine hpsrc6.out.keep fun q hq => World.cell?_of_block ?_
          exact set_block (by have := hb1.out.size; have := how.out; omega)
        generalize (w6.setCell ⟨ow, 0, none⟩ (.int .i64 pa)) = w7 at *
        have q1 : w7.cell? ⟨ow, 1, none⟩ = some (.slice B3 n3 d3) := cell_of_heap hI7.own rfl
        have hne3 : some ow ≠ (Value.slice B3 n3 d3).ownBlock := fun e => by have := (own8_blk hI7.o8 e.symm).1; omega
        replace hI7 := box hI7
        replace hpsrc7 := box hpsrc7
        clear hI6 hpsrc6 hc6
        go_wp2_with (at_builtin; refine app8G _ (.tmp 57) (.tmp 59) (ow + 1) hI7.out.o8 hpsrc7.out rfl rfl rfl rfl (by omega) hI7.out.lt ?_; intro A8 c8 w8 O8 G8; have ht8 := (G8.out.block ow hI7.out.lt hne3).trans hI7.out.own; have f8 : w8.frozen? ⟨ow, 1, none⟩ = false := frozen_of_heap ht8; have g8 : w8.cell? ⟨ow, 1, none⟩ = some (.slice B3 n3 d3) := cell_of_heap ht8 rfl)
        go_roundg (l.length - (k + 1))
        case measure => omega
        case rel =>
          refine ⟨k + 1, B1, m1, d1, B2, m2, d2, A8, n3 + pz.length, c8, lA, lN, lC, by omega, Nat.le_refl _, by go_num, rfl, rfl, rfl, ⟨by rw [hst2.out]; exact hL.out⟩, ⟨?_⟩⟩
          rw [hst2.out]
          exact hI7.out.app8 O8.out G8.out
      · subst hc'
        have hst2 : layTo at_ (at_ + (n : Int)) l (k + 1) = { layTo at_ (at_ + (n : Int)) l k with lastA := some ⟨b, o, none⟩, lastC := pc, last := pz } := by
          rw [hst]
          unfold layStep
          rw [if_neg (by rw [hE]; omega), if_neg (by rw [hE]; omega), if_pos rfl]
        replace hst2 := box hst2
        clear hst hpsrc
        go_upto_region 13 with (with_reducible (refine Calls.mono (hend.out _) ?_); rintro e w5 ⟨rfl, hb5⟩; have z0 := cell_past hb5 q0; have z1 := cell_past hb5 q1; replace hb5 := box hb5)
        have hI5 := hI1.out.grown hb5.out
        clear hI1 hI q0 q1
        go_wp2_with (with_reducible (refine Calls.mono (hend.out _) ?_); rintro e w6 ⟨rfl, hb6⟩; have q0 := cell_past hb6 z0; have q1 := cell_past hb6 z1; replace hb6 := box hb6)
        go_roundg (l.length - (k + 1))
        case measure => omega
        case rel =>
          refine ⟨k + 1, B1, m1, d1, B2, m2, d2, B3, n3, d3, _, _, _, by omega, Nat.le_refl _, by go_num, rfl, rfl, rfl, ⟨by rw [hst2.out]; exact ⟨rfl, rfl, rfl⟩⟩, ⟨?_⟩⟩
          rw [hst2.out]
          have h9 := hI5.grown hb6.out
          exact ⟨h9.r1, h9.r2, h9.ne, h9.own, h9.o8, h9.fo, h9.bel⟩
      · have hst2 : layTo at_ (at_ + (n : Int)) l (k + 1) = { layTo at_ (at_ + (n : Int)) l k with behind := (layTo at_ (at_ + (n : Int)) l k).behind ++ [(pa, some ⟨b, o, none⟩, pc, pz)] } := by
          rw [hst]
          unfold layStep
          rw [if_neg (by rw [hE]; omega), if_neg (by rw [hE]; omega), if_neg hc']
        replace hst2 := box hst2
        clear hst hpsrc
        go_upto_region 13 with (with_reducible (refine Calls.mono (hend.out _) ?_); rintro e w5 ⟨rfl, hb5⟩; have z0 := cell_past hb5 q0; have z1 := cell_past hb5 q1)
        have hI5 := hI1.out.grown hb5
        clear hI1 hI q0 q1
        go_upto_region 10 with (with_reducible (refine Calls.mono (hend.out _) ?_); rintro e w6 ⟨rfl, hb6⟩; have q0 := cell_past hb6 z0; have q1 := cell_past hb6 z1)
        have hI6 := (hI5.grown hb6).grown (Below.alloc (Below.refl w6.heap.size w6) (Nat.le_refl _) (.cells #[.int .i64 pa, .slice (some ⟨b, o, none⟩) pz.length pc] 184))
        have hsrc := box (src_rpiece5 w6 (pa, some ⟨b, o, none⟩, pc, pz) pz.length rfl w6.heap.size rfl)
        replace hI6 := box hI6
        replace hb5 := box hb5
        replace hb6 := box hb6
        clear hI5 z0 z1
        go_wp2_with (at_builtin; refine appR _ (.tmp 35) (.tmp 37) (ow + 1) hI6.out.r2 hsrc.out rfl rfl rfl rfl (by omega) hI6.out.lt ?_; intro A7 c7 w7 O7 G7 K7)
        go_roundg (l.length - (k + 1))
        case measure => omega
        case rel =>
          refine ⟨k + 1, B1, m1, d1, A7, m2 + 1, c7, B3, n3, d3, lA, lN, lC, by omega, Nat.le_refl _, by go_num, rfl, rfl, rfl, ⟨by rw [hst2.out]; exact hL.out⟩, ⟨?_⟩⟩
          rw [hst2.out]
          exact hI6.out.behind O7.out G7.out K7.out
    · obtain rfl : k = l.length := by omega
      obtain ⟨rfl, rfl, rfl⟩ := hL.out
      have hmk := hmem.out l.length
      have hlast : (layTo at_ (at_ + (n : Int)) l l.length).last.length ≤ 1073741824 ∧ Byt w w.heap.size (layTo at_ (at_ + (n : Int)) l l.length).lastA (layTo at_ (at_ + (n : Int)) l l.length).last.length (layTo at_ (at_ + (n : Int)) l l.length).last := by
        rcases hmk.2.2.1 with ⟨e1, e2, e3⟩ | ⟨p, hp, e1, e2, e3⟩
        · rw [e1, e3]
          exact ⟨by simp, Byt.none_⟩
        · rw [e1, e3]
          have h1 := hbd.out p hp
          exact ⟨by omega, (hok.out p hp).byt⟩
      obtain ⟨hl1, hl2⟩ := hlast
      have hma : ∀ p ∈ (layTo at_ (at_ + (n : Int)) l l.length).ahead ++ (layTo at_ (at_ + (n : Int)) l l.length).behind, LpOk w G p := fun p hp => by
        rcases List.mem_append.1 hp with hp | hp
        · exact hok.out p (hmk.1 p hp)
        · exact hok.out p (hmk.2.1 p hp)
      have hbsz : w.heap.size ≤ wr.heap.size := Nat.le_trans hb1.out.size hw1r.size
      have hgow : g < ow := by have := hb1.out.size; have := how.out; omega
      have hgr := (hw1r.block g (Nat.lt_of_lt_of_le hgl hb1.out.size)).trans ((hb1.out.block g hgl).trans hgt.out)
      have hlI := hI.out
      clear hI hL hmem hfold hrow hbd hok hmk hgk hO1
      generalize hst : layTo at_ (at_ + (n : Int)) l l.length = st at *
      replace hst := box hst
      have hbW : Below w.heap.size w wr := hb1.out.trans (hw1r.mono hb1.out.size)
      have hsb := (hby.out.below hbW).src
      have hsl := (hl2.below hbW).src
      have c1 : wr.cell? ⟨ow, 1, none⟩ = some (.slice B3 n3 d3) := cell_of_heap hlI.own rfl
      have hne3 : some ow ≠ (Value.slice B3 n3 d3).ownBlock := fun e => by have := (own8_blk hlI.o8 e.symm).1; omega
      replace hma := box hma
      replace hlI := box hlI
      replace hsb := box hsb
      replace hl2 := box hl2
      replace hsl := box hsl
      replace hbW := box hbW
      replace hgr := box hgr
      replace hw1r := box hw1r
      go_upto_region 19 with (at_builtin; refine app8G _ (.tmp 73) (.tmp 74) (ow + 1) hlI.out.o8 hsb.out rfl rfl rfl rfl (by omega) hlI.out.lt ?_; intro A8 c8 w8 O8 G8; have ht8 := (G8.out.block ow hlI.out.lt hne3).trans hlI.out.own; have f8 : w8.frozen? ⟨ow, 1, none⟩ = false := frozen_of_heap ht8; have g8 : w8.cell? ⟨ow, 1, none⟩ = some (.slice B3 n3 d3) := cell_of_heap ht8 rfl)
      have hI9 := hlI.out.app8 O8.out G8.out
      clear ht8 f8 g8
      generalize (w8.setCell ⟨ow, 1, none⟩ (.slice A8 (n3 + n) c8)) = w9 at *
      have hb19 : Below w1.heap.size w1 w9 := hI9.bel.below (fun k hk => how.out ▸ hk) (Nat.le_refl _)
      have hsl9 := (hl2.out.below (hb1.out.trans (hb19.mono hb1.out.size))).src
      have c9 : w9.cell? ⟨ow, 1, none⟩ = some (.slice A8 (n3 + n) c8) := cell_of_heap hI9.own rfl
      have hne9 : some ow ≠ (Value.slice A8 (n3 + n) c8).ownBlock := fun e => by have := (own8_blk hI9.o8 e.symm).1; omega
      replace hI9 := box hI9
      replace hsl9 := box hsl9
      clear hlI hsl hsb c1 hne3 hb19 O8 G8
      go_upto_region 20 with (at_builtin; refine app8G _ (.tmp 78) (.tmp 79) (ow + 1) hI9.out.o8 hsl9.out rfl rfl rfl rfl (by omega) hI9.out.lt ?_; intro A10 c10 w10 O10 G10; have ht8 := (G10.out.block ow hI9.out.lt hne9).trans hI9.out.own; have f8 : w10.frozen? ⟨ow, 1, none⟩ = false := frozen_of_heap ht8; have g8 : w10.cell? ⟨ow, 1, none⟩ = some (.slice A8 (n3 + n) c8) := cell_of_heap ht8 rfl)
      have hI11 := hI9.out.app8 O10.out G10.out
      clear ht8 f8 g8
      generalize (w10.setCell ⟨ow, 1, none⟩ (.slice A10 (n3 + n + st.last.length) c10)) = w11 at *
      have q0 : w11.cell? ⟨ow, 0, none⟩ = some (.int .i64 st.at_) := cell_of_heap hI11.own rfl
      have q1 : w11.cell? ⟨ow, 1, none⟩ = some (.slice A10 (n3 + n + st.last.length) c10) := cell_of_heap hI11.own rfl
      have hxl : (st.own ++ bs ++ st.last).length = n3 + n + st.last.length := by have := hI11.o8.1; rwa [u8s_length, Nat.mul_one] at this
      have hI12 := (hI11.grown (Below.alloc (Below.refl w11.heap.size w11) (Nat.le_refl _) (.cells #[.int .i64 st.at_, .slice A10 (n3 + n + st.last.length) c10] 184))).wide (F' := fun k => k = g ∨ ow ≤ k) (fun k hk => .inr hk)
      have hsx := box (src_rpiece5 w11 (st.at_, A10, c10, st.own ++ bs ++ st.last) (n3 + n + st.last.length) hxl w11.heap.size rfl)
      have hgb12 : (w11.alloc (.cells #[.int .i64 st.at_, .slice A10 (n3 + n + st.last.length) c10] 184)).heap[g]? = some (.cells #[.slice A0 ls.length c0, .int .i64 N] 108) := by
        have hgw : g < w1.heap.size := by have := how.out; omega
        have h1 := (hI11.grown (Below.alloc (Below.refl w11.heap.size w11) (Nat.le_refl _) (.cells #[.int .i64 st.at_, .slice A10 (n3 + n + st.last.length) c10] 184))).bel.block g hgw (by omega)
        exact h1.trans ((hb1.out.block g hgl).trans hgt.out)
      have hneg : ∀ {W : World} {A : Option Addr} {m d : Nat} {L : List Lp}, OwnR W (ow + 1) A m d L → some g ≠ (Value.slice A m d).ownBlock := fun h e => by have := (OwnR.blk h e.symm).1; omega
      replace hneg := box @hneg
      replace hI12 := box hI12
      replace hgb12 := box hgb12
      replace hxl := box hxl
      clear hI9 hsl9 c9 hne9 O10 G10 hI11 hgr
      go_upto_region 21 with (at_builtin; refine appR _ (.tmp 83) (.tmp 85) (ow + 1) hI12.out.r1 hsx.out rfl rfl rfl rfl (by omega) hI12.out.lt ?_; intro A13 c13 w13 O13 G13 K13; have ht8 := (G13.out.block g (lt_of_heap hgb12.out) (hneg.out hI12.out.r1)).trans hgb12.out; have f8 : w13.frozen? ⟨g, 0, none⟩ = false := frozen_of_heap ht8; have g8 : w13.cell? ⟨g, 0, none⟩ = some (.slice A0 ls.length c0) := cell_of_heap ht8 rfl)
      have hI14 := (hI12.out.ahead O13.out G13.out K13.out).setG (o := 0) hgow (.inl rfl) (.slice A13 (m1 + 1) c13)
      have hg14 : (w13.setCell ⟨g, 0, none⟩ (.slice A13 (m1 + 1) c13)).heap[g]? = some (.cells #[.slice A13 (m1 + 1) c13, .int .i64 N] 108) := block_set ht8 _
      clear ht8 f8 g8 q0 q1
      generalize (w13.setCell ⟨g, 0, none⟩ (.slice A13 (m1 + 1) c13)) = w14 at *
      have q0 : w14.cell? ⟨g, 0, none⟩ = some (.slice A13 (m1 + 1) c13) := cell_of_heap hg14 rfl
      have hs2 := box hI14.r2.src
      replace hI14 := box hI14
      replace hg14 := box hg14
      clear O13 G13 K13 hI12 hgb12 hsx
      go_wp2_with (at_builtin; refine appR _ (.tmp 93) (.tmp 94) (ow + 1) hI14.out.r1 hs2.out rfl rfl rfl rfl (by omega) hI14.out.lt ?_; intro A15 c15 w15 O15 G15 K15; have ht8 := (G15.out.block g (lt_of_heap hg14.out) (hneg.out hI14.out.r1)).trans hg14.out; have f8 : w15.frozen? ⟨g, 0, none⟩ = false := frozen_of_heap ht8; have g8 : w15.cell? ⟨g, 0, none⟩ = some (.slice A13 (m1 + 1) c13) := cell_of_heap ht8 rfl; have hg15 := box ht8; clear ht8)
      go_end0
      have hI16 := (hI14.out.ahead O15.out G15.out K15.out).setG (o := 0) hgow (.inl rfl) (.slice A15 (m1 + 1 + m2) c15)
      have hg16 : (w15.setCell ⟨g, 0, none⟩ (.slice A15 (m1 + 1 + m2) c15)).heap[g]? = some (.cells #[.slice A15 (m1 + 1 + m2) c15, .int .i64 N] 108) := block_set hg15.out _
      generalize (w15.setCell ⟨g, 0, none⟩ (.slice A15 (m1 + 1 + m2) c15)) = w16 at *
      have hlen16 := hI16.r1.len
      have hbs16 : Chg (fun k => k = g) w w16 := (Chg.new hb1.out).trans hI16.bel fun k hk h => by
        have h1 := hb1.out.size
        have h2 := how.out
        rcases h with h | h
        · exact h
        · omega
      have hr16 : OwnR w16 w.heap.size A15 (m1 + 1 + m2) c15 ((st.ahead ++ [(st.at_, A10, c10, st.own ++ bs ++ st.last)]) ++ st.behind) := OwnR.base hI16.r1 fun k hk => by
        have h1 := (OwnR.blk hI16.r1 hk).1
        have h2 := hb1.out.size
        have h3 := how.out
        omega
      have hlen' : ((st.ahead ++ [(st.at_, A10, c10, st.own ++ bs ++ st.last)]) ++ st.behind).length = m1 + 1 + m2 := hlen16
      rw [hst.out]
      refine ⟨rfl, A15, c15, (st.ahead ++ [(st.at_, A10, c10, st.own ++ bs ++ st.last)]) ++ st.behind, ?_, ?_, ?_, ?_, hbs16⟩
      · rw [hlen']; exact hg16
      · rw [hlen']; exact hr16
      · have hold : ∀ p ∈ st.ahead ++ st.behind, LpOk w16 (fun k => G k ∨ (w.heap.size ≤ k ∧ k < w16.heap.size)) p := fun p hp => (hma.out p hp).keep (fun _ hk => .inl hk) fun k cur hk hc => hbs16.block k (lt_of_heap hc) (not_g hgt.out hc (by decide))
        intro p hp
        rcases List.mem_append.1 hp with hp | hp
        · rcases List.mem_append.1 hp with hp | hp
          · exact hold p (List.mem_append_left _ hp)
          · rw [List.mem_singleton.1 hp]
            obtain ⟨gx, cur, ex, hgx, hhx, hnx, hcx, hzx, hcur⟩ := own8_open hI16.o8 (show 0 < n3 + n + st.last.length by omega)
            refine ⟨⟨gx, 0, cur, ex, .inr ⟨?_, lt_of_heap hhx⟩, hhx, fun j hj => ?_⟩, ?_, hcx, ?_⟩
            · have h2 := hb1.out.size
              have h3 := how.out
              omega
            · rw [Nat.zero_add]
              exact hcur j (by rw [← hxl.out]; exact hj)
            · show (st.own ++ bs ++ st.last).length ≤ c10
              rw [hxl.out]
              exact hnx
            · exact hchl.out.bs (st.at_, st.own ++ bs ++ st.last) (List.mem_append_right _ List.mem_cons_self)
        · exact hold p (List.mem_append_right _ hp)
      · have hx : lpcs [(st.at_, A10, c10, st.own ++ bs ++ st.last)] = [(st.at_, st.own ++ (bs ++ st.last))] := by rw [← List.append_assoc]; rfl
        rw [lpcs_append, lpcs_append, hx]
        simp
end Go.Proofs.Ytajfamjdfhjdeaa

namespace Go.Proofs.Ytajfamjdfhjdeaa
open Go.RowKit
attribute [local go_sem ↓] Go.wp_at_zero Go.wp_at_succ

theorem taken_held {fr tt : Int} {ls : List Lp} {lo : Int} (h : Chain lo (lpcs ls)) (hft : fr < tt) : lpcs (ltaken fr tt ls) = aheadS fr (lpcs ls) ++ behindS fr tt (lpcs ls) := (lpcs_taken _ _ _).trans (taken_is h hft)

theorem RSpan.left {w w2 : World} {G : Nat → Prop} {g c : Nat} {A : Option Addr} {ls ls' : List Lp} {N N' : Int} (h : RSpan w G g ls N) (hc : Chg (fun k => k = g) w w2) (hg2 : w2.heap[g]? = some (.cells #[.slice A ls'.length c, .int .i64 N'] 108))
    (hO : OwnR w2 w.heap.size A ls'.length c ls') (hok : ∀ p ∈ ls', LpOk w2 (fun k => G k ∨ (w.heap.size ≤ k ∧ k < w2.heap.size)) p) (hch : Chain 0 (lpcs ls')) (he : Ends N' (lpcs ls')) (h0 : 0 ≤ N') (h1 : N' ≤ 1073741824) (hh : heldS (lpcs ls') ≤ 4194304) : AfterR w G g (lpcs ls') N' w2 := by
  refine ⟨fun k => G k ∨ (w.heap.size ≤ k ∧ k < w2.heap.size), ls', ⟨⟨A, c, hg2, OwnR.base hO fun _ _ => Nat.zero_le _, fun k hk => .inr ⟨(OwnR.blk hO hk).1, (OwnR.blk hO hk).2.1⟩⟩, .inl h.fg, ?_, hok, hch, he, h0, h1, hh⟩, rfl, hc, ?_⟩
  · intro k hk
    rcases hk with hk | hk
    · exact Nat.lt_of_lt_of_le (h.lt k hk) hc.size
    · exact hk.2
  · intro k hk
    rcases hk with hk | hk
    · exact .inl hk
    · exact .inr hk.1
theorem LayLeft.after {w w2 w3 : World} {G : Nat → Prop} {g : Nat} {ls : List Lp} {N N' : Int} {ps : List Pc} (h : RSpan w G g ls N) (hb : Below w.heap.size w w2) (hL : LayLeft w2 G g N ps w3) (hch : Chain 0 ps) (he : Ends N' ps) (h0 : 0 ≤ N') (h1 : N' ≤ 1073741824) (hh : heldS ps ≤ 4194304) :
    AfterR w G g ps N' (w3.setCell ⟨g, 1, none⟩ (.int .i64 N')) := by
  obtain ⟨A, c, ls', hg, hO, hok, rfl, hc⟩ := hL
  have hs := hb.size
  have hc3 : Chg (fun k => k = g) w3 (w3.setCell ⟨g, 1, none⟩ (.int .i64 N')) := set_chg
  refine h.left (((Chg.new hb).trans hc fun _ _ h => h).trans hc3 fun _ _ h => h) (block_set hg _) ?_ ?_ hch he h0 h1 hh
  · refine OwnR.base (OwnR.keep hO fun k hk => ?_) fun k hk => by have := (OwnR.blk hO hk).1; omega
    obtain ⟨_, hlt, _, cur, hk2⟩ := OwnR.blk hO hk
    exact hc3.block k hlt (not_g hg hk2 (by decide))
  · intro p hp
    refine (hok p hp).keep (fun k hk => ?_) fun k cur _ hk => hc3.block k (lt_of_heap hk) (not_g hg hk (by decide))
    rcases hk with hk | hk
    · exact .inl hk
    · exact .inr ⟨by omega, Nat.lt_of_lt_of_le hk.2 hc3.size⟩

set_option maxHeartbeats 2000000 in
theorem rput_any {w : World} {G : Nat → Prop} {g n c : Nat} {A : Option Addr} {ls : List Lp} {N at_ : Int} {bs : List Int} (h : RSpan w G g ls N) (hb : Byt w w.heap.size A n bs) (hn2 : n ≤ 1048576) :
    Calls Try.prog 40 #[.pointer (some ⟨g, 0, none⟩), .int .i64 at_, .slice A n c] w fun r w' => r = .returned (.int .i64 (putOf (lpcs ls) N at_ bs).1) ∧ AfterR w G g (putOf (lpcs ls) N at_ bs).2.1 (putOf (lpcs ls) N at_ bs).2.2 w' := by
  have hbl : bs.length = n := hb.len
  have hS := box h
  have hN0 := h.n0
  have hN1 := h.n1
  unfold putOf
  rw [hbl]
  by_cases c1 : at_ < 0
  · rw [if_pos c1]
    clear h hb
    go_enter Try.func40, Try.ntmps40
    go_wp2
    go_ret
    exact ⟨rfl, hS.out.after (Below.refl _ _)⟩
  · rw [if_neg c1]
    by_cases c2 : n = 0
    · rw [if_pos c2]
      subst c2
      clear h hb
      go_enter Try.func40, Try.ntmps40
      go_wp2
      go_ret
      exact ⟨rfl, hS.out.after (Below.refl _ _)⟩
    · rw [if_neg c2]
      have e0 : ((n : Int) == 0) = false := by rw [beq_eq_false_iff_ne]; omega
      by_cases c3 : 1073741824 - (n : Int) < at_
      · rw [if_pos c3]
        clear h hb
        go_enter Try.func40, Try.ntmps40
        go_wp2
        go_ret
        exact ⟨rfl, hS.out.after (Below.refl _ _)⟩
      · rw [if_neg c3]
        have h1 : at_ + (n : Int) ≤ 1073741824 := by omega
        have h0 : 0 ≤ at_ := by omega
        have hcl := box (taken_any h h0 (show at_ < at_ + (n : Int) by omega) (by omega))
        have htk := taken_held (fr := at_) (tt := at_ + (n : Int)) h.chain (by omega)
        have hcn : (ltaken at_ (at_ + (n : Int)) ls).length ≤ 2147483650 := by have := ltaken_len at_ (at_ + (n : Int)) ls; have := h.count; omega
        have hH : heldS (aheadS at_ (lpcs ls) ++ behindS at_ (at_ + (n : Int)) (lpcs ls)) ≤ 4194304 := Nat.le_trans (cut_held (by omega)) h.held
        have hHe : heldS (lpcs (ltaken at_ (at_ + (n : Int)) ls)) = heldS (aheadS at_ (lpcs ls) ++ behindS at_ (at_ + (n : Int)) (lpcs ls)) := by rw [htk]
        have hlay := box (fun W (hW : Below w.heap.size w W) (hM : heldS (aheadS at_ (lpcs ls) ++ behindS at_ (at_ + (n : Int)) (lpcs ls)) + n ≤ 4194304) => layR_any (w := W) (c := c) (h.same hW) ((hb.grown hW).more hW.size) (by omega) h0 h1 hM)
        have hC2 : Chain (at_ + (bs.length : Int)) (behindS at_ (at_ + (n : Int)) (lpcs ls)) := by rw [hbl]; exact (behind_chain h.chain).mono (by omega)
        have hfC := box (lay_chain (b := bs) (ahead_chain (fr := at_) h.chain) (ahead_ends h.chain) hC2 hb.bs (by omega) h0)
        have hfE := lay_ends (b := bs) (N := N) (ahead_chain (fr := at_) h.chain) (ahead_ends h.chain) hC2 (behind_ends h.ends)
        have hfH := lay_held at_ bs (ahead_chain (fr := at_) h.chain) (ahead_ends h.chain) hC2
        have hap : heldS (aheadS at_ (lpcs ls)) + bs.length + heldS (behindS at_ (at_ + (n : Int)) (lpcs ls)) = heldS (aheadS at_ (lpcs ls) ++ behindS at_ (at_ + (n : Int)) (lpcs ls)) + n := by rw [heldS_append, hbl]; omega
        rw [hap] at hfH
        rw [hbl] at hfE
        replace hfE := box hfE
        replace hfH := box hfH
        obtain ⟨A0, c0, ht, hO0, -⟩ := h.top
        have g1 : w.cell? ⟨g, 1, none⟩ = some (.int .i64 N) := cell_of_heap ht rfl
        have hgl := lt_of_heap ht
        clear h hb ht hO0 hap htk hC2
        generalize heldS (aheadS at_ (lpcs ls) ++ behindS at_ (at_ + (n : Int)) (lpcs ls)) = HH at *
        generalize layS at_ bs (aheadS at_ (lpcs ls)) (behindS at_ (at_ + (n : Int)) (lpcs ls)) = ps' at *
        by_cases c4 : 4194304 < HH + n
        · rw [if_pos c4]
          have c4' : (4194304 : Int) < (HH : Int) + (n : Int) := by omega
          clear hlay
          go_enter Try.func40, Try.ntmps40
          go_wp2_with fail
          refine Calls.mono hcl.out ?_
          rintro e w1 ⟨A1, k1, rfl, hO1, hb1⟩
          have hheld := box (rheld_any (c := k1) hO1.row (Nat.le_refl _) rfl (by omega) (by rw [hHe]; omega))
          rw [hHe] at hheld
          replace hb1 := box hb1
          replace hO1 := box hO1
          clear hcl
          go_wp2_with fail
          refine Calls.mono hheld.out ?_
          rintro e w2 ⟨rfl, rfl⟩
          go_wp2_with fail
          go_ret
          exact ⟨rfl, hS.out.after hb1.out⟩
        · rw [if_neg c4]
          have c4' : ¬ (4194304 : Int) < (HH : Int) + (n : Int) := by omega
          go_enter Try.func40, Try.ntmps40
          go_wp2_with fail
          refine Calls.mono hcl.out ?_
          rintro e w1 ⟨A1, k1, rfl, hO1, hb1⟩
          have hheld := box (rheld_any (c := k1) hO1.row (Nat.le_refl _) rfl (by omega) (by rw [hHe]; omega))
          rw [hHe] at hheld
          replace hb1 := box hb1
          replace hO1 := box hO1
          clear hcl
          go_wp2_with fail
          refine Calls.mono hheld.out ?_
          rintro e w2 ⟨rfl, rfl⟩
          go_wp2_with fail
          refine Calls.mono (hlay.out _ hb1.out (by omega)) ?_
          rintro e w3 ⟨rfl, hL⟩
          have hfin := hL.after (N' := max N (at_ + (n : Int))) hS.out hb1.out hfC.out hfE.out (by omega) (by omega) (by have := hfH.out; omega)
          obtain ⟨A5, c5, ls5, hg5, -⟩ := hL
          have q1 : w3.cell? ⟨g, 1, none⟩ = some (.int .i64 N) := cell_of_heap hg5 rfl
          have f1 : w3.frozen? ⟨g, 1, none⟩ = false := frozen_of_heap hg5
          have hgl3 := lt_of_heap hg5
          replace hfin := box hfin
          replace hg5 := box hg5
          clear hlay g1
          go_wp2_with fail
          go_ret
          exact ⟨rfl, hfin.out⟩

set_option maxHeartbeats 1000000 in
theorem rcut_any {w : World} {G : Nat → Prop} {g : Nat} {ls : List Lp} {N size : Int} (h : RSpan w G g ls N) :
    Calls Try.prog 42 #[.pointer (some ⟨g, 0, none⟩), .int .i64 size] w fun e w' => e = .returned (.int .i64 (cutOf (lpcs ls) N size).1) ∧ AfterR w G g (cutOf (lpcs ls) N size).2.1 (cutOf (lpcs ls) N size).2.2 w' := by
  obtain ⟨A, c, ht, hO, hF⟩ := h.top
  have g1 : w.cell? ⟨g, 1, none⟩ = some (.int .i64 N) := cell_of_heap ht rfl
  have f1 : w.frozen? ⟨g, 1, none⟩ = false := frozen_of_heap ht
  have hh := box h
  unfold cutOf
  by_cases c1 : size < 0
  · rw [if_pos c1]
    clear h ht hO hF
    go_enter Try.func42, Try.ntmps42
    go_wp2
    go_ret
    exact ⟨rfl, hh.out.after (Below.refl _ _)⟩
  · rw [if_neg c1]
    have c1' : 0 ≤ size := by omega
    by_cases c2 : 1073741824 < size
    · rw [if_pos c2]
      clear h ht hO hF
      go_enter Try.func42, Try.ntmps42
      go_wp2
      go_ret
      exact ⟨rfl, hh.out.after (Below.refl _ _)⟩
    · rw [if_neg c2]
      by_cases c3 : size < N
      · rw [if_pos c3]
        have hN1 := h.n1
        have hcl := box (taken_any h c1' c3 (by omega))
        have htk := box (taken_held (fr := size) (tt := N) h.chain c3)
        have hok := box (fun p (hp : p ∈ ltaken size N ls) => (show LpOk w G p by
          obtain ⟨q, hq, hs⟩ := ltaken_sub hp fun q hq => (h.pc_bd hq).2.2.2.1
          exact hs.ok (h.ok q hq)))
        replace ht := box ht
        clear h hO hF c1
        go_enter Try.func42, Try.ntmps42
        go_wp2_with fail
        refine hcl.out.mono ?_
        rintro e w1 ⟨A1, k1, rfl, hO1, hb1⟩
        have ht1 := (hb1.block g (lt_of_heap ht.out)).trans ht.out
        have g0' : w1.cell? ⟨g, 0, none⟩ = some (.slice A ls.length c) := cell_of_heap ht1 rfl
        have g1' : w1.cell? ⟨g, 1, none⟩ = some (.int .i64 N) := cell_of_heap ht1 rfl
        have f0' : w1.frozen? ⟨g, 0, none⟩ = false := frozen_of_heap ht1
        have f1' : w1.frozen? ⟨g, 1, none⟩ = false := frozen_of_heap ht1
        have hgl : g < w1.heap.size := lt_of_heap ht1
        replace ht1 := box ht1
        replace hO1 := box hO1
        replace hb1 := box hb1
        clear hcl g1 f1
        go_wp2
        go_ret
        refine ⟨rfl, ?_⟩
        have hs := hh.out
        rw [← htk.out]
        refine hs.remake hb1.out (set_chg.trans set_chg (fun _ _ h => h)) (block_set (block_set ht1.out _) _) (.inl hO1.out) (fun p hp => (hok.out p hp).grow hs.lt hb1.out) ?_ ?_ c1' (by omega) ?_
        · rw [htk.out]; exact cut_chain hs.chain c3 (by omega)
        · rw [htk.out, behind_none hs.ends, List.append_nil]; exact ahead_ends hs.chain
        · rw [htk.out]; exact Nat.le_trans (cut_held c3) hs.held
      · rw [if_neg c3]
        replace ht := box ht
        clear h hO hF c1
        go_enter Try.func42, Try.ntmps42
        go_wp2
        go_ret
        have hs := hh.out
        obtain ⟨A', c', ht', hO', hF'⟩ := hs.top
        refine ⟨rfl, hs.remake (Below.refl _ _) set_chg (block_set ht' _) (.inr ⟨hO', hF'⟩) (fun p hp => (hs.ok p hp).grow hs.lt (Below.refl _ _)) hs.chain (fun p hp => ?_) c1' (by omega) hs.held⟩
        have := hs.ends p hp
        omega

set_option maxHeartbeats 1000000 in
theorem rpunch_any {w : World} {G : Nat → Prop} {g : Nat} {ls : List Lp} {N at_ n : Int} (h : RSpan w G g ls N) :
    Calls Try.prog 44 #[.pointer (some ⟨g, 0, none⟩), .int .i64 at_, .int .i64 n] w fun e w' => e = .returned (.int .i64 (punchOf (lpcs ls) N at_ n).1) ∧ AfterR w G g (punchOf (lpcs ls) N at_ n).2.1 (punchOf (lpcs ls) N at_ n).2.2 w' := by
  obtain ⟨A, c, ht, hO, hF⟩ := h.top
  have g1 : w.cell? ⟨g, 1, none⟩ = some (.int .i64 N) := cell_of_heap ht rfl
  have hh := box h
  unfold punchOf
  by_cases c1 : at_ < 0 ∨ n < 0
  · rw [if_pos c1]
    clear h ht hO hF
    by_cases c2 : at_ < 0
    · clear c1
      go_enter Try.func44, Try.ntmps44
      go_wp2
      go_ret
      exact ⟨rfl, hh.out.after (Below.refl _ _)⟩
    · have c3 : n < 0 := by omega
      clear c1
      go_enter Try.func44, Try.ntmps44
      go_wp2
      go_ret
      exact ⟨rfl, hh.out.after (Below.refl _ _)⟩
  · rw [if_neg c1]
    have c2 : 0 ≤ at_ := by omega
    have c3 : 0 ≤ n := by omega
    by_cases c4 : at_ < N ∧ 0 < n
    · rw [if_pos c4]
      obtain ⟨c5, c6⟩ := c4
      have e6 : (n == 0) = false := by rw [beq_eq_false_iff_ne]; omega
      have hN1 := h.n1
      obtain ⟨m, hm⟩ : ∃ m, min n (N - at_) = m := ⟨_, rfl⟩
      have hm1 : 0 < m := by omega
      have hm2 : at_ + m ≤ N := by omega
      rw [hm]
      have hcl := box (taken_any h c2 (show at_ < at_ + m by omega) (by omega))
      have htk := box (taken_held (fr := at_) (tt := at_ + m) h.chain (by omega))
      have hok := box (fun p (hp : p ∈ ltaken at_ (at_ + m) ls) => (show LpOk w G p by
        obtain ⟨q, hq, hs⟩ := ltaken_sub hp fun q hq => (h.pc_bd hq).2.2.2.1
        exact hs.ok (h.ok q hq)))
      replace ht := box ht
      clear h hO hF c1
      go_enter Try.func44, Try.ntmps44
      go_wp2_with fail
      refine hcl.out.mono ?_
      rintro e w1 ⟨A1, k1, rfl, hO1, hb1⟩
      have ht1 := (hb1.block g (lt_of_heap ht.out)).trans ht.out
      have g0' : w1.cell? ⟨g, 0, none⟩ = some (.slice A ls.length c) := cell_of_heap ht1 rfl
      have f0' : w1.frozen? ⟨g, 0, none⟩ = false := frozen_of_heap ht1
      replace ht1 := box ht1
      replace hO1 := box hO1
      replace hb1 := box hb1
      clear hcl g1
      go_wp2
      go_ret
      refine ⟨rfl, ?_⟩
      have hs := hh.out
      rw [← htk.out]
      refine hs.remake hb1.out set_chg (block_set ht1.out _) (.inl hO1.out) (fun p hp => (hok.out p hp).grow hs.lt hb1.out) ?_ ?_ hs.n0 hs.n1 ?_
      · rw [htk.out]; exact cut_chain hs.chain (by omega) (by omega)
      · rw [htk.out]; exact cut_ends hs.chain hs.ends (by omega)
      · rw [htk.out]; exact Nat.le_trans (cut_held (by omega)) hs.held
    · rw [if_neg c4]
      clear h ht hO hF c1
      by_cases c5 : at_ < N
      · have c6 : n = 0 := by omega
        subst c6
        clear c4
        go_enter Try.func44, Try.ntmps44
        go_wp2
        go_ret
        exact ⟨rfl, hh.out.after (Below.refl _ _)⟩
      · clear c4
        go_enter Try.func44, Try.ntmps44
        go_wp2
        go_ret
        exact ⟨rfl, hh.out.after (Below.refl _ _)⟩
end Go.Proofs.Ytajfamjdfhjdeaa
