/- Put, up to the pieces cleared. -/
import Derived.Test.YtajfamjdfhjdeaaCut
import Derived.Deep.DeepCutAuto
import Derived.Laws.Tables
namespace Go.Proofs.Ytajfamjdfhjdeaa
open Go.RowKit
attribute [local go_sem ↓] Go.wp_at_zero Go.wp_at_succ

@[go_sem] theorem pc_build (x : Int) (A : Option Addr) (n c : Nat) (w : World) : (Instr.build 122 #[(0, .int .i64 x), (1, .slice A n c)]).run Try.prog w = .ok (.agg #[.int .i64 x, .slice A n c]) w := run_build w 122 _ _ (by kernel_rfl)

/-- What Put does: its answer, the pieces, the size. -/
def putOf (ps : List Pc) (N at_ : Int) (b : List Int) : Int × List Pc × Int :=
  if at_ < 0 then (2, ps, N) else if b.length = 0 then (0, ps, N) else if 1073741824 - (b.length : Int) < at_ then (3, ps, N)
  else if 4194304 < heldS (aheadS at_ ps ++ behindS at_ (at_ + (b.length : Int)) ps) + b.length then (3, ps, N)
  else (0, layS at_ b (aheadS at_ ps) (behindS at_ (at_ + (b.length : Int)) ps), max N (at_ + (b.length : Int)))

theorem behind_ex : ∀ {ps : List Pc} {lo : Int} (at_ : Int), Chain lo ps → ∃ j, Behind ps at_ j
  | [], _, _, _ => ⟨0, Nat.le_refl _, fun _ h => (by cases h), fun _ h => (by cases h)⟩
  | p :: ps, lo, at_, h => by
    by_cases hp : pEnd p ≤ at_
    · obtain ⟨j, h1, h2, h3⟩ := behind_ex at_ h.2.2.2
      refine ⟨j + 1, by rw [List.length_cons]; omega, fun q hq => ?_, h3⟩
      rw [List.take_succ_cons] at hq
      rcases List.mem_cons.1 hq with rfl | hq
      · exact hp
      · exact h2 q hq
    · refine ⟨0, Nat.zero_le _, fun _ h => (by cases h), fun q hq => ?_⟩
      rcases List.mem_cons.1 hq with rfl | hq
      · omega
      · have h1 := h.2.2.2.lo q hq
        have e := pEnd_eq q
        omega
theorem behind_one {ps : List Pc} {at_ : Int} {j j' : Nat} (h : Behind ps at_ j) (h' : Behind ps at_ j') : j = j' := by
  rcases Nat.lt_trichotomy j j' with hlt | rfl | hlt
  · have hl : j < ps.length := by have := h'.1; omega
    have h1 := h'.2.1 ps[j] (List.mem_iff_getElem?.2 ⟨j, by rw [List.getElem?_take_of_lt hlt, List.getElem?_eq_getElem hl]⟩)
    have h2 := h.2.2 ps[j] (List.mem_iff_getElem?.2 ⟨0, by rw [List.getElem?_drop, Nat.add_zero, List.getElem?_eq_getElem hl]⟩)
    omega
  · rfl
  · have hl : j' < ps.length := by have := h.1; omega
    have h1 := h.2.1 ps[j'] (List.mem_iff_getElem?.2 ⟨j', by rw [List.getElem?_take_of_lt hlt, List.getElem?_eq_getElem hl]⟩)
    have h2 := h'.2.2 ps[j'] (List.mem_iff_getElem?.2 ⟨0, by rw [List.getElem?_drop, Nat.add_zero, List.getElem?_eq_getElem hl]⟩)
    omega
theorem behind_is {w : World} {B g j : Nat} {ps : List Pc} {N at_ : Int} (h : Span w B g ps N) (hB : B ≤ w.heap.size) (hj : Behind ps at_ j) :
    Calls Try.prog 55 #[.pointer (some ⟨g, 0, none⟩), .int .i64 at_] w fun e w' => e = .returned (.int .i64 (j : Int)) ∧ Below w.heap.size w w' := by
  refine (behind_any h hB).mono fun e w' ⟨j', h1, h2, h3⟩ => ?_
  obtain rfl := behind_one hj h2
  exact ⟨h1, h3⟩

/-- The bytes lie within one piece. -/
def Within (ps : List Pc) (at_ en : Int) (j : Nat) : Prop := ∃ p, ps[j]? = some p ∧ p.1 ≤ at_ ∧ en ≤ pEnd p

theorem Ends.mono {N N' : Int} {ps : List Pc} (h : Ends N ps) (hN : N ≤ N') : Ends N' ps := fun p hp => by
  have := h p hp
  omega
theorem RowL.past {w w' : World} {B : Nat} {A : Option Addr} {q : List Lp} (h : RowL w B A q) (hb : Below w.heap.size w w') : RowL w' B A q := by
  intro hn
  obtain ⟨b, o, e, hbB, hc⟩ := h hn
  refine ⟨b, o, e, hbB, fun i p hp => ?_⟩
  obtain ⟨h1, h2⟩ := hc i p hp
  exact ⟨cell_past hb h1, cell_past hb h2⟩

theorem own8_open {w : World} {base n c : Nat} {A : Option Addr} {zs : List Int} (h : Own8 w base A n c zs) (hn : 0 < n) :
    ∃ g cur, A = some ⟨g, 0, none⟩ ∧ base ≤ g ∧ w.heap[g]? = some (.cells cur 5 (0, 0)) ∧ n ≤ c ∧ c ≤ 9223372036854775807 ∧ zs.length = n ∧ ∀ j, j < n → cur[j]? = some (.int .u8 (zs.getD j 0)) := by
  rcases h.2 with ⟨h1, h2⟩ | ⟨g, cap, cur, h1, h2, h3, h4, h5, h6, h7⟩
  · omega
  · cases h1
    have hl := h.1
    rw [u8s_length] at hl
    refine ⟨g, cur, rfl, h2, h3, h4, by unfold maxLen at h5; omega, by omega, fun j hj => ?_⟩
    have h8 := u8s_get zs j (by omega)
    rw [← h7, List.getElem?_take_of_lt (by omega)] at h8
    simpa using h8

/-- Behind Put's last store the span stands again. -/
theorem put_after {w wc w9 : World} {F : Nat → Prop} {g n c9 i2 j2 : Nat} {A9 : Option Addr} {ls l1 : List Lp} {x : Lp} {N at_ : Int} {bs : List Int} (h : SpanO w F g ls N) (hwc : Below w.heap.size w wc) (hok1 : ∀ p ∈ l1, LpOk wc F p) (hap1 : l1.Pairwise Apart)
    (hb9 : Below w.heap.size w w9) (hO9 : OwnP w9 0 A9 (l1.take i2 ++ x :: l1.drop j2).length c9 (l1.take i2 ++ x :: l1.drop j2)) (hA9 : ∀ k, blkOf A9 = some k → w.heap.size ≤ k) (hij : i2 ≤ j2)
    (hx : Own8 w9 w.heap.size x.2.1 x.2.2.2.length x.2.2.1 x.2.2.2) (hxb : Bs x.2.2.2) (hx0 : 0 < x.2.2.2.length) (hbl : bs.length = n) (hbb : Bs bs) (hn : 0 < n)
    (hpcs : lpcs (l1.take i2 ++ x :: l1.drop j2) = layS at_ bs (aheadS at_ (lpcs ls)) (behindS at_ (at_ + (n : Int)) (lpcs ls))) (h0 : 0 ≤ at_) (h1 : at_ + (n : Int) ≤ 1073741824)
    (hM : heldS (aheadS at_ (lpcs ls) ++ behindS at_ (at_ + (n : Int)) (lpcs ls)) + n ≤ 4194304) :
    After w F g (layS at_ bs (aheadS at_ (lpcs ls)) (behindS at_ (at_ + (n : Int)) (lpcs ls))) (max N (at_ + (n : Int))) ((w9.setCell ⟨g, 0, none⟩ (.slice A9 (l1.take i2 ++ x :: l1.drop j2).length c9)).setCell ⟨g, 1, none⟩ (.int .i64 (max N (at_ + (n : Int))))) := by
  subst hbl
  obtain ⟨cs, hg⟩ := h.gBlk
  obtain ⟨A0, c0, ht, _⟩ := h.top
  have hg9 : w9.heap[g]? = some (.cells #[.slice A0 ls.length c0, .int .i64 N] 120) := (hb9.block g (lt_of_heap ht)).trans ht
  have hA := ahead_chain (fr := at_) h.chain
  have hAe := ahead_ends (fr := at_) h.chain
  have hC : Chain (at_ + (bs.length : Int)) (behindS at_ (at_ + (bs.length : Int)) (lpcs ls)) := (behind_chain h.chain).mono (by omega)
  have hCe : Ends N (behindS at_ (at_ + (bs.length : Int)) (lpcs ls)) := behind_ends h.ends
  have hn1 := h.n1
  obtain ⟨b7, cur7, e7, hb7, hh7, hn7, hc7, _, hcur7⟩ := own8_open hx hx0
  rw [← hpcs]
  refine h.remake (Chg.new hb9) (set_chg.trans set_chg (fun _ _ h => h)) (block_set (block_set hg9 _) _) ⟨_, hg9⟩ hO9 (fun k hk => .inr (hA9 k hk)) ?_ ?_ ?_ ?_ (by have := h.n0; omega) (by omega) ?_
  · intro p hp
    have hold : ∀ p ∈ l1, LpOk w9 (fun k => F k ∨ (w.heap.size ≤ k ∧ k < w9.heap.size)) p := fun p hp => (hok1 p hp).keep (fun _ hk => .inl hk) (fun k _ hk _ => (hb9.block k (h.lt k hk)).trans (hwc.block k (h.lt k hk)).symm)
    rcases List.mem_append.1 hp with hp | hp
    · exact hold p (List.mem_of_mem_take hp)
    · rcases List.mem_cons.1 hp with rfl | hp
      · exact ⟨⟨b7, 0, cur7, e7, .inr ⟨hb7, lt_of_heap hh7⟩, hh7, fun j hj => by rw [Nat.zero_add]; exact hcur7 j hj⟩, hn7, hc7, hxb⟩
      · exact hold p (List.mem_of_mem_drop hp)
  · have hfar : ∀ p ∈ l1, ∀ b o, p.2.1 = some ⟨b, o, none⟩ → b < w.heap.size := fun p hp b o e => by
      obtain ⟨⟨b', o', _, e', hf, _⟩, _⟩ := hok1 p hp
      rw [e] at e'
      cases e'
      exact h.lt b hf
    refine List.pairwise_append.2 ⟨hap1.sublist (List.take_sublist _ _), List.pairwise_cons.2 ⟨fun p hp => ?_, hap1.sublist (List.drop_sublist _ _)⟩, fun p hp q hq => ?_⟩
    · intro b o b' o' e1 e2
      rw [e7] at e1
      cases e1
      have := hfar p (List.mem_of_mem_drop hp) b' o' e2
      exact .inl (by omega)
    · rcases List.mem_cons.1 hq with rfl | hq
      · intro b o b' o' e1 e2
        rw [e7] at e2
        cases e2
        have := hfar p (List.mem_of_mem_take hp) b o e1
        exact .inl (by omega)
      · have hs : (l1.take i2 ++ l1.drop j2).Pairwise Apart := hap1.sublist (by
          conv => rhs; rw [← List.take_append_drop i2 l1]
          refine List.Sublist.append (List.Sublist.refl _) ?_
          exact List.drop_sublist_drop_left _ hij)
        exact (List.pairwise_append.1 hs).2.2 p hp q hq
  · rw [hpcs]; exact lay_chain hA hAe hC hbb hn h0
  · rw [hpcs]; exact lay_ends hA hAe hC hCe
  · rw [hpcs, lay_held _ _ hA hAe hC]
    rw [heldS_append] at hM
    omega

/-! ### the pieces at both ends -/
theorem splitL_ex (at_ : Int) (C : List Pc) : ∃ (tl : Bool) (i2 : Nat) (pl : Int) (zs : List Int), splitL at_ C = (C.take i2, pl, zs) ∧
    ((tl = true ∧ i2 + 1 = C.length ∧ C[i2]? = some (pl, zs) ∧ pEnd (pl, zs) = at_) ∨ (tl = false ∧ i2 = C.length ∧ pl = at_ ∧ zs = [] ∧ ∀ k p, k + 1 = C.length → C[k]? = some p → pEnd p ≠ at_)) := by
  rcases List.eq_nil_or_concat C with rfl | ⟨C', p, rfl⟩
  · exact ⟨false, 0, at_, [], rfl, .inr ⟨rfl, rfl, rfl, rfl, fun k p h => absurd h (Nat.succ_ne_zero k)⟩⟩
  · rw [List.concat_eq_append]
    by_cases h : pEnd p = at_
    · refine ⟨true, C'.length, p.1, p.2, ?_, .inl ⟨rfl, by simp, by simp, h⟩⟩
      rw [splitL_snoc h, List.take_left]
    · refine ⟨false, (C' ++ [p]).length, at_, [], ?_, .inr ⟨rfl, rfl, rfl, rfl, fun k q hk hq => ?_⟩⟩
      · rw [List.take_length]
        exact splitL_far fun q hq => by rw [List.getLast?_concat] at hq; cases hq; exact h
      · rw [List.length_append, List.length_singleton] at hk
        obtain rfl : k = C'.length := by omega
        simp at hq
        subst hq
        exact h
theorem splitR_ex (en : Int) (C : List Pc) : ∃ (tr : Bool) (zs : List Int), (splitR en C).2 = zs ∧
    ((tr = true ∧ (splitR en C).1 = C.drop 1 ∧ C[0]? = some (en, zs)) ∨ (tr = false ∧ (splitR en C).1 = C ∧ zs = [] ∧ ∀ p, C[0]? = some p → p.1 ≠ en)) := by
  cases C with
  | nil => exact ⟨false, [], rfl, .inr ⟨rfl, rfl, rfl, fun p h => by cases h⟩⟩
  | cons q r =>
    by_cases h : q.1 = en
    · refine ⟨true, q.2, by rw [splitR_eq h], .inl ⟨rfl, by rw [splitR_eq h]; rfl, ?_⟩⟩
      rw [← h]; rfl
    · have h1 : splitR en (q :: r) = (q :: r, []) := if_neg h
      refine ⟨false, [], by rw [h1], .inr ⟨rfl, by rw [h1], rfl, fun p hp => ?_⟩⟩
      cases hp
      exact h
theorem put_lpcs {l1 : List Lp} {C D : List Pc} {i2 j2 : Nat} {pl at_ : Int} {A : Option Addr} {c n : Nat} {zl zr bs : List Int} (hl : lpcs l1 = C ++ D) (hn : bs.length = n) (h1 : splitL at_ C = (C.take i2, pl, zl)) (h2 : i2 ≤ C.length) (h3 : (splitR (at_ + (n : Int)) D).2 = zr)
    (h4 : (j2 = C.length ∧ (splitR (at_ + (n : Int)) D).1 = D) ∨ (j2 = C.length + 1 ∧ (splitR (at_ + (n : Int)) D).1 = D.drop 1)) : lpcs (l1.take i2 ++ (pl, A, c, zl ++ bs ++ zr) :: l1.drop j2) = layS at_ bs C D := by
  subst hn
  have e1 : lpcs (l1.take i2 ++ (pl, A, c, zl ++ bs ++ zr) :: l1.drop j2) = (lpcs l1).take i2 ++ (pl, zl ++ bs ++ zr) :: (lpcs l1).drop j2 := by unfold lpcs; simp [lpc]
  rw [e1, hl, List.take_append_of_le_length h2]
  unfold layS
  rw [h1, h3]
  rcases h4 with ⟨rfl, h4⟩ | ⟨rfl, h4⟩
  · rw [h4, List.drop_left]
  · rw [h4, List.drop_append, List.drop_of_length_le (by omega), List.nil_append, Nat.add_sub_cancel_left]

theorem own8_set {w : World} {ow o : Nat} {v : Value} {cs : Array Value} {base n c : Nat} {A : Option Addr} {zs : List Int} (h : Own8 w base A n c zs) (hw : w.heap[ow]? = some (.cells cs 122)) : Own8 (w.setCell ⟨ow, o, none⟩ v) base A n c zs := by
  refine ⟨h.1, ?_⟩
  rcases h.2 with h | ⟨g, cap, cur, h1, h2, h3, h4⟩
  · exact .inl h
  · exact .inr ⟨g, cap, cur, h1, h2, ((set_chg (g := ow) (o := o) (v := v)).block g (lt_of_heap h3) (not_g hw h3 (by decide))).trans h3, h4⟩
theorem own8_base {w : World} {base base' n c : Nat} {A : Option Addr} {zs : List Int} (h : Own8 w base A n c zs) (hb : base' ≤ base) : Own8 w base' A n c zs := by
  refine ⟨h.1, ?_⟩
  rcases h.2 with h | ⟨g, cap, cur, h1, h2, h3⟩
  · exact .inl h
  · exact .inr ⟨g, cap, cur, h1, Nat.le_trans hb h2, h3⟩
theorem ret_i1 (i : Nat) (h : i ≤ 4294967296) : Value.int .i64 (wrap64 ((i : Int) + 1)) = Value.int .i64 ((i + 1 : Nat) : Int) := by
  rw [IntWalk.wrap64_in _ (by omega), Int.natCast_add, Int.natCast_one]
theorem own8_chg {w w' : World} {F : Nat → Prop} {base n c : Nat} {A : Option Addr} {zs : List Int} (h : Own8 w base A n c zs) (hc : Chg F w w') (hF : ∀ k, F k → ∃ cur, w.heap[k]? = some (.cells cur 122 (0, 0))) : Own8 w' base A n c zs := by
  refine ⟨h.1, ?_⟩
  rcases h.2 with h | ⟨g, cap, cur, h1, h2, h3, h4⟩
  · exact .inl h
  · refine .inr ⟨g, cap, cur, h1, h2, (hc.block g (lt_of_heap h3) fun hg => ?_).trans h3, h4⟩
    obtain ⟨cur', hk⟩ := hF g hg
    exact not_g hk h3 (by decide) rfl
theorem below_chg {w w' : World} {F : Nat → Prop} {B : Nat} (hc : Chg F w w') (hB : B ≤ w.heap.size) (hF : ∀ k, F k → B ≤ k) : Below B w w' :=
  ⟨hc.os, hc.tape, hc.output, hc.size, fun k hk => hc.block k (by omega) fun h => by have := hF k h; omega⟩
end Go.Proofs.Ytajfamjdfhjdeaa
