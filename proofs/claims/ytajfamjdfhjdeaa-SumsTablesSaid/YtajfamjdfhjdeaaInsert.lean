/- slices.Insert of one piece. -/
import Derived.Test.YtajfamjdfhjdeaaCopyP
namespace Go.Proofs.Ytajfamjdfhjdeaa
open Go.RowKit
attribute [local go_sem ↓] Go.wp_at_zero Go.wp_at_succ

theorem OwnP.open_ {w : World} {base n c : Nat} {A : Option Addr} {l : List Lp} (h : OwnP w base A n c l) (hn : 0 < n) :
    ∃ g cur, A = some ⟨g, 0, none⟩ ∧ base ≤ g ∧ g < w.heap.size ∧ w.heap[g]? = some (.cells cur 122 (0, 0)) ∧ n ≤ c ∧ c ≤ 9223372036854775807 ∧ cur.size = c * 2 ∧ cur.toList.take (n * 2) = lcells l := by
  rcases h.2 with ⟨h1, h2⟩ | ⟨g, cap, cur, h1, h2, h3, h4, h5, h6, h7⟩
  · omega
  · cases h1
    exact ⟨g, cur, rfl, h2, lt_of_heap h3, h3, h4, by unfold maxLen at h5; omega, h6, h7⟩
theorem OwnP.make_ {w : World} {base n c g : Nat} {L : List Value} {l : List Lp} (hg : w.heap[g]? = some (.cells L.toArray 122 (0, 0))) (hb : base ≤ g) (hnc : n ≤ c) (hc : c ≤ 9223372036854775807) (hl : L.length = c * 2) (ht : L.take (n * 2) = lcells l) (hn : l.length = n) : OwnP w base (some ⟨g, 0, none⟩) n c l := by
  refine ⟨by rw [lcells_len, hn], .inr ⟨g, c, L.toArray, rfl, hb, hg, hnc, by unfold maxLen; omega, by simpa using hl, by simpa using ht⟩⟩
/-- A piece that lies in a block of its own. -/
def PcIn (w : World) (vb : Nat) (x : Lp) : Prop := w.heap[vb]? = some (.cells #[.int .i64 x.1, .slice x.2.1 x.2.2.2.length x.2.2.1] 122 (0, 0))
theorem PcIn.src {w : World} {vb : Nat} {x : Lp} (h : PcIn w vb x) : Src w w.heap.size 2 (some ⟨vb, 0, none⟩) 1 (lcells [x]) := by
  refine ⟨rfl, fun _ => ⟨vb, 0, rfl, lt_of_heap h, fun j u hu => ?_⟩⟩
  rw [Nat.zero_add]
  refine cell_of_heap h ?_
  have hl := (List.getElem?_eq_some_iff.1 hu).1
  rw [lcells_len] at hl
  have : j = 0 ∨ j = 1 := by simp at hl; omega
  rcases this with rfl | rfl <;> exact hu
/-- The block of an address. -/
def blkOf (A : Option Addr) : Option Nat := A.map (·.block)
theorem own_blk (A : Option Addr) (n c : Nat) : (Value.slice A n c).ownBlock = blkOf A := by cases A <;> rfl
/-- What Insert and Replace leave. -/
def Put1 (w : World) (base : Nat) (A : Option Addr) (ls' : List Lp) (A' : Option Addr) (c' : Nat) (w' : World) : Prop :=
  OwnP w' base A' ls'.length c' ls' ∧ Chg (fun k => blkOf A = some k) w w' ∧ ∀ k, blkOf A' = some k → blkOf A = some k ∨ w.heap.size ≤ k

theorem put_grown {w w' : World} {row : Option Nat} (h : w.grownBy w' row) : Chg (fun k => row = some k) w w' :=
  ⟨h.os, h.tape, h.output, h.size, fun k hk hn => h.block k hk fun e => hn e.symm⟩

theorem insert_end {w : World} {base n c vb : Nat} {A : Option Addr} {ls : List Lp} {x : Lp} (ho : OwnP w base A n c ls) (hv : PcIn w vb x) (hn : n ≤ 4294967294) (hbase : base ≤ w.heap.size) :
    Calls Try.prog 79 #[.slice A n c, .int .i64 (n : Int), .slice (some ⟨vb, 0, none⟩) 1 1] w fun e w' => ∃ A' c', e = .returned (.slice A' (n + 1) c') ∧ Put1 w base A (ls ++ [x]) A' c' w' := by
  have hs := box hv.src
  have hO := box ho
  have hcap := own_cap ho
  have h1 : (n : Int) ≤ (c : Int) := by omega
  have h2 : (0 : Int) ≤ (n : Int) := by omega
  have hl := ho.len
  replace hl := box hl
  clear ho hv
  go_enter Try.func79, Try.ntmps79
  set_option maxRecDepth 8000 in
  go_wp2_with (at_builtin; refine appP _ (.tmp 23) (.tmp 24) base hO.out hs.out rfl rfl rfl rfl (by omega) hbase ?_; intro A1 c1 w1 O1 G1 K1)
  all_goals
    go_ret
    have hlen : (ls ++ [x]).length = n + 1 := by rw [List.length_append, hl.out]; rfl
    have hG := put_grown G1.out
    have hK := K1.out
    rw [own_blk, own_blk] at hK
    rw [own_blk] at hG
    refine ⟨A1, c1, rfl, by rw [hlen]; exact O1.out, hG, fun k hk => ?_⟩
    rcases hK with h | h
    · exact .inl (h.symm.trans hk)
    · rw [h] at hk
      cases hk
      exact .inr (Nat.le_refl _)

theorem ins_list {ls : List Lp} {i : Nat} {x : Lp} (hi : i ≤ ls.length) : (ls.take i ++ x :: ls.drop i).length = ls.length + 1 := by
  rw [List.length_append, List.length_cons, List.length_take, List.length_drop]
  omega

theorem ins_grown {ls : List Lp} {n i G : Nat} {x : Lp} {L0 : List Value} (h : L0 = lcells (ls.take i) ++ zpc (n + 1 - i) ++ zpc (G - (n + 1))) (hl : ls.length = n) (hi : i ≤ n) (hG : n + 1 ≤ G) :
    (splice (splice L0 (i * 2) (lcells [x])) ((i + 1) * 2) (lcells (ls.drop i))).length = G * 2 ∧ (splice (splice L0 (i * 2) (lcells [x])) ((i + 1) * 2) (lcells (ls.drop i))).take ((n + 1) * 2) = lcells (ls.take i ++ x :: ls.drop i) := by
  have hL : L0.length = G * 2 := by rw [h, List.length_append, List.length_append, lcells_len, zpc_len, zpc_len, List.length_take, hl]; omega
  have hx : (lcells [x]).length = 2 := rfl
  have hd : (lcells (ls.drop i)).length = (n - i) * 2 := by rw [lcells_len, List.length_drop, hl]
  have ht : (lcells (ls.take i)).length = i * 2 := by rw [lcells_len, List.length_take, hl]; omega
  have h1 : (splice L0 (i * 2) (lcells [x])).length = G * 2 := by rw [length_splice _ _ _ (by omega), hL]
  have h2 : (splice (splice L0 (i * 2) (lcells [x])) ((i + 1) * 2) (lcells (ls.drop i))).length = G * 2 := by rw [length_splice _ _ _ (by omega), h1]
  refine ⟨h2, ?_⟩
  have e : lcells (ls.take i ++ x :: ls.drop i) = lcells (ls.take i) ++ (lcells [x] ++ lcells (ls.drop i)) := by
    rw [lcells_append]
    rfl
  rw [e]
  apply List.ext_getElem?
  intro j
  rw [List.getElem?_take]
  split
  · rename_i hj
    rw [splice_get _ _ _ (by omega), hd]
    by_cases hj1 : j < i * 2
    · rw [if_neg (by omega), splice_get _ _ _ (by omega), if_neg (by omega), h, List.append_assoc, List.getElem?_append_left (by omega), List.getElem?_append_left (by omega)]
    · by_cases hj2 : j < (i + 1) * 2
      · rw [if_neg (by omega), splice_get _ _ _ (by omega), if_pos (by omega), List.getElem?_append_right (by omega), ht, List.getElem?_append_left (by omega)]
      · rw [if_pos (by omega), List.getElem?_append_right (by omega), ht, List.getElem?_append_right (by omega), hx]
        congr 1
        omega
  · rw [List.getElem?_eq_none (by rw [List.length_append, List.length_append, ht, hx, hd]; omega)]

set_option maxHeartbeats 2000000 in
theorem insert_grow {w : World} {base n c i vb : Nat} {A : Option Addr} {ls : List Lp} {x : Lp} (ho : OwnP w base A n c ls) (hv : PcIn w vb x) (hn : n ≤ 4294967294) (hbase : base ≤ w.heap.size) (hi : i < n) (hc : c < n + 1) :
    Calls Try.prog 79 #[.slice A n c, .int .i64 (i : Int), .slice (some ⟨vb, 0, none⟩) 1 1] w fun e w' => ∃ A' c', e = .returned (.slice A' (n + 1) c') ∧ Put1 w base A (ls.take i ++ x :: ls.drop i) A' c' w' := by
  have hs := box hv.src
  have hl := ho.len
  obtain ⟨g, cur, rfl, hgb, hglt, hg, hnc, hcm, hcs, hct⟩ := ho.open_ (by omega)
  have hsrc := box (ho.src_take (j := i) (by omega))
  have hrest : Box (∀ (W : World), Below w.heap.size w W → ∀ j v, (lcells (ls.drop i))[j]? = some v → W.cell? ((⟨g, i * 2, none⟩ : Addr).add j) = some v) := ⟨fun W hW j v hj => by
    rw [add_at]
    have hjl := (List.getElem?_eq_some_iff.1 hj).1
    rw [lcells_len, List.length_drop] at hjl
    rw [← lcells_drop, List.getElem?_drop, ← hct, List.getElem?_take_of_lt (by omega)] at hj
    refine (hW.cell (p := ⟨g, i * 2 + j, none⟩) hglt).trans (cell_of_heap hg ?_)
    simpa using hj⟩
  have e1 : ((i : Int) == (n : Int)) = false := by rw [beq_eq_false_iff_ne]; omega
  have h1 : (i : Int) ≤ (n : Int) := by omega
  have h2 : (0 : Int) ≤ (i : Int) := by omega
  have h3 : (n : Int) ≤ (c : Int) := by omega
  have h4 : (c : Int) < (n : Int) + 1 := by omega
  have h5 : ¬ (c = i) := by omega
  have hkk : (n : Int) + 1 - (i : Int) = ((n + 1 - i : Nat) : Int) := by omega
  have hik : i + (n + 1 - i) = n + 1 := by omega
  replace hkk := box hkk
  replace hct := box hct
  replace hl := box hl
  replace hg := box hg
  clear ho hv
  obtain ⟨w1, G, hrun, hrow, hG1, hG2, hb1⟩ := run_growZ w 118 (some ⟨g, 0, none⟩) i c (n + 1 - i) (lcells (ls.take i)) _ hkk.out hsrc.out (by omega) (by omega) (by omega)
  rw [hik] at hrun hrow hG1
  have q1 : ¬ (G = i) := by omega
  have q2 : (i : Int) ≤ ((n + 1 : Nat) : Int) := by omega
  have q3 : ((n + 1 : Nat) : Int) ≤ (G : Int) := by omega
  replace hrow := box hrow
  replace hb1 := box hb1
  clear hik
  go_enter Try.func79, Try.ntmps79
  set_option maxRecDepth 8000 in
  obtain ⟨L0, hL0⟩ : ∃ L0, L0 = lcells (ls.take i) ++ zpc (n + 1 - i) ++ zpc (G - (n + 1)) := ⟨_, rfl⟩
  have hL0l : L0.length = G * 2 := by rw [hL0, List.length_append, List.length_append, lcells_len, zpc_len, zpc_len, List.length_take, hl.out]; omega
  have hrow1 := hrow.out
  rw [← hL0] at hrow1
  replace hrow1 := box hrow1
  replace hL0 := box hL0
  replace hL0l := box hL0l
  have hsv := hs.out
  obtain ⟨vb', vo', he, -, hvc⟩ := hsv.2 (by omega)
  cases he
  have hvc1 : Box (∀ j v, (lcells [x])[j]? = some v → w1.cell? ((⟨vb, 0, none⟩ : Addr).add j) = some v) := ⟨fun j v hj => by
    rw [add_at]
    exact cell_past hb1.out (hvc j v hj)⟩
  clear hsv hvc hrow
  have r1 : ¬ (G = i + 1) := by omega
  have r2 : (i : Int) + 1 ≤ ((n + 1 : Nat) : Int) := by omega
  have r3 : (0 : Int) ≤ (i : Int) + 1 := by omega
  have r4 : IntKind.i64.wrap ((i : Int) + 1) = (i : Int) + 1 := IntWalk.i64_in _ (by omega)
  have r5 : ((i : Int) + 1).toNat = i + 1 := by omega
  go_wp2_with (first
    | (at_builtin; refine Lib.wpList_append_run _ rfl _ _ _ _ rfl _ _ rfl rfl _ _ hrun ?_)
    | (refine copyPc _ (.tmp 43) (.tmp 44) (some ⟨w.heap.size, i * 2, none⟩) (some ⟨vb, 0, none⟩) (n + 1 - i) (G - i) 1 1 w.heap.size (i * 2) L0 (lcells [x]) rfl rfl rfl rfl hrow1.out (by show 2 = min 1 (n + 1 - i) * 2; omega) (fun _ => ⟨rfl, _, rfl, hvc1.out⟩) (by rw [hL0l.out, lcells_len]; show i * 2 + 1 * 2 ≤ _; omega) (lcells_one _) ?_; intro w2 hrow2 hc2))
  clear hrun
  go_region_held3 (fun _ => True) (trivial)
    ((refine step_copyPc (.tmp 50) (.tmp 53) (some ⟨w.heap.size, (i + 1) * 2, none⟩) (some ⟨g, i * 2, none⟩) (n - i) (G - (i + 1)) (n - i) (c - i) w.heap.size ((i + 1) * 2) (splice L0 (i * 2) (lcells [x])) (lcells (ls.drop i)) (by rfl) (by rfl) (by rfl) (by rfl) (by exact hrow2.out) (by rw [lcells_len, List.length_drop, hl.out]; show (n - i) * 2 = min (n - i) (n - i) * 2; omega) (fun _ => ⟨rfl, _, rfl, by exact (hrest.out w2 (laid_below hb1.out hc2.out))⟩) (by rw [length_splice _ _ _ (by rw [hL0l.out, lcells_len]; show i * 2 + 1 * 2 ≤ _; omega), hL0l.out, lcells_len, List.length_drop, hl.out]; omega) (lcells_one _) ?_; intro w3 hrow3 hc3))
  have hfin := ins_grown (G := G) (i := i) (n := n) hL0.out hl.out (by omega) hG1 (x := x)
  have hlen := ins_list (ls := ls) (i := i) (x := x) (by rw [hl.out]; omega)
  rw [hl.out] at hlen
  replace hfin := box hfin
  replace hlen := box hlen
  go_wp2
  go_ret
  have hball := laid_below (laid_below hb1.out hc2.out) (chg_undrew hc3.out)
  refine ⟨_, G, rfl, ?_, Chg.new hball, fun k hk => by cases hk; exact .inr (Nat.le_refl _)⟩
  rw [hlen.out]
  exact OwnP.make_ hrow3.out hbase hG1 hG2 hfin.out.1 hfin.out.2 hlen.out

theorem ins_room {ls : List Lp} {n i c : Nat} {x : Lp} {L0 : List Value} (h : L0.take (n * 2) = lcells ls) (hL : L0.length = c * 2) (hl : ls.length = n) (hi : i ≤ n) (hG : n + 1 ≤ c) :
    (splice (splice L0 ((i + 1) * 2) (lcells (ls.drop i))) (i * 2) (lcells [x])).length = c * 2 ∧ (splice (splice L0 ((i + 1) * 2) (lcells (ls.drop i))) (i * 2) (lcells [x])).take ((n + 1) * 2) = lcells (ls.take i ++ x :: ls.drop i) := by
  have hx : (lcells [x]).length = 2 := rfl
  have hd : (lcells (ls.drop i)).length = (n - i) * 2 := by rw [lcells_len, List.length_drop, hl]
  have ht : (lcells (ls.take i)).length = i * 2 := by rw [lcells_len, List.length_take, hl]; omega
  have h1 : (splice L0 ((i + 1) * 2) (lcells (ls.drop i))).length = c * 2 := by rw [length_splice _ _ _ (by omega), hL]
  have h2 : (splice (splice L0 ((i + 1) * 2) (lcells (ls.drop i))) (i * 2) (lcells [x])).length = c * 2 := by rw [length_splice _ _ _ (by omega), h1]
  refine ⟨h2, ?_⟩
  have e : lcells (ls.take i ++ x :: ls.drop i) = lcells (ls.take i) ++ (lcells [x] ++ lcells (ls.drop i)) := by
    rw [lcells_append]
    rfl
  rw [e]
  apply List.ext_getElem?
  intro j
  rw [List.getElem?_take]
  split
  · rename_i hj
    rw [splice_get _ _ _ (by omega), hx]
    by_cases hj1 : j < i * 2
    · rw [if_neg (by omega), splice_get _ _ _ (by omega), if_neg (by omega), List.getElem?_append_left (by omega), ← lcells_take, ← h, List.take_take, List.getElem?_take_of_lt (by omega)]
    · by_cases hj2 : j < (i + 1) * 2
      · rw [if_pos (by omega), List.getElem?_append_right (by omega), ht, List.getElem?_append_left (by omega)]
      · rw [if_neg (by omega), splice_get _ _ _ (by omega), if_pos (by omega), List.getElem?_append_right (by omega), ht, List.getElem?_append_right (by omega), hx]
        congr 1
        omega
  · rw [List.getElem?_eq_none (by rw [List.length_append, List.length_append, ht, hx, hd]; omega)]

set_option maxHeartbeats 2000000 in
theorem insert_room {w : World} {base n c i vb : Nat} {A : Option Addr} {ls : List Lp} {x : Lp} (ho : OwnP w base A n c ls) (hv : PcIn w vb x) (hvb : blkOf A ≠ some vb) (hn : n ≤ 4294967294) (hi : i < n) (hc : n + 1 ≤ c) :
    Calls Try.prog 79 #[.slice A n c, .int .i64 (i : Int), .slice (some ⟨vb, 0, none⟩) 1 1] w fun e w' => ∃ A' c', e = .returned (.slice A' (n + 1) c') ∧ Put1 w base A (ls.take i ++ x :: ls.drop i) A' c' w' := by
  have hl := ho.len
  obtain ⟨g, cur, rfl, hgb, hglt, hg, hnc, hcm, hcs, hct⟩ := ho.open_ (by omega)
  have hne : vb ≠ g := fun h => hvb (by rw [h]; rfl)
  have hov := fun lb cb => overlaps_no w vb g ((i + 1) * 2) 1 1 lb cb _ cur hv hg hne (by omega)
  obtain ⟨L0, rfl⟩ : ∃ L0 : List Value, cur = L0.toArray := ⟨cur.toList, by simp⟩
  have hL0 : L0.length = c * 2 := by simpa using hcs
  have hct' : L0.take (n * 2) = lcells ls := by simpa using hct
  have hrest : Box (∀ j v, (lcells (ls.drop i))[j]? = some v → w.cell? ((⟨g, i * 2, none⟩ : Addr).add j) = some v) := ⟨fun j v hj => by
    rw [add_at]
    have hjl := (List.getElem?_eq_some_iff.1 hj).1
    rw [lcells_len, List.length_drop] at hjl
    rw [← lcells_drop, List.getElem?_drop, ← hct', List.getElem?_take_of_lt (by omega)] at hj
    refine cell_of_heap hg ?_
    simpa using hj⟩
  obtain ⟨vb', vo', he, -, hvc⟩ := hv.src.2 (by omega)
  cases he
  have hvc1 : Box (∀ (W : World), Chg (fun k => k = g) w W → ∀ j v, (lcells [x])[j]? = some v → W.cell? ((⟨vb, 0, none⟩ : Addr).add j) = some v) := ⟨fun W hW j v hj => by
    rw [add_at]
    exact cell_chg hW hne (hvc j v hj)⟩
  have e1 : ((i : Int) == (n : Int)) = false := by rw [beq_eq_false_iff_ne]; omega
  have h1 : (i : Int) ≤ (n : Int) := by omega
  have h2 : (0 : Int) ≤ (i : Int) := by omega
  have h3 : (n : Int) ≤ (c : Int) := by omega
  have h4 : ¬ (c : Int) < (n : Int) + 1 := by omega
  have h5 : ¬ (c = i) := by omega
  have h6 : (n : Int) + 1 ≤ (c : Int) := by omega
  have r1 : ¬ (c = i + 1) := by omega
  have r2 : (i : Int) + 1 ≤ (n : Int) + 1 := by omega
  have r6 : (i : Int) ≤ ((n + 1 : Nat) : Int) := by omega
  have r8 : (i : Int) ≤ (n : Int) + 1 := by omega
  have r7 : (i : Int) + 1 ≤ ((n + 1 : Nat) : Int) := by omega
  have r3 : (0 : Int) ≤ (i : Int) + 1 := by omega
  have r4 : IntKind.i64.wrap ((i : Int) + 1) = (i : Int) + 1 := IntWalk.i64_in _ (by omega)
  have r5 : ((i : Int) + 1).toNat = i + 1 := by omega
  replace hct' := box hct'
  replace hL0 := box hL0
  replace hl := box hl
  replace hg := box hg
  clear ho hv hvc hct hcs hvb
  go_enter Try.func79, Try.ntmps79
  set_option maxRecDepth 8000 in
  go_wp2_with (simp only [hov])
  clear hov
  go_region_held3 (fun _ => True) (trivial)
    ((refine step_copyPc (.tmp 73) (.tmp 76) (some ⟨g, (i + 1) * 2, none⟩) (some ⟨g, i * 2, none⟩) (n - i) (c - (i + 1)) (n + 1 - i) (c - i) g ((i + 1) * 2) L0 (lcells (ls.drop i)) (by rfl) (by rfl) (by rfl) (by rfl) (by exact hg.out) (by rw [lcells_len, List.length_drop, hl.out]; show (n - i) * 2 = min (n + 1 - i) (n - i) * 2; omega) (fun _ => ⟨rfl, _, rfl, by exact hrest.out⟩) (by rw [hL0.out, lcells_len, List.length_drop, hl.out]; omega) (lcells_one _) ?_; intro w2 hrow2 hc2))
  go_wp2_with (refine copyPc _ (.tmp 80) (.tmp 81) (some ⟨g, i * 2, none⟩) (some ⟨vb, 0, none⟩) (n + 1 - i) (c - i) 1 1 g (i * 2) (splice L0 ((i + 1) * 2) (lcells (ls.drop i))) (lcells [x]) rfl rfl rfl rfl hrow2.out (by show 2 = min 1 (n + 1 - i) * 2; omega) (fun _ => ⟨rfl, _, rfl, hvc1.out _ (chg_undrew hc2.out)⟩) (by rw [length_splice _ _ _ (by rw [hL0.out, lcells_len, List.length_drop, hl.out]; omega), hL0.out, lcells_len]; show i * 2 + 1 * 2 ≤ _; omega) (lcells_one _) ?_; intro w3 hrow3 hc3)
  go_ret
  have hfin := ins_room hct'.out hL0.out hl.out (show i ≤ n by omega) hc (x := x)
  have hlen := ins_list (ls := ls) (i := i) (x := x) (by rw [hl.out]; omega)
  rw [hl.out] at hlen
  refine ⟨_, c, rfl, ?_, ?_, fun k hk => .inl hk⟩
  · rw [hlen]
    exact OwnP.make_ hrow3.out hgb hc hcm hfin.1 hfin.2 hlen
  · exact ((chg_undrew hc2.out).trans hc3.out (fun _ _ h => h)).mono fun k _ hk => by rw [hk]; rfl

theorem insert_any {w : World} {base n c i vb : Nat} {A : Option Addr} {ls : List Lp} {x : Lp} (ho : OwnP w base A n c ls) (hv : PcIn w vb x) (hvb : blkOf A ≠ some vb) (hn : n ≤ 4294967294) (hbase : base ≤ w.heap.size) (hi : i ≤ n) :
    Calls Try.prog 79 #[.slice A n c, .int .i64 (i : Int), .slice (some ⟨vb, 0, none⟩) 1 1] w fun e w' => ∃ A' c', e = .returned (.slice A' (n + 1) c') ∧ Put1 w base A (ls.take i ++ x :: ls.drop i) A' c' w' := by
  have hl := ho.len
  by_cases h1 : i = n
  · subst h1
    have e : ls.take i ++ x :: ls.drop i = ls ++ [x] := by rw [List.take_of_length_le (by omega), List.drop_of_length_le (by omega)]
    rw [e]
    exact insert_end ho hv hn hbase
  · by_cases h2 : c < n + 1
    · exact insert_grow ho hv hn hbase (by omega) h2
    · exact insert_room ho hv hvb hn (by omega) (by omega)
end Go.Proofs.Ytajfamjdfhjdeaa
