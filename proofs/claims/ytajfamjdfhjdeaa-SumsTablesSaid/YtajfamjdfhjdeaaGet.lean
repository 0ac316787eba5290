/- (*span.Bytes).Size, Get. -/
import Derived.Test.YtajfamjdfhjdeaaNew
import Derived.Test.YtajfamjdfhjdeaaCopy8
namespace Go.Proofs.Ytajfamjdfhjdeaa
open Go.RowKit
attribute [local go_sem ↓] Go.wp_at_zero Go.wp_at_succ

theorem spanSize_any {w : World} {B g : Nat} {ps : List Pc} {N : Int} (h : Span w B g ps N) :
    Calls Try.prog 67 #[.pointer (some ⟨g, 0, none⟩)] w fun e w' => e = .returned (.int .i64 N) ∧ w' = w := by
  obtain ⟨A, c, ht, hc1, hc2, hp⟩ := h.top
  have g1 := cell_of_heap ht (o := 1) rfl
  clear h ht hp
  go_enter Try.func67, Try.ntmps67
  go_wp2
  go_ret
  exact ⟨rfl, rfl⟩

/-- What Get tells. -/
def getOf (ps : List Pc) (N at_ n : Int) : List Int := if N ≤ at_ then [] else stretch ps at_ (min n (N - at_)).toNat

theorem get_far {w : World} {B g : Nat} {ps : List Pc} {N at_ n : Int} (h : Span w B g ps N) (h0 : 0 ≤ at_) (hn : 0 ≤ n) (hat : N ≤ at_) :
    Calls Try.prog 73 #[.pointer (some ⟨g, 0, none⟩), .int .i64 at_, .int .i64 n] w fun e w' => e = .returned (.slice none 0 0) ∧ w' = w := by
  obtain ⟨A, c, ht, hc1, hc2, hp⟩ := h.top
  have g1 := cell_of_heap ht (o := 1) rfl
  clear h ht hp
  go_enter Try.func73, Try.ntmps73
  go_wp2
  go_ret
  exact ⟨rfl, rfl⟩

/-- The pieces' rest, and how far it is laid. -/
def Laid (w wr : World) (q : List Pc) (at_ : Int) (m i : Nat) : Prop :=
  wr.heap[w.heap.size]? = some (.cells (u8s (stretch (q.take i) at_ m)).toArray 5 (0, 0)) ∧ Below w.heap.size w wr
theorem laid_start (w : World) (q : List Pc) (at_ : Int) (m : Nat) {w1 : World} (hb : Below (w.alloc (.cells (u8s (List.replicate m 0)).toArray 5)).heap.size (w.alloc (.cells (u8s (List.replicate m 0)).toArray 5)) w1) : Laid w w1 q at_ m 0 := by
  refine ⟨?_, (Below.alloc (Below.refl _ w) (Nat.le_refl _) _).trans (hb.mono (by simp))⟩
  rw [hb.block _ (by simp), List.take_zero, stretch_nil]
  exact heap_alloc_new _ _

theorem u8s_splice (L : List Int) (d : Nat) (X : List Int) : splice (u8s L) d (u8s X) = u8s (splice L d X) := by
  unfold splice u8s
  simp
/-- One piece more is laid. -/
theorem laid_next {w wc : World} {q : List Pc} {at_ pa : Int} {pz : List Int} {m i d f cnt : Nat} (hp : q[i]? = some (pa, pz)) (hn : q.take (i + 1) = q.take i ++ q[i]?.toList)
    (hd : d + cnt ≤ m) (hf : f + cnt ≤ pz.length) (hat : at_ + d = pa + f) (h1 : d = 0 ∨ f = 0) (h2 : d + cnt = m ∨ f + cnt = pz.length)
    (hg : wc.heap[w.heap.size]? = some (.cells (splice (u8s (stretch (q.take i) at_ m)) d (u8s ((pz.drop f).take cnt))).toArray 5 (0, 0))) (hb : Below w.heap.size w wc) : Laid w wc q at_ m (i + 1) := by
  refine ⟨?_, hb⟩
  rw [hg, hn, hp, u8s_splice]
  show _ = some (Obj.cells (u8s (stretch (q.take i ++ [(pa, pz)]) at_ m)).toArray _ _)
  rw [stretch_lay (p := (pa, pz)) hd hf hat h1 h2]
theorem new_cells (w : World) (x y : Value) : (w.alloc (.cells #[x, y] 122)).cell? ⟨w.heap.size, 0, none⟩ = some x ∧ (w.alloc (.cells #[x, y] 122)).cell? ⟨w.heap.size, 1, none⟩ = some y :=
  ⟨cell_of_heap (heap_alloc_new _ _) rfl, cell_of_heap (heap_alloc_new _ _) rfl⟩
theorem chg_undrew {F : Nat → Prop} {w w' : World} (h : Chg F w.drew w') : Chg F w w' := ⟨h.os, h.tape, h.output, h.size, h.block⟩
theorem laid_below {w a wc : World} (hb : Below w.heap.size w a) (hc : Chg (fun k => k = w.heap.size) a wc) : Below w.heap.size w wc :=
  hb.trans (hc.below (fun k hk => by omega) hb.size)
/-- The source's cells. -/
theorem src_at {w : World} {b o f cnt n : Nat} {pz : List Int} (hc : ∀ j, j < n → w.cell? ⟨b, o + j, none⟩ = some (.int .u8 (pz.getD j 0))) (_ : pz.length = n) (hf : f + cnt ≤ n) :
    ∀ j v, (u8s ((pz.drop f).take cnt))[j]? = some v → w.cell? ((⟨b, o + f, none⟩ : Addr).add j) = some v := by
  intro j v hv
  rw [add_at]
  have hj : j < ((pz.drop f).take cnt).length := by have := (List.getElem?_eq_some_iff.1 hv).1; rwa [u8s_length] at this
  rw [u8s_get _ j hj] at hv
  rw [← hv, Nat.add_assoc, hc (f + j) (by rw [List.length_take, List.length_drop] at hj; omega)]
  rw [List.length_take] at hj
  simp [List.getD, show j < cnt by omega]

theorem drop_far {q : List Pc} {i : Nat} {lo a : Int} {p0 p : Pc} (hc : Chain lo q) (h0 : q[i]? = some p0) (ha : a ≤ p0.1) (hp : p ∈ q.drop i) : a ≤ p.1 := by
  obtain ⟨k, hk⟩ := List.mem_iff_getElem?.1 hp
  rw [List.getElem?_drop] at hk
  rcases Nat.eq_zero_or_pos k with rfl | hpos
  · rw [Nat.add_zero, h0] at hk
    cases hk
    exact ha
  · have h1 := hc.order (show i < i + k by omega) h0 hk
    have h2 := (hc.lo p0 (List.mem_of_getElem? h0)).2
    have e : pEnd p0 = p0.1 + (p0.2.length : Int) := rfl
    omega

set_option maxHeartbeats 4000000 in
theorem get_near {w : World} {B g : Nat} {ps : List Pc} {N at_ n : Int} (h : Span w B g ps N) (hB : B ≤ w.heap.size) (h0 : 0 ≤ at_) (hn : 0 ≤ n) (hn2 : n ≤ 65536) (hat : at_ < N) (m : Nat) (hm : min n (N - at_) = (m : Int)) :
    Calls Try.prog 73 #[.pointer (some ⟨g, 0, none⟩), .int .i64 at_, .int .i64 n] w fun e w' =>
      e = .returned (.slice (some ⟨w.heap.size, 0, none⟩) m m) ∧ w'.heap[w.heap.size]? = some (.cells (u8s (stretch ps at_ m)).toArray 5) ∧ Below w.heap.size w w' := by
  obtain ⟨A, c, ht, hc1, hc2, hp⟩ := h.top
  have g1 : w.cell? ⟨g, 1, none⟩ = some (.int .i64 N) := cell_of_heap ht rfl
  have g0 : w.cell? ⟨g, 0, none⟩ = some (.slice A ps.length c) := cell_of_heap ht rfl
  have hN1 := h.n1
  have hm1 : min n 65536 = n := by omega
  have hm2 : (m : Int) ≤ 65536 := by omega
  have hm3 : (m : Int) ≤ N - at_ := by omega
  obtain ⟨i0, hi0, hz⟩ := Option.map_eq_some_iff.1 u8_info
  simp only [Prod.mk.injEq] at hz
  have hmk := fun W => run_make_bytes (P := Try.prog) (t := 22) (e := 5) Try.underlying22 hi0 hz.1 hz.2.1 hz.2.2 .i64 .i64 m (by omega) W
  clear hz hi0
  have hcnt := h.count
  have hS := box h
  have hbh := box (fun W (hW : Below w.heap.size w W) => (behind_any (w := W) (at_ := at_) (h.past (hW.mono hB)) (by have := hW.size; omega)).mono (R' := fun e w' => ∃ j : Nat, e = .returned (.int .i64 (j : Int)) ∧ (0 : Int) ≤ (j : Int) ∧ (j : Int) ≤ (ps.length : Int) ∧ Box (Behind ps at_ j) ∧ Box (Below W.heap.size W w')) (fun e w' ⟨j, h1, h2, h3⟩ => ⟨j, h1, by omega, by have := h2.1; omega, ⟨h2⟩, ⟨h3⟩⟩))
  have bw := box (Below.alloc (Below.refl w.heap.size w) (Nat.le_refl _) (.cells (u8s (List.replicate m 0)).toArray 5))
  have hgl := lt_of_heap ht
  have g9 := box (cell_past bw.out g0)
  have hj6 : (ps.length : Int) ≤ (c : Int) := by omega
  have HP := box hp
  clear h ht hp
  go_enter Try.func73, Try.ntmps73
  set_option maxRecDepth 8000 in
  go_wp2_with fail
  go_region_held3 (fun W => W.cell? ⟨g, 0, none⟩ = some (.slice A ps.length c)) (first | go_keep | exact cell_past hb1.out g9.out)
    (with_reducible (refine Calls.mono (hbh.out _ (by first | exact bw.out | exact bw.out.drew | exact below_drewN bw.out _)) ?_); rintro e w1 ⟨j, rfl, hj1, hj2, hj, hb1⟩)
  clear hmk hbh bw g9 g0 g1
  have hL := box (laid_start w (ps.drop j) at_ m (below_undrew hb1.out))
  clear hb1
  have hj8 : j ≤ ps.length := by omega
  have HR := box (HP.out.cut hc1 hj8)
  have hch := box (hS.out.chain.drop j)
  have hse : Box (∀ p ∈ ps.drop j, (0 ≤ p.1 ∧ pEnd p ≤ 1073741824 ∧ 0 < p.2.length) ∧ at_ < pEnd p) := ⟨fun p hp => ⟨hS.out.pc_bd (List.mem_of_mem_drop hp), hj.out.2.2 p hp⟩⟩
  have hfin := box (show stretch ps at_ m = stretch (ps.drop j) at_ m by
    conv => lhs; rw [← List.take_append_drop j ps]
    exact stretch_skip hj.out.2.1)
  have hql : ps.length - j = (ps.drop j).length := by simp
  have hqc : (ps.drop j).length ≤ 1073741825 := by omega
  rw [hql]
  clear hql hS HP hcnt hj
  generalize (if c = j then A else Option.map (fun x => x.add (j * 2)) A) = V at *
  generalize c - j = c' at *
  generalize ps.drop j = q at *
  by_cases hq0 : 0 < q.length
  · obtain ⟨b, o, rfl, hbB, hpc⟩ := HR.out hq0
    replace hpc := box hpc
    clear HR
    go_wp2
    go_loopg [48] q.length (fun kx s48 wr => ∃ i : Nat, s48 = .int .i64 (i : Int) ∧ i ≤ q.length ∧ q.length - i ≤ kx ∧ Box (Laid w wr q at_ m i))
    case atStart => exact ⟨0, rfl, Nat.zero_le _, by omega, hL⟩
    case round =>
      obtain ⟨i, rfl, hi, hik, hL2⟩ := hrel
      by_cases hlt : i < q.length
      · obtain ⟨p, hpi⟩ : ∃ p, q[i]? = some p := ⟨_, List.getElem?_eq_getElem hlt⟩
        obtain ⟨A1, k1, c1, c2, c3, c4, c5⟩ := hpc.out i p hpi
        obtain ⟨hrow, hbw⟩ := hL2.out
        have hmem := List.mem_of_getElem? hpi
        obtain ⟨⟨s1, s2, s3⟩, s4⟩ := hse.out p hmem
        have hsnoc := box (List.take_add_one (l := q) (i := i))
        obtain ⟨pa, pz⟩ := p
        have hE : pEnd (pa, pz) = pa + (pz.length : Int) := rfl
        rw [hE] at s2 s4
        have d1 : wr.cell? ⟨b, o + i * 2, none⟩ = some (.int .i64 pa) := (hbw.cell (by show b < _; omega)).trans c1
        have d2 : wr.cell? ⟨b, o + i * 2 + 1, none⟩ = some (.slice A1 pz.length k1) := (hbw.cell (by show b < _; omega)).trans c2
        have hby : Byt wr B A1 pz.length pz := c5.below (hbw.mono hB)
        have hsz : w.heap.size < wr.heap.size := lt_of_heap hrow
        have i0' : (0 : Int) ≤ (i : Int) := by omega
        have i1' : (i : Int) < (q.length : Int) := by omega
        simp only at s1 s3 c3
        have HPI := box hpi
        have HBW := box hbw
        have HROW := box hrow
        have HBY := box hby
        clear hL2 hpi hbw hrow hby c1 c2 c5 hmem hE
        by_cases hA : at_ + (m : Int) ≤ pa
        · go_wp2
          go_ret
          refine ⟨rfl, ?_, HBW.out.alloc HBW.out.size _⟩
          rw [Below.heap_alloc _ _ _ hsz, HROW.out, hfin.out]
          conv => rhs; rw [← List.take_append_drop i q]
          rw [stretch_done]
          intro p hp
          exact drop_far hch.out HPI.out hA hp
        · by_cases hC : at_ ≤ pa
          · obtain ⟨d, rfl⟩ : ∃ d : Nat, pa = at_ + (d : Int) := ⟨(pa - at_).toNat, by omega⟩
            obtain ⟨b1, o1, rfl, hb1B, hc1'⟩ := HBY.out.at_ (by omega)
            replace hc1' := box hc1'
            obtain ⟨cnt, hcnt⟩ : ∃ cnt, cnt = min pz.length (m - d) := ⟨_, rfl⟩
            have k1' : cnt ≤ pz.length ∧ cnt ≤ m - d ∧ (cnt = m - d ∨ cnt = pz.length) := by omega
            have hlen : (u8s ((pz.drop 0).take cnt)).length = cnt := by rw [u8s_length, List.length_take, List.length_drop]; omega
            have hrow2 := box ((Below.heap_alloc wr (.cells #[.int .i64 (at_ + (d : Int)), .slice (some ⟨b1, o1, none⟩) pz.length k1] 122) w.heap.size hsz).trans HROW.out)
            have hsrc := box (src_at (w := wr.alloc (.cells #[.int .i64 (at_ + (d : Int)), .slice (some ⟨b1, o1, none⟩) pz.length k1] 122)) (o := o1) (f := 0) (cnt := cnt) (fun j hj => (World.cell?_alloc_lt wr _ ⟨b1, o1 + j, none⟩ (by show b1 < _; omega)).trans (hc1'.out j hj)) rfl (by omega))
            have hnew := box (new_cells wr (.int .i64 (at_ + (d : Int))) (.slice (some ⟨b1, o1, none⟩) pz.length k1))
            have hb2 := box (HBW.out.alloc HBW.out.size (.cells #[.int .i64 (at_ + (d : Int)), .slice (some ⟨b1, o1, none⟩) pz.length k1] 122))
            have v1 : at_ + (d : Int) - at_ = (d : Int) := by omega
            have v2 : ¬ (m = d) := by omega
            have v3 : (0 : Int) ≤ (d : Int) := by omega
            have v4 : (d : Int) ≤ (m : Int) := by omega
            have v5 : IntKind.i64.wrap (d : Int) = (d : Int) := IntWalk.i64_in _ (by omega)
            replace hcnt := box hcnt
            replace k1' := box k1'
            replace hlen := box hlen
            go_wp2
            go_region_held3 (fun W => W.cell? ⟨wr.heap.size, 0, none⟩ = some (.int .i64 (at_ + (d : Int))) ∧ W.cell? ⟨wr.heap.size, 1, none⟩ = some (.slice (some ⟨b1, o1, none⟩) pz.length k1)) (first | go_keep | exact ⟨cell_chg HC.out (by show ¬ (wr.heap.size = w.heap.size); omega) hnew.out.1, cell_chg HC.out (by show ¬ (wr.heap.size = w.heap.size); omega) hnew.out.2⟩)
              ((refine step_copy8 (.tmp 79) (.tmp 81) (some ⟨w.heap.size, d, none⟩) (some ⟨b1, o1, none⟩) (m - d) (m - d) pz.length k1 w.heap.size d (u8s (stretch (q.take i) at_ m)) (u8s ((pz.drop 0).take cnt)) 5 (by rfl) (by rfl) (by rfl) (by rfl) (by exact hrow2.out) (by rw [hlen.out]; exact hcnt.out) (fun _ => ⟨rfl, _, rfl, by exact hsrc.out⟩) (by rw [hlen.out, u8s_length, stretch_len]; have := k1'.out; omega) (u8s_one _) ?_; intro wc HG HC))
            have hlaid : Box (Laid w wc q at_ m (i + 1)) := ⟨laid_next (d := d) (f := 0) (cnt := cnt) HPI.out hsnoc.out (by have := k1'.out; omega) (by have := k1'.out; omega) (by omega) (.inr rfl) (by have := k1'.out; omega) HG.out (laid_below hb2.out (chg_undrew HC.out))⟩
            clear HG HC hrow2 hsrc hb2 hnew HPI hsnoc HROW HBY hc1' v1 v2 v3 v4 v5
            go_wp2
            all_goals
              go_roundg (q.length - (i + 1))
              case measure => omega
              case rel => exact ⟨i + 1, by go_num, by omega, by omega, hlaid⟩
          · obtain ⟨f, rfl⟩ : ∃ f : Nat, pa = at_ - (f : Int) := ⟨(at_ - pa).toNat, by omega⟩
            obtain ⟨b1, o1, rfl, hb1B, hc1'⟩ := HBY.out.at_ (by omega)
            replace hc1' := box hc1'
            obtain ⟨cnt, hcnt⟩ : ∃ cnt, cnt = min (pz.length - f) m := ⟨_, rfl⟩
            have k1' : f < pz.length ∧ cnt ≤ pz.length - f ∧ cnt ≤ m ∧ (cnt = m ∨ cnt = pz.length - f) := by omega
            have hlen : (u8s ((pz.drop f).take cnt)).length = cnt := by rw [u8s_length, List.length_take, List.length_drop]; omega
            have hrow2 := box ((Below.heap_alloc wr (.cells #[.int .i64 (at_ - (f : Int)), .slice (some ⟨b1, o1, none⟩) pz.length k1] 122) w.heap.size hsz).trans HROW.out)
            have hsrc := box (src_at (w := wr.alloc (.cells #[.int .i64 (at_ - (f : Int)), .slice (some ⟨b1, o1, none⟩) pz.length k1] 122)) (o := o1) (f := f) (cnt := cnt) (fun j hj => (World.cell?_alloc_lt wr _ ⟨b1, o1 + j, none⟩ (by show b1 < _; omega)).trans (hc1'.out j hj)) rfl (by omega))
            have hb2 := box (HBW.out.alloc HBW.out.size (.cells #[.int .i64 (at_ - (f : Int)), .slice (some ⟨b1, o1, none⟩) pz.length k1] 122))
            have v1 : at_ - (at_ - (f : Int)) = (f : Int) := by omega
            have v2 : ¬ (k1 = f) := by omega
            have v3 : (0 : Int) ≤ (f : Int) := by omega
            have v4 : (f : Int) ≤ (pz.length : Int) := by omega
            have v6 : (pz.length : Int) ≤ (k1 : Int) := by omega
            have v5 : IntKind.i64.wrap (f : Int) = (f : Int) := IntWalk.i64_in _ (by omega)
            replace hcnt := box hcnt
            replace k1' := box k1'
            replace hlen := box hlen
            go_wp2_with (refine copy8 _ (.tmp 52) (.tmp 59) (some ⟨w.heap.size, 0, none⟩) (some ⟨b1, o1 + f, none⟩) m m (pz.length - f) (k1 - f) w.heap.size 0 (u8s (stretch (q.take i) at_ m)) (u8s ((pz.drop f).take cnt)) 5 (0, 0) rfl rfl rfl rfl rfl hrow2.out (by rw [hlen.out]; exact hcnt.out) (fun _ => ⟨rfl, _, rfl, hsrc.out⟩) (by rw [hlen.out, u8s_length, stretch_len]; have := k1'.out; omega) (u8s_one _) ?_; intro wc HG HC)
            all_goals
              have hlaid : Box (Laid w wc q at_ m (i + 1)) := ⟨laid_next (d := 0) (f := f) (cnt := cnt) HPI.out hsnoc.out (by have := k1'.out; omega) (by have := k1'.out; omega) (by omega) (.inl rfl) (by have := k1'.out; omega) HG.out (laid_below hb2.out HC.out)⟩
              go_roundg (q.length - (i + 1))
              case measure => omega
              case rel => exact ⟨i + 1, by go_num, by omega, by omega, hlaid⟩
      · obtain rfl : i = q.length := by omega
        go_wp2
        go_ret
        refine ⟨rfl, ?_, hL2.out.2⟩
        rw [hL2.out.1, hfin.out, List.take_length]
  · obtain rfl : q = [] := List.eq_nil_of_length_eq_zero (by omega)
    clear HR hch hse
    go_wp2
    go_loopg [48] 0 (fun kx s48 wr => s48 = .int .i64 0 ∧ Box (Laid w wr [] at_ m 0))
    case atStart => exact ⟨rfl, hL⟩
    case round =>
      obtain ⟨rfl, hL2⟩ := hrel
      go_wp2
      go_ret
      refine ⟨rfl, ?_, hL2.out.2⟩
      rw [hL2.out.1, hfin.out]
      rfl
end Go.Proofs.Ytajfamjdfhjdeaa
