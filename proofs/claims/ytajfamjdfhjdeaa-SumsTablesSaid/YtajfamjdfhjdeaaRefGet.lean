/- The reference's Size, Held, Next, Get. -/
import Derived.Test.YtajfamjdfhjdeaaRefNew
import Derived.Deep.DeepCutAuto
namespace Go.Proofs.Ytajfamjdfhjdeaa
open Go.RowKit
attribute [local go_sem ↓] Go.wp_at_zero Go.wp_at_succ

theorem stretch_miss {l : List Pc} {p : Pc} {a : Int} {n : Nat} (h : pEnd p ≤ a ∨ a + n ≤ p.1) : stretch (l ++ [p]) a n = stretch l a n := by
  apply List.map_congr_left
  intro i hi
  have hi' := List.mem_range.1 hi
  rw [byteAt_snoc, lay1, if_neg (by omega)]
theorem laid_miss {w wc : World} {q : List Pc} {at_ : Int} {p : Pc} {m i : Nat} (hp : q[i]? = some p) (h : pEnd p ≤ at_ ∨ at_ + m ≤ p.1) (hl : Laid w wc q at_ m i) : Laid w wc q at_ m (i + 1) := by
  refine ⟨?_, hl.2⟩
  rw [hl.1, List.take_add_one, hp]
  show _ = some (Obj.cells (u8s (stretch (q.take i ++ [p]) at_ m)).toArray _ _)
  rw [stretch_miss h]
theorem Laid.grown {w wc w' : World} {q : List Pc} {at_ : Int} {m i : Nat} (h : Laid w wc q at_ m i) (hb : Below wc.heap.size wc w') : Laid w w' q at_ m i :=
  ⟨(hb.block _ (lt_of_heap h.1)).trans h.1, h.2.trans (hb.mono h.2.size)⟩

theorem rget_far {w : World} {G : Nat → Prop} {g : Nat} {ls : List Lp} {N at_ n : Int} (h : RSpan w G g ls N) (h0 : 0 ≤ at_) (hn : 0 ≤ n) (hat : N ≤ at_) :
    Calls Try.prog 74 #[.pointer (some ⟨g, 0, none⟩), .int .i64 at_, .int .i64 n] w fun e w' => e = .returned (.slice none 0 0) ∧ w' = w := by
  obtain ⟨A, c, ht, hO, hG⟩ := h.top
  have g1 := cell_of_heap ht (o := 1) rfl
  clear h ht hO hG
  go_enter Try.func74, Try.ntmps74
  set_option maxRecDepth 100000 in
  go_wp2
  go_ret
  exact ⟨rfl, rfl⟩

set_option maxHeartbeats 4000000 in
set_option maxRecDepth 100000 in
theorem rget_near {w : World} {G : Nat → Prop} {g : Nat} {ls : List Lp} {N at_ n : Int} (h : RSpan w G g ls N) (h0 : 0 ≤ at_) (hn : 0 < n) (hn2 : n ≤ 65536) (hat : at_ < N) (m : Nat) (hm : min n (N - at_) = (m : Int)) :
    Calls Try.prog 74 #[.pointer (some ⟨g, 0, none⟩), .int .i64 at_, .int .i64 n] w fun e w' =>
      e = .returned (.slice (some ⟨w.heap.size, 0, none⟩) m m) ∧ w'.heap[w.heap.size]? = some (.cells (u8s (stretch (lpcs ls) at_ m)).toArray 5) ∧ Below w.heap.size w w' := by
  obtain ⟨A, c, ht, hO, hG⟩ := h.top
  have hcap := own_cap hO
  have g1 : w.cell? ⟨g, 1, none⟩ = some (.int .i64 N) := cell_of_heap ht rfl
  have g0 : w.cell? ⟨g, 0, none⟩ = some (.slice A ls.length c) := cell_of_heap ht rfl
  have g0' := g0
  have hN1 := h.n1
  have hm1 : min n 65536 = n := by omega
  have hm2 : (m : Int) ≤ 65536 := by omega
  have hm0 : 0 < m := by omega
  have hm3 : (m : Int) ≤ N - at_ := by omega
  obtain ⟨i0, hi0, hz⟩ := Option.map_eq_some_iff.1 u8_info
  simp only [Prod.mk.injEq] at hz
  have hmk := fun W => run_make_bytes (P := Try.prog) (t := 22) (e := 5) Try.underlying22 hi0 hz.1 hz.2.1 hz.2.2 .i64 .i64 m (by omega) W
  clear hz hi0
  have hcnt := h.count
  have hbd := box (fun p hp => h.pc_bd (p := p) hp)
  have hoks := box h.ok
  have hR := box hO.row
  have hgl := lt_of_heap ht
  have hL0 := laid_start w (lpcs ls) at_ m (w1 := w.alloc (.cells (u8s (List.replicate m 0)).toArray 5)) (Below.refl _ _)
  have hgm := cell_past (Below.alloc (Below.refl w.heap.size w) (Nat.le_refl _) (.cells (u8s (List.replicate m 0)).toArray 5)) g0
  clear h hO hG ht
  go_enter Try.func74, Try.ntmps74
  go_upto_if 35 with fail
  go_cut [2] (fun s2 wx => s2 = .int .i64 (m : Int) ∧ w = wx)
  case first =>
    by_cases hc : N - at_ < n
    · have hme : (m : Int) = N - at_ := by omega
      go_wp2_with fail
      go_meet
      exact ⟨by rw [hme], rfl⟩
    · have hme : (m : Int) = n := by omega
      go_wp2_with fail
      go_meet
      exact ⟨by rw [hme], rfl⟩
  case rest =>
    obtain ⟨rfl, rfl⟩ := hcut
    clear hm hm1 hn2 hn
    go_upto_region 8 with fail
    replace hL0 := box hL0
    clear g0 g1 hmk
    go_loopg [8] ls.length (fun kx s8 wr => ∃ i : Nat, s8 = .int .i64 (i : Int) ∧ i ≤ ls.length ∧ ls.length - i ≤ kx ∧ Box (Laid w wr (lpcs ls) at_ m i))
    case atStart => exact ⟨0, rfl, Nat.zero_le _, by omega, hL0⟩
    case round =>
      obtain ⟨i, rfl, hi, hik, hL2⟩ := hrel
      have hsz : w.heap.size < wr.heap.size := lt_of_heap hL2.out.1
      have gr := (hL2.out.2.cell (p := ⟨g, 0, none⟩) hgl).trans (g0')
      clear hgm
      by_cases hlt : i < ls.length
      · obtain ⟨p, hp⟩ : ∃ p, ls[i]? = some p := ⟨_, List.getElem?_eq_getElem hlt⟩
        have hpl : (lpcs ls)[i]? = some (lpc p) := by unfold lpcs; rw [List.getElem?_map, hp]; rfl
        obtain ⟨rb, ro, rfl, hrb, hrc⟩ := hR.out (by omega)
        obtain ⟨x0, x1⟩ := hrc i p hp
        obtain ⟨p0, p1, p2, p3, p4, b, o, p5⟩ := hbd.out p (List.mem_of_getElem? hp)
        have hby := (hoks.out p (List.mem_of_getElem? hp)).byt
        have y0 := (hL2.out.2.cell (p := ⟨rb, ro + i * 2, none⟩) hrb).trans x0
        have y1 := (hL2.out.2.cell (p := ⟨rb, ro + i * 2 + 1, none⟩) hrb).trans x1
        have i0' : (0 : Int) ≤ (i : Int) := by omega
        have i1' : (i : Int) < (ls.length : Int) := by omega
        obtain ⟨pa, pA, pc, pz⟩ := p
        simp only at p0 p2 p3 p4 p5 y0 y1 hby
        subst p5
        have hE : lEnd (pa, some ⟨b, o, none⟩, pc, pz) = pa + (pz.length : Int) := rfl
        have hE2 : pEnd (lpc (pa, some ⟨b, o, none⟩, pc, pz)) = pa + (pz.length : Int) := rfl
        rw [hE] at p1
        obtain ⟨b1, o1, e1, hb1B, hc1⟩ := hby.at_ p2
        cases e1
        have hc1' := fun j hj => (hL2.out.2.cell (p := ⟨b, o + j, none⟩) hb1B).trans (hc1 j hj)
        have Wh := rnew_heap wr pa (some ⟨b, o, none⟩) pz.length pc
        have Wb := Below.alloc (Below.refl wr.heap.size wr) (Nat.le_refl _) (.cells #[.int .i64 pa, .slice (some ⟨b, o, none⟩) pz.length pc] 184)
        have hL3 := hL2.out.grown Wb
        have hend := box (fun W => rend_any pa (some ⟨b, o, none⟩) pz.length pc W p0 p1)
        clear x0 x1 hrc hby
        go_upto_region 12 with fail
        generalize (wr.alloc (.cells #[.int .i64 pa, .slice (some ⟨b, o, none⟩) pz.length pc] 184)) = W at *
        obtain ⟨pb, hpb⟩ : ∃ pb, wr.heap.size = pb := ⟨_, rfl⟩
        rw [hpb] at Wh hsz ⊢
        have q0 : W.cell? ⟨pb, 0, none⟩ = some (.int .i64 pa) := cell_of_heap Wh rfl
        have q1 : W.cell? ⟨pb, 1, none⟩ = some (.slice (some ⟨b, o, none⟩) pz.length pc) := cell_of_heap Wh rfl
        clear y0 y1 gr
        replace hL3 := box hL3
        go_upto_region 13 with (with_reducible (refine Calls.mono (hend.out _) ?_); rintro e w5 ⟨rfl, hb5⟩; have z0 := cell_past hb5 q0; have z1 := cell_past hb5 q1)
        have hL5 := hL3.out.grown hb5
        have hc5 := fun j hj => (hb5.cell (p := ⟨b, o + j, none⟩) (by have := Wb.size; show b < W.heap.size; omega)).trans ((Wb.cell (p := ⟨b, o + j, none⟩) (by show b < wr.heap.size; omega)).trans (hc1' j hj))
        have hpb5 : pb < w5.heap.size := Nat.lt_of_lt_of_le (lt_of_heap Wh) hb5.size
        replace hL5 := box hL5
        replace hc5 := box hc5
        replace hpl := box hpl
        clear q0 q1 hb5 hL3 Wh hc1' Wb hc1
        by_cases hx : max at_ pa < min (at_ + (m : Int)) (pa + (pz.length : Int))
        · obtain ⟨d, hd⟩ : ∃ d : Nat, max at_ pa = at_ + (d : Int) := ⟨(max at_ pa - at_).toNat, by omega⟩
          obtain ⟨f, hf⟩ : ∃ f : Nat, at_ + (d : Int) = pa + (f : Int) := ⟨(max at_ pa - pa).toNat, by omega⟩
          obtain ⟨cnt, hcn⟩ : ∃ cnt : Nat, min (at_ + (m : Int)) (pa + (pz.length : Int)) = at_ + (d : Int) + (cnt : Int) := ⟨(min (at_ + (m : Int)) (pa + (pz.length : Int)) - max at_ pa).toNat, by omega⟩
          obtain ⟨e, he⟩ : ∃ e : Nat, e = d + cnt := ⟨_, rfl⟩
          obtain ⟨f2, hf2⟩ : ∃ f2 : Nat, f2 = f + cnt := ⟨_, rfl⟩
          have hce : min (at_ + (m : Int)) (pa + (pz.length : Int)) = at_ + (e : Int) := by omega
          have hcpos : 0 < cnt := by omega
          have hem : e ≤ m := by omega
          have hfl : f2 ≤ pz.length := by omega
          have hor : d = 0 ∨ f = 0 := by omega
          have hor2 : e = m ∨ f2 = pz.length := by omega
          have hlen : (u8s ((pz.drop f).take cnt)).length = cnt := by rw [u8s_length, List.length_take, List.length_drop]; omega
          have hlay := box (fun wc hg hb => laid_next (w := w) (wc := wc) (q := lpcs ls) (at_ := at_) (pa := pa) (pz := pz) (m := m) (i := i) (d := d) (f := f) (cnt := cnt) hpl.out (List.take_add_one) (by omega) (by omega) hf hor (by omega) hg hb)
          have hsrc := box (src_at (w := w5) (b := b) (o := o) (f := f) (cnt := cnt) hc5.out rfl (by omega))
          have hne : ¬ (pb = w.heap.size) := by omega
          have v1 : at_ + (d : Int) - at_ = (d : Int) := by omega
          have v2 : at_ + (e : Int) - at_ = (e : Int) := by omega
          have v3 : at_ + (d : Int) - pa = (f : Int) := by omega
          have v4 : at_ + (e : Int) - pa = (f2 : Int) := by omega
          have b1 : (0 : Int) ≤ (d : Int) := by omega
          have b2 : (d : Int) ≤ (e : Int) := by omega
          have b3 : (e : Int) ≤ (m : Int) := by omega
          have b4 : (0 : Int) ≤ (f : Int) := by omega
          have b5 : (f : Int) ≤ (f2 : Int) := by omega
          have b6 : (f2 : Int) ≤ (pc : Int) := by omega
          have b7 : ¬ (m = d) := by omega
          have b8 : ¬ (pc = f) := by omega
          have u1 : IntKind.i64.wrap (d : Int) = (d : Int) := IntWalk.i64_in _ (by omega)
          have u2 : IntKind.i64.wrap (e : Int) = (e : Int) := IntWalk.i64_in _ (by omega)
          have u3 : IntKind.i64.wrap (f : Int) = (f : Int) := IntWalk.i64_in _ (by omega)
          have u4 : IntKind.i64.wrap (f2 : Int) = (f2 : Int) := IntWalk.i64_in _ (by omega)
          have hx' : at_ + (d : Int) < at_ + (e : Int) := by omega
          have hcc : cnt = min (f2 - f) (e - d) := by omega
          have hfit : d + cnt ≤ m := by omega
          replace hcc := box hcc
          replace hfit := box hfit
          replace hlen := box hlen
          replace hf := box hf
          replace he := box he
          replace hf2 := box hf2
          clear hx hcn
          go_upto_region 14 with fail
          go_region_held3 (fun W => W.cell? ⟨pb, 0, none⟩ = some (.int .i64 pa) ∧ W.cell? ⟨pb, 1, none⟩ = some (.slice (some ⟨b, o, none⟩) pz.length pc)) (first | go_keep | exact ⟨z0, z1⟩ | exact ⟨cell_chg HC.out hne z0, cell_chg HC.out hne z1⟩)
            ((refine step_copy8 (.tmp 80) (.tmp 91) (some ⟨w.heap.size, d, none⟩) (some ⟨b, o + f, none⟩) (e - d) (m - d) (f2 - f) (pc - f) w.heap.size d (u8s (stretch ((lpcs ls).take i) at_ m)) (u8s ((pz.drop f).take cnt)) 5 (by rfl) (by rfl) (by rfl) (by rfl) (by exact hL5.out.1) (by rw [hlen.out]; exact hcc.out) (fun _ => ⟨rfl, _, rfl, by exact hsrc.out⟩) (by rw [hlen.out, u8s_length, stretch_len]; exact hfit.out) (u8s_one _) ?_; intro wc HG HC))
          have hlaid : Box (Laid w wc (lpcs ls) at_ m (i + 1)) := ⟨hlay.out wc HG.out (laid_below hL5.out.2 (chg_undrew HC.out))⟩
          clear HG HC hsrc hlay hL5
          go_wp2_with fail
          all_goals
            go_roundg (ls.length - (i + 1))
            case measure => omega
            case rel => exact ⟨i + 1, by go_num, by omega, by omega, hlaid⟩
        · have hmiss : pa + (pz.length : Int) ≤ at_ ∨ at_ + (m : Int) ≤ pa := by omega
          have hL6 := box (laid_miss hpl.out (by rw [hE2]; exact hmiss) hL5.out)
          go_wp2_with fail
          go_roundg (ls.length - (i + 1))
          case measure => omega
          case rel => exact ⟨i + 1, by go_num, by omega, by omega, hL6⟩
      · obtain rfl : i = ls.length := by omega
        go_wp2
        go_ret
        refine ⟨rfl, ?_, hL2.out.2⟩
        rw [hL2.out.1, List.take_of_length_le (by rw [lpcs_len]; exact Nat.le_refl _)]

theorem rget_any {w : World} {G : Nat → Prop} {g : Nat} {ls : List Lp} {N at_ n : Int} (h : RSpan w G g ls N) (h0 : 0 ≤ at_) (hn : 0 < n) (hn2 : n ≤ 65536) :
    Calls Try.prog 74 #[.pointer (some ⟨g, 0, none⟩), .int .i64 at_, .int .i64 n] w fun e w' =>
      ∃ A k c, e = .returned (.slice A k c) ∧ Byt w' w'.heap.size A k (getOf (lpcs ls) N at_ n) ∧ k ≤ c ∧ c ≤ 9223372036854775807 ∧ k ≤ 65536 ∧ Below w.heap.size w w' := by
  by_cases hat : N ≤ at_
  · refine (rget_far h h0 (by omega) hat).mono fun e w' ⟨h1, h2⟩ => ⟨none, 0, 0, h1, ?_, Nat.le_refl _, by omega, by omega, by rw [h2]; exact Below.refl _ _⟩
    unfold getOf
    rw [if_pos hat]
    exact Byt.none_
  · obtain ⟨m, hm⟩ : ∃ m : Nat, min n (N - at_) = (m : Int) := ⟨(min n (N - at_)).toNat, by omega⟩
    refine (rget_near h h0 hn hn2 (by omega) m hm).mono fun e w' ⟨h1, h2, h3⟩ => ⟨_, m, m, h1, ?_, Nat.le_refl _, by omega, by omega, h3⟩
    unfold getOf
    rw [if_neg hat, hm, Int.toNat_natCast]
    exact Byt.of_cells (stretch_len _ _ _) (stretch_bs h.chain.bs at_ m) (lt_of_heap h2) fun j hj => by
      rw [Nat.zero_add]
      refine cell_of_heap h2 ?_
      have := u8s_get (stretch (lpcs ls) at_ m) j (by rw [stretch_len]; exact hj)
      simpa using this
theorem sget_any {w : World} {B g : Nat} {ps : List Pc} {N at_ n : Int} (h : Span w B g ps N) (hB : B ≤ w.heap.size) (h0 : 0 ≤ at_) (hn : 0 ≤ n) (hn2 : n ≤ 65536) :
    Calls Try.prog 73 #[.pointer (some ⟨g, 0, none⟩), .int .i64 at_, .int .i64 n] w fun e w' =>
      ∃ A k c, e = .returned (.slice A k c) ∧ Byt w' w'.heap.size A k (getOf ps N at_ n) ∧ k ≤ c ∧ c ≤ 9223372036854775807 ∧ k ≤ 65536 ∧ Below w.heap.size w w' := by
  by_cases hat : N ≤ at_
  · refine (get_far h h0 hn hat).mono fun e w' ⟨h1, h2⟩ => ⟨none, 0, 0, h1, ?_, Nat.le_refl _, by omega, by omega, by rw [h2]; exact Below.refl _ _⟩
    unfold getOf
    rw [if_pos hat]
    exact Byt.none_
  · obtain ⟨m, hm⟩ : ∃ m : Nat, min n (N - at_) = (m : Int) := ⟨(min n (N - at_)).toNat, by omega⟩
    refine (get_near h hB h0 hn hn2 (by omega) m hm).mono fun e w' ⟨h1, h2, h3⟩ => ⟨_, m, m, h1, ?_, Nat.le_refl _, by omega, by omega, h3⟩
    unfold getOf
    rw [if_neg hat, hm, Int.toNat_natCast]
    exact Byt.of_cells (stretch_len _ _ _) (stretch_bs h.chain.bs at_ m) (lt_of_heap h2) fun j hj => by
      rw [Nat.zero_add]
      refine cell_of_heap h2 ?_
      have := u8s_get (stretch ps at_ m) j (by rw [stretch_len]; exact hj)
      simpa using this
end Go.Proofs.Ytajfamjdfhjdeaa
