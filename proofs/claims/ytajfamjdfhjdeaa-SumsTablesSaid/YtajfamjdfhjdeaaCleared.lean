/- slices.Clone of pieces; (*span.Bytes).cleared. -/
import Derived.Test.YtajfamjdfhjdeaaRowP
namespace Go.Proofs.Ytajfamjdfhjdeaa
open Go.RowKit
attribute [local go_sem ↓] Go.wp_at_zero Go.wp_at_succ

theorem src_drop {w w' : World} {B B' size n : Nat} {A : Option Addr} {vs : List Value} (h : Src w B size A n vs) (hb : Below w.heap.size w w') (hB : B ≤ w.heap.size) (hB' : B ≤ B') : Src w' B' size A n vs :=
  (h.keep fun q hq => hb.cell (by omega)).more hB'
theorem cloneP_any {w : World} {A : Option Addr} {n c B : Nat} {ls : List Lp} (h : Src w B 2 A n (lcells ls)) (hB : B ≤ w.heap.size) (hn : n ≤ 4294967296) :
    Calls Try.prog 78 #[.slice A n c] w fun e w' => ∃ A' c', e = .returned (.slice A' n c') ∧ OwnP w' w.heap.size A' n c' ls ∧ Below w.heap.size w w' := by
  have b0 : Below w.heap.size w (w.alloc (.cells #[] 122)) := Below.alloc (Below.refl _ _) (Nat.le_refl _) _
  have HS := box (src_drop h b0 hB (Nat.le_refl _))
  replace b0 := box b0
  rcases A with _ | ad
  · have h0 : n = 0 := by
      rcases Nat.eq_zero_or_pos n with g | g
      · exact g
      · obtain ⟨b, o, e, _⟩ := h.2 g
        cases e
    subst h0
    have hz : ls = [] := by
      have := h.1
      rw [lcells_len] at this
      exact List.eq_nil_of_length_eq_zero (by omega)
    subst hz
    clear h HS b0
    have hq : ∀ W, (binOp .eql 118 (.slice none 0 c) (.slice none 0 0)).run Try.prog W = .ok (.bool true) W := fun _ => by kernel_rfl
    go_enter Try.func78, Try.ntmps78
    set_option maxRecDepth 8000 in
    go_wp2_with fail
    go_ret
    exact ⟨_, _, rfl, World.ownsRow_nil _ _ _ _, Below.refl _ _⟩
  · clear h
    have OL : OwnP (w.alloc (.cells #[] 122)) w.heap.size (some ⟨w.heap.size, 0, none⟩) 0 0 [] := World.ownsRow_lit w #[] 0 (Nat.le_refl _) (by decide) rfl
    replace OL := box OL
    have hq : ∀ W, (binOp .eql 118 (.slice (some ad) n c) (.slice none 0 0)).run Try.prog W = .ok (.bool false) W := fun _ => by kernel_rfl
    go_enter Try.func78, Try.ntmps78
    set_option maxRecDepth 8000 in
    go_wp2_with (at_builtin; refine appP _ (.tmp 5) (.tmp 6) w.heap.size OL.out HS.out rfl rfl rfl rfl (by omega) (by simp) ?_; intro A1 c1 w1 O1 G1 K1)
    go_ret
    have O2 := O1.out
    rw [Nat.zero_add, List.nil_append] at O2
    refine ⟨_, _, rfl, O2, ?_⟩
    have G2 := G1.out
    exact (b0.out).grown G2 (by simp) (fun k hk => by cases hk; exact Nat.le_refl _)

def lEnd (p : Lp) : Int := p.1 + (p.2.2.2.length : Int)
theorem lEnd_eq (p : Lp) : pEnd (lpc p) = lEnd p := rfl
def lcutL (fr : Int) (p : Lp) : List Lp := if p.1 < fr then [(p.1, p.2.1, p.2.2.1, p.2.2.2.take (fr - p.1).toNat)] else []
def lcutR (to : Int) (p : Lp) : List Lp := if to < lEnd p then [(max p.1 to, p.2.1.map (fun x => x.add (to - p.1).toNat), p.2.2.1 - (to - p.1).toNat, p.2.2.2.drop (to - p.1).toNat)] else []
def lmid (fr to : Int) (q : List Lp) : List Lp := q.flatMap fun p => lcutL fr p ++ lcutR to p
def llft (fr : Int) (q : List Lp) : List Lp := q.flatMap (lcutL fr)
theorem lmid_snoc {fr to : Int} {q : List Lp} {k : Nat} {p : Lp} (h : q[k]? = some p) : lmid fr to (q.take (k + 1)) = lmid fr to (q.take k) ++ (lcutL fr p ++ lcutR to p) := by
  rw [List.take_add_one, h]
  simp [lmid]
theorem llft_snoc {fr : Int} {q : List Lp} {k : Nat} {p : Lp} (h : q[k]? = some p) : llft fr (q.take (k + 1)) = llft fr (q.take k) ++ lcutL fr p := by
  rw [List.take_add_one, h]
  simp [llft]
theorem lmid_len (fr to : Int) : ∀ (q : List Lp), (lmid fr to q).length ≤ 2 * q.length
  | [] => Nat.le_refl _
  | p :: q => by
    have := lmid_len fr to q
    unfold lmid at *
    rw [List.flatMap_cons, List.length_append, List.length_append, List.length_cons]
    have h1 : (lcutL fr p).length ≤ 1 := by unfold lcutL; split <;> simp
    have h2 : (lcutR to p).length ≤ 1 := by unfold lcutR; split <;> simp
    omega
theorem llft_len (fr : Int) : ∀ (q : List Lp), (llft fr q).length ≤ q.length
  | [] => Nat.le_refl _
  | p :: q => by
    have := llft_len fr q
    unfold llft at *
    rw [List.flatMap_cons, List.length_append, List.length_cons]
    have h1 : (lcutL fr p).length ≤ 1 := by unfold lcutL; split <;> simp
    omega

/-- A row of pieces to be read. -/
def RowL (w : World) (B : Nat) (A : Option Addr) (q : List Lp) : Prop := 0 < q.length → ∃ b o, A = some ⟨b, o, none⟩ ∧ b < B ∧ ∀ i p, q[i]? = some p → w.cell? ⟨b, o + i * 2, none⟩ = some (.int .i64 p.1) ∧ w.cell? ⟨b, o + i * 2 + 1, none⟩ = some (.slice p.2.1 p.2.2.2.length p.2.2.1)
theorem OwnP.row {w : World} {base n c : Nat} {A : Option Addr} {l : List Lp} (h : OwnP w base A n c l) : RowL w w.heap.size A l := by
  intro hn
  have hl := h.len
  obtain ⟨g, cap, hv, _, hlt⟩ := h.form (by omega)
  cases hv
  refine ⟨g, 0, rfl, hlt, fun i p hp => ?_⟩
  obtain ⟨g', e, _, _, c1, c2, _⟩ := h.cells2 hp
  cases e
  rw [Nat.zero_add]
  exact ⟨c1, c2⟩
theorem RowL.cut {w : World} {B c j : Nat} {A : Option Addr} {q : List Lp} (h : RowL w B A q) (hc : q.length ≤ c) (hj : j ≤ q.length) : RowL w B (if c = j then A else A.map (fun x => x.add (j * 2))) (q.drop j) := by
  intro hn
  rw [List.length_drop] at hn
  obtain ⟨b, o, rfl, hb, hp⟩ := h (by omega)
  rw [if_neg (by omega)]
  refine ⟨b, o + j * 2, by simp [add_at], hb, fun i p hi => ?_⟩
  rw [List.getElem?_drop] at hi
  obtain ⟨h1, h2⟩ := hp (j + i) p hi
  have e : o + j * 2 + i * 2 = o + (j + i) * 2 := by omega
  exact ⟨by rw [e]; exact h1, by rw [e]; exact h2⟩
theorem OwnP.src_take {w : World} {base n c j : Nat} {A : Option Addr} {l : List Lp} (h : OwnP w base A n c l) (hj : j ≤ n) : Src w w.heap.size 2 A j (lcells (l.take j)) := by
  have hl := h.len
  refine ⟨by rw [lcells_len, List.length_take]; omega, fun hn => ?_⟩
  obtain ⟨g, cap, hv, _, hlt⟩ := h.form (by omega)
  cases hv
  refine ⟨g, 0, rfl, hlt, fun i u hu => ?_⟩
  have hi := (List.getElem?_eq_some_iff.1 hu).1
  rw [lcells_len, List.length_take] at hi
  rw [Nat.zero_add, World.ownsRow.cellAt h i (by omega), ← hu, ← lcells_take, List.getElem?_take_of_lt (by omega)]
theorem src_piece (W : World) (x : Lp) (n : Nat) (hn : x.2.2.2.length = n) : Src (W.alloc (.cells #[.int .i64 x.1, .slice x.2.1 n x.2.2.1] 122)) (W.heap.size + 1) 2 (some ⟨W.heap.size, 0, none⟩) 1 (lcells [x]) := by
  subst hn
  exact Src.new W #[.int .i64 x.1, .slice x.2.1 x.2.2.2.length x.2.2.1] 122 1 2 rfl

theorem src_piece5 (W : World) (x : Lp) (n : Nat) (hn : x.2.2.2.length = n) (k : Nat) (hk : W.heap.size = k) : Src (W.alloc (.cells #[.int .i64 x.1, .slice x.2.1 n x.2.2.1] 122)) (k + 1) 2 (some ⟨k, 0, none⟩) 1 (lcells [x]) := by
  subst hk
  exact src_piece W x n hn
theorem undrew_grown {w w' : World} {row : Option Nat} (h : w.drew.grownBy w' row) : w.grownBy w' row := ⟨h.os, h.tape, h.output, h.size, h.block⟩
theorem ret_cl {A : Option Addr} {m m' c a a' : Nat} (h : m = m') (g : a = a') : Ending.returned (.tuple #[.slice A m c, .int .i64 (a : Int)]) = Ending.returned (.tuple #[.slice A m' c, .int .i64 (a' : Int)]) := by rw [h, g]

set_option maxHeartbeats 8000000 in
theorem cleared_raw {w : World} {F : Nat → Prop} {g : Nat} {ls : List Lp} {N fr to : Int} (h : SpanO w F g ls N) (h0 : 0 ≤ fr) (h1 : fr < to) (h2 : to ≤ 2147483648) :
    Calls Try.prog 57 #[.pointer (some ⟨g, 0, none⟩), .int .i64 fr, .int .i64 to] w fun e w' =>
      ∃ A c j, e = .returned (.tuple #[.slice A (ls.take j ++ lmid fr to (ls.drop j)).length c, .int .i64 ((j + (llft fr (ls.drop j)).length : Nat) : Int)]) ∧ Behind (lpcs ls) fr j ∧
        OwnP w' w.heap.size A (ls.take j ++ lmid fr to (ls.drop j)).length c (ls.take j ++ lmid fr to (ls.drop j)) ∧ Below w.heap.size w w' := by
  obtain ⟨A, c, ht, hO, hF⟩ := h.top
  have hcap := own_cap hO
  have g0 : w.cell? ⟨g, 0, none⟩ = some (.slice A ls.length c) := cell_of_heap ht rfl
  have hsp := h.span
  have hcnt := hsp.count
  rw [lpcs_len] at hcnt
  have hbh := box (behind_any (w := w) (at_ := fr) hsp (Nat.le_refl _))
  have hbd : Box (∀ p ∈ ls, 0 ≤ p.1 ∧ lEnd p ≤ 1073741824 ∧ 0 < p.2.2.2.length ∧ p.2.2.2.length ≤ p.2.2.1 ∧ p.2.2.1 ≤ 9223372036854775807 ∧ ∃ b o, p.2.1 = some ⟨b, o, none⟩) := ⟨fun p hp => by
    have h1 := hsp.pc_bd (show lpc p ∈ lpcs ls from List.mem_map_of_mem hp)
    have h2 := h.ok p hp
    obtain ⟨⟨b, o, cur, e, _⟩, h3, h4, _⟩ := h2
    exact ⟨h1.1, h1.2.1, h1.2.2, h3, h4, b, o, e⟩⟩
  have hR := box hO.row
  have hOB := box hO
  clear h hO hF ht hsp
  go_enter Try.func57, Try.ntmps57
  set_option maxRecDepth 8000 in
  go_wp2_with fail
  refine hbh.out.mono ?_
  rintro e w1 ⟨j, rfl, hj, hb1⟩
  have hj1 : j ≤ ls.length := by have := hj.1; rwa [lpcs_len] at this
  have hj2 : (0 : Int) ≤ (j : Int) := by omega
  have hj3 : (j : Int) ≤ (ls.length : Int) := by omega
  have hj4 : (ls.length : Int) ≤ (c : Int) := by omega
  have g1 := cell_past hb1 g0
  have hsrc := box (src_drop (hOB.out.src_take hj1) hb1 (Nat.le_refl _) (Nat.le_refl _))
  have hcl := box (cloneP_any (c := c) hsrc.out hb1.size (by omega))
  replace hj := box hj
  replace hb1 := box hb1
  clear hbh hsrc
  go_wp2_with fail
  refine hcl.out.mono ?_
  rintro e w2 ⟨A2, c2, rfl, O2, hb2⟩
  have g2 := cell_past hb2 g1
  replace O2 := box (OwnP.base O2 (base' := w.heap.size) (fun k hk => by have := (OwnP.blk O2 hk).1; have := hb1.out.size; omega))
  replace hb1 := box (grown_trans hb1.out hb2)
  clear hb2 hcl g1
  set_option maxRecDepth 8000 in
  go_wp2
  · have hnil : ls.drop j = [] := List.drop_eq_nil_of_le (by omega)
    rw [show ls.length - j = 0 by omega]
    have O3 : Box (OwnP w2 w.heap.size A2 j c2 (ls.take j ++ lmid fr to (ls.drop j))) := ⟨by rw [hnil]; exact (List.append_nil _).symm ▸ O2.out⟩
    have e1 : (ls.take j ++ lmid fr to (ls.drop j)).length = j := O3.out.len
    have e2 : j + (llft fr (ls.drop j)).length = j := by rw [hnil]; rfl
    replace e1 := box e1
    replace e2 := box e2
    clear hnil g0 g2
    go_loopg [9, 10, 31] 0 (fun kx s9 s10 s31 wr => s9 = .slice A2 j c2 ∧ s10 = .int .i64 (j : Int) ∧ s31 = .int .i64 0 ∧ wr = w2)
    case atStart => exact ⟨rfl, rfl, rfl, rfl⟩
    case round =>
      obtain ⟨rfl, rfl, rfl, rfl⟩ := hrel
      go_wp2
      go_ret2
      exact ⟨A2, c2, j, ret_cl e1.out.symm e2.out.symm, hj.out, by rw [e1.out]; exact O3.out, hb1.out⟩
  · have hcj : ¬ c = j := by assumption
    have HR := hR.out.cut hcap.1 hj1
    rw [if_neg hcj] at HR
    have hql : ls.length - j = (ls.drop j).length := by simp
    rw [hql]
    have hqb : Box (∀ p ∈ ls.drop j, p ∈ ls) := ⟨fun p hp => List.mem_of_mem_drop hp⟩
    have hqc : (ls.drop j).length ≤ 1073741825 := by rw [← hql]; omega
    have hqf : Box (∀ p ∈ ls.drop j, fr < lEnd p) := ⟨fun p hp => hj.out.2.2 (lpc p) (by
      unfold lpcs
      rw [← List.map_drop]
      exact List.mem_map_of_mem hp)⟩
    have hO0 : Box (OwnP w2 w.heap.size A2 (ls.take j ++ lmid fr to ((ls.drop j).take 0)).length c2 (ls.take j ++ lmid fr to ((ls.drop j).take 0))) := ⟨by
      have e : ls.take j ++ lmid fr to ((ls.drop j).take 0) = ls.take j := by rw [List.take_zero]; exact List.append_nil _
      rw [e, O2.out.len]
      exact O2.out⟩
    have hj9 : (ls.take j).length = j := by rw [List.length_take]; omega
    have hO0l : (ls.take j ++ lmid fr to ((ls.drop j).take 0)).length = j := by rw [List.length_append, hj9]; rfl
    replace hO0l := box hO0l
    replace hj9 := box hj9
    generalize hX : ls.take j = X at *
    generalize Option.map (fun x => x.add (j * 2)) A = V at *
    generalize hq : ls.drop j = q at *
    replace hX := box hX
    replace hq := box hq
    clear hql g2 g0 hR O2 hj4 hcj
    go_loopg [9, 10, 31] q.length (fun kx s9 s10 s31 wr => ∃ (k : Nat) (A3 : Option Addr) (c3 m a : Nat), k ≤ q.length ∧ q.length - k ≤ kx ∧ s31 = .int .i64 (k : Int) ∧ s9 = .slice A3 m c3 ∧ s10 = .int .i64 (a : Int) ∧ m ≤ 3221225475 ∧ a ≤ 3221225475 ∧
      Box (m = (X ++ lmid fr to (q.take k)).length ∧ a = j + (llft fr (q.take k)).length ∧ OwnP wr w.heap.size A3 m c3 (X ++ lmid fr to (q.take k))) ∧ Box (Below w.heap.size w wr))
    case atStart => exact ⟨0, A2, c2, j, j, Nat.zero_le _, by omega, rfl, rfl, rfl, by omega, by omega, ⟨hO0l.out.symm, by rw [List.take_zero]; rfl, by have := hO0.out; rwa [hO0l.out] at this⟩, hb1⟩
    case round =>
      obtain ⟨k, A3, c3, m, a, hk, hgk, rfl, rfl, rfl, hm, ha, hI, hbr⟩ := hrel
      by_cases hlt : k < q.length
      · obtain ⟨p, hp⟩ : ∃ p, q[k]? = some p := ⟨_, List.getElem?_eq_getElem hlt⟩
        obtain ⟨rb, ro, rfl, hrb, hrc⟩ := HR (by omega)
        obtain ⟨x0, x1⟩ := hrc k p hp
        have hmem := List.mem_of_getElem? hp
        obtain ⟨p0, p1, p2, p3, p4, b, o, p5⟩ := hbd.out p (hqb.out p hmem)
        have p6 := hqf.out p hmem
        have y0 := (hbr.out.cell (p := ⟨rb, ro + k * 2, none⟩) hrb).trans x0
        have y1 := (hbr.out.cell (p := ⟨rb, ro + k * 2 + 1, none⟩) hrb).trans x1
        have hms := box (lmid_snoc (fr := fr) (to := to) hp)
        have hls := box (llft_snoc (fr := fr) hp)
        obtain ⟨pa, pA, pc, pz⟩ := p
        simp only at p0 p2 p3 p4 p5 y0 y1
        subst p5
        have hE : lEnd (pa, some ⟨b, o, none⟩, pc, pz) = pa + (pz.length : Int) := rfl
        rw [hE] at p1 p6
        have hXm : X.length + (lmid fr to (q.take k)).length ≤ 1073741825 + 2 * q.length := by
          have h1 := lmid_len fr to (q.take k)
          rw [List.length_take] at h1
          have h2 := hj9.out
          omega
        -- ROUND-BEGIN
        have hml : m ≤ 3221225473 ∧ a ≤ 3221225473 := by
          have h1 := hI.out.1
          have h2 := hI.out.2.1
          have h3 := lmid_len fr to (q.take k)
          have h4 := llft_len fr (q.take k)
          rw [List.length_append] at h1
          rw [List.length_take] at h3 h4
          have := hj9.out
          omega
        have hsz : wr.heap.size < (wr.alloc (.cells #[.int .i64 pa, .slice (some ⟨b, o, none⟩) pz.length pc] 122)).heap.size := by simp
        obtain ⟨Wp, hWp⟩ : ∃ Wp, Wp = wr.alloc (.cells #[.int .i64 pa, .slice (some ⟨b, o, none⟩) pz.length pc] 122) := ⟨_, rfl⟩
        have Wpc := new_cells wr (.int .i64 pa) (.slice (some ⟨b, o, none⟩) pz.length pc)
        have Wpb := box (hbr.out.alloc hbr.out.size (.cells #[.int .i64 pa, .slice (some ⟨b, o, none⟩) pz.length pc] 122))
        have WpO := box (OwnP.grown hI.out.2.2 (Below.alloc (Below.refl wr.heap.size wr) (Nat.le_refl _) (.cells #[.int .i64 pa, .slice (some ⟨b, o, none⟩) pz.length pc] 122)))
        have Wpne : some wr.heap.size ≠ (Value.slice A3 m c3).ownBlock := fun h => by have := (OwnP.blk hI.out.2.2 h.symm).2.1; omega
        have i0' : (0 : Int) ≤ (k : Int) := by omega
        have i1' : (k : Int) < (q.length : Int) := by omega
        replace Wpne := box Wpne
        rw [← hWp] at hsz Wpc Wpb WpO
        have Wpc0 := box Wpc.1
        have Wpc1 := box Wpc.2
        clear Wpc
        replace hWp := box hWp
        have hend := box (fun W => end_any pa (some ⟨b, o, none⟩) pz.length pc W p0 p1)
        by_cases hL : pa < fr
        · obtain ⟨d, hd⟩ : ∃ d : Nat, fr - pa = (d : Int) := ⟨(fr - pa).toNat, by omega⟩
          have u1 : (0 : Int) ≤ (d : Int) := by omega
          have u2 : (d : Int) ≤ (pz.length : Int) := by omega
          have u3 : (pz.length : Int) ≤ (pc : Int) := by omega
          have u5 : (d : Int) ≤ (pc : Int) := by omega
          have u4 : IntKind.i64.wrap (d : Int) = (d : Int) := IntWalk.i64_in _ (by omega)
          have hLL : Box ((lcutL fr (pa, some ⟨b, o, none⟩, pc, pz)).length = 1) := ⟨by unfold lcutL; rw [if_pos hL]; rfl⟩
          have hLe : Box (lcutL fr (pa, some ⟨b, o, none⟩, pc, pz) = [(pa, some ⟨b, o, none⟩, pc, pz.take d)]) := ⟨by
            unfold lcutL
            rw [if_pos hL]
            show [(pa, some (⟨b, o, none⟩ : Addr), pc, pz.take (fr - pa).toNat)] = _
            rw [hd, Int.toNat_natCast]⟩
          have hsrc := box (src_piece5 Wp (pa, some ⟨b, o, none⟩, pc, pz.take d) d (by show (pz.take d).length = d; rw [List.length_take]; omega) Wp.heap.size rfl)
          have hO4 := box (OwnP.grown WpO.out (Below.alloc (Below.refl Wp.heap.size Wp) (Nat.le_refl _) (.cells #[.int .i64 pa, .slice (some ⟨b, o, none⟩) d pc] 122)))
          have hb4 := box (Wpb.out.alloc Wpb.out.size (.cells #[.int .i64 pa, .slice (some ⟨b, o, none⟩) d pc] 122))
          have z0 := box (cell_past (Below.alloc (Below.refl Wp.heap.size Wp) (Nat.le_refl _) (.cells #[.int .i64 pa, .slice (some ⟨b, o, none⟩) d pc] 122)) Wpc0.out)
          have z1 := box (cell_past (Below.alloc (Below.refl Wp.heap.size Wp) (Nat.le_refl _) (.cells #[.int .i64 pa, .slice (some ⟨b, o, none⟩) d pc] 122)) Wpc1.out)
          have q0 := Wpc0.out
          have q1 := Wpc1.out
          go_wp2
          rw [← hWp.out]
          go_region_held3 (fun W => W.cell? ⟨wr.heap.size, 0, none⟩ = some (.int .i64 pa) ∧ W.cell? ⟨wr.heap.size, 1, none⟩ = some (.slice (some ⟨b, o, none⟩) pz.length pc)) (first | go_keep | exact ⟨G4.out.cell z0.out Wpne.out, G4.out.cell z1.out Wpne.out⟩ | exact ⟨z0.out, z1.out⟩)
            ((refine stepP _ (.tmp 39) (.tmp 50) w.heap.size (by exact hO4.out) (by exact hsrc.out) (by rfl) (by rfl) (by rfl) (by rfl) (by omega) (by have := hb4.out.size; exact this) ?_; intro A4 c4 w4 O4 G4 K4))
          have hbw := box (hb4.out.grown (undrew_grown G4.out) hb4.out.size (fun k hk => (OwnP.blk hO4.out hk).1))
          have y0 := G4.out.cell z0.out Wpne.out
          have y1 := G4.out.cell z1.out Wpne.out
          have hne4 : some wr.heap.size ≠ (Value.slice A4 (m + 1) c4).ownBlock := by
            rcases K4.out with h | h
            · rw [h]; exact Wpne.out
            · rw [h]
              have h9 : wr.heap.size < Wp.heap.size := hsz
              intro he
              have := Option.some.inj he
              simp at this
              omega
          replace hne4 := box hne4
          replace O4 := box (show OwnP w4 w.heap.size A4 (m + 1) c4 ((X ++ lmid fr to (q.take k)) ++ lcutL fr (pa, some ⟨b, o, none⟩, pc, pz)) by
            have h := O4.out
            rwa [hLe.out])
          clear q0 q1 z0 z1 G4 K4 hO4 hb4 hsrc u1 u2 u3 u4 u5 hd
          go_wp2_with fail
          refine (hend.out _).mono ?_
          rintro e w5 ⟨rfl, hb5⟩
          have w5c0 := box (cell_past hb5 y0)
          have w5c1 := box (cell_past hb5 y1)
          have w5O := box (OwnP.grown O4.out hb5)
          have w5b := box (hbw.out.trans (hb5.mono hbw.out.size))
          have w5ne := hne4
          clear y0 y1 hb5 hend O4
          by_cases hRt : to < pa + (pz.length : Int)
          · obtain ⟨d2, hd2⟩ : ∃ d2 : Nat, max 0 (to - pa) = (d2 : Int) := ⟨(max 0 (to - pa)).toNat, by omega⟩
            have hd3 : d2 < pz.length := by omega
            have v1 : (0 : Int) ≤ (d2 : Int) := by omega
            have v2 : (d2 : Int) ≤ (pz.length : Int) := by omega
            have v3 : (pz.length : Int) ≤ (pc : Int) := by omega
            have v4 : ¬ (pc = d2) := by omega
            have v5 : IntKind.i64.wrap (to - pa) = to - pa := IntWalk.i64_in _ (by omega)
            have hdt : (to - pa).toNat = d2 := by omega
            replace hdt := box hdt
            have hRR : Box (lcutR to (pa, some ⟨b, o, none⟩, pc, pz) = [(max pa to, some ⟨b, o + d2, none⟩, pc - d2, pz.drop d2)]) := ⟨by
              unfold lcutR
              rw [hE, if_pos hRt]
              show [(max pa to, (some (⟨b, o, none⟩ : Addr)).map (fun x => x.add (to - pa).toNat), pc - (to - pa).toNat, pz.drop (to - pa).toNat)] = _
              rw [hdt.out]
              simp [add_at]⟩
            have hsrc := box (src_piece5 w5 (max pa to, some ⟨b, o + d2, none⟩, pc - d2, pz.drop d2) (pz.length - d2) (List.length_drop) w5.heap.size rfl)
            have hO9 := box (OwnP.grown w5O.out (Below.alloc (Below.refl w5.heap.size w5) (Nat.le_refl _) (.cells #[.int .i64 (max pa to), .slice (some ⟨b, o + d2, none⟩) (pz.length - d2) (pc - d2)] 122)))
            have hb9 := box (w5b.out.alloc w5b.out.size (.cells #[.int .i64 (max pa to), .slice (some ⟨b, o + d2, none⟩) (pz.length - d2) (pc - d2)] 122))
            have z0 := cell_past (Below.alloc (Below.refl w5.heap.size w5) (Nat.le_refl _) (.cells #[.int .i64 (max pa to), .slice (some ⟨b, o + d2, none⟩) (pz.length - d2) (pc - d2)] 122)) w5c0.out
            have z1 := cell_past (Below.alloc (Below.refl w5.heap.size w5) (Nat.le_refl _) (.cells #[.int .i64 (max pa to), .slice (some ⟨b, o + d2, none⟩) (pz.length - d2) (pc - d2)] 122)) w5c1.out
            replace z0 := box z0
            replace z1 := box z1
            have q0 := w5c0.out
            have q1 := w5c1.out
            have hne : some wr.heap.size ≠ (Value.slice A4 (m + 1) c4).ownBlock := w5ne.out
            replace hne := box hne
            replace hRt := box hRt
            go_wp2
            go_region_held3 (fun W => W.cell? ⟨wr.heap.size, 0, none⟩ = some (.int .i64 pa) ∧ W.cell? ⟨wr.heap.size, 1, none⟩ = some (.slice (some ⟨b, o, none⟩) pz.length pc)) (first | go_keep | exact ⟨G9.out.cell z0.out hne.out, G9.out.cell z1.out hne.out⟩ | exact ⟨z0.out, z1.out⟩)
              ((refine stepP _ (.tmp 58) (.tmp 72) w.heap.size (by exact hO9.out) (by exact hsrc.out) (by rfl) (by rfl) (by rfl) (by rfl) (by omega) (by have := hb9.out.size; exact this) ?_; intro A9 c9 w9 O9 G9 K9))
            all_goals
              have hbw := box (hb9.out.grown (undrew_grown G9.out) hb9.out.size (fun k hk => (OwnP.blk hO9.out hk).1))
              replace O9 := box (show OwnP w9 w.heap.size A9 ((m + 1) + 1) c9 (X ++ lmid fr to (q.take (k + 1))) by
                have h := O9.out
                rw [hms.out, hRR.out]
                simp only [List.append_assoc] at h ⊢
                exact h)
              clear q0 q1 G9 K9 v1 v2 v3 v4 v5 hd2
              go_wp2
              all_goals
                go_roundg (q.length - (k + 1))
                case measure => omega
                case rel => exact ⟨k + 1, A9, c9, (m + 1) + 1, (a + 1), by omega, Nat.le_refl _, by go_num, rfl, by go_num, by omega, by omega, ⟨O9.out.len.symm.trans rfl, by rw [hls.out, List.length_append]; have := hLL.out; have := hI.out.2.1; omega, O9.out⟩, hbw⟩
          · have hRR : Box (lcutR to (pa, some ⟨b, o, none⟩, pc, pz) = []) := ⟨by
              unfold lcutR
              rw [hE, if_neg hRt]⟩
            have O9 := box (show OwnP w5 w.heap.size A4 (m + 1) c4 (X ++ lmid fr to (q.take (k + 1))) by
              have h := w5O.out
              rw [hms.out, hRR.out]
              simp only [List.append_assoc, List.append_nil] at h ⊢
              exact h)
            go_wp2
            all_goals
              go_roundg (q.length - (k + 1))
              case measure => omega
              case rel => exact ⟨k + 1, A4, c4, (m + 1), (a + 1), by omega, Nat.le_refl _, by go_num, rfl, by go_num, by omega, by omega, ⟨O9.out.len.symm.trans rfl, by rw [hls.out, List.length_append]; have := hLL.out; have := hI.out.2.1; omega, O9.out⟩, w5b⟩
        · have hLL : Box ((lcutL fr (pa, some ⟨b, o, none⟩, pc, pz)).length = 0) := ⟨by unfold lcutL; rw [if_neg hL]; rfl⟩
          have hLe : Box (lcutL fr (pa, some ⟨b, o, none⟩, pc, pz) = []) := ⟨by unfold lcutL; rw [if_neg hL]⟩
          go_wp2_with fail
          rw [← hWp.out]
          refine (hend.out _).mono ?_
          rintro e w5 ⟨rfl, hb5⟩
          have w5c0 := box (cell_past hb5 Wpc0.out)
          have w5c1 := box (cell_past hb5 Wpc1.out)
          have w5O := box (OwnP.grown WpO.out hb5)
          have w5b := box (Wpb.out.trans (hb5.mono Wpb.out.size))
          have w5ne := Wpne
          clear hb5 hend
          by_cases hRt : to < pa + (pz.length : Int)
          · obtain ⟨d2, hd2⟩ : ∃ d2 : Nat, max 0 (to - pa) = (d2 : Int) := ⟨(max 0 (to - pa)).toNat, by omega⟩
            have hd3 : d2 < pz.length := by omega
            have v1 : (0 : Int) ≤ (d2 : Int) := by omega
            have v2 : (d2 : Int) ≤ (pz.length : Int) := by omega
            have v3 : (pz.length : Int) ≤ (pc : Int) := by omega
            have v4 : ¬ (pc = d2) := by omega
            have v5 : IntKind.i64.wrap (to - pa) = to - pa := IntWalk.i64_in _ (by omega)
            have hdt : (to - pa).toNat = d2 := by omega
            replace hdt := box hdt
            have hRR : Box (lcutR to (pa, some ⟨b, o, none⟩, pc, pz) = [(max pa to, some ⟨b, o + d2, none⟩, pc - d2, pz.drop d2)]) := ⟨by
              unfold lcutR
              rw [hE, if_pos hRt]
              show [(max pa to, (some (⟨b, o, none⟩ : Addr)).map (fun x => x.add (to - pa).toNat), pc - (to - pa).toNat, pz.drop (to - pa).toNat)] = _
              rw [hdt.out]
              simp [add_at]⟩
            have hsrc := box (src_piece5 w5 (max pa to, some ⟨b, o + d2, none⟩, pc - d2, pz.drop d2) (pz.length - d2) (List.length_drop) w5.heap.size rfl)
            have hO9 := box (OwnP.grown w5O.out (Below.alloc (Below.refl w5.heap.size w5) (Nat.le_refl _) (.cells #[.int .i64 (max pa to), .slice (some ⟨b, o + d2, none⟩) (pz.length - d2) (pc - d2)] 122)))
            have hb9 := box (w5b.out.alloc w5b.out.size (.cells #[.int .i64 (max pa to), .slice (some ⟨b, o + d2, none⟩) (pz.length - d2) (pc - d2)] 122))
            have z0 := cell_past (Below.alloc (Below.refl w5.heap.size w5) (Nat.le_refl _) (.cells #[.int .i64 (max pa to), .slice (some ⟨b, o + d2, none⟩) (pz.length - d2) (pc - d2)] 122)) w5c0.out
            have z1 := cell_past (Below.alloc (Below.refl w5.heap.size w5) (Nat.le_refl _) (.cells #[.int .i64 (max pa to), .slice (some ⟨b, o + d2, none⟩) (pz.length - d2) (pc - d2)] 122)) w5c1.out
            replace z0 := box z0
            replace z1 := box z1
            have q0 := w5c0.out
            have q1 := w5c1.out
            have hne : some wr.heap.size ≠ (Value.slice A3 m c3).ownBlock := w5ne.out
            replace hne := box hne
            replace hRt := box hRt
            go_wp2
            go_region_held3 (fun W => W.cell? ⟨wr.heap.size, 0, none⟩ = some (.int .i64 pa) ∧ W.cell? ⟨wr.heap.size, 1, none⟩ = some (.slice (some ⟨b, o, none⟩) pz.length pc)) (first | go_keep | exact ⟨G9.out.cell z0.out hne.out, G9.out.cell z1.out hne.out⟩ | exact ⟨z0.out, z1.out⟩)
              ((refine stepP _ (.tmp 58) (.tmp 72) w.heap.size (by exact hO9.out) (by exact hsrc.out) (by rfl) (by rfl) (by rfl) (by rfl) (by omega) (by have := hb9.out.size; exact this) ?_; intro A9 c9 w9 O9 G9 K9))
            all_goals
              have hbw := box (hb9.out.grown (undrew_grown G9.out) hb9.out.size (fun k hk => (OwnP.blk hO9.out hk).1))
              replace O9 := box (show OwnP w9 w.heap.size A9 (m + 1) c9 (X ++ lmid fr to (q.take (k + 1))) by
                have h := O9.out
                rw [hms.out, hRR.out]
                simp only [hLe.out, List.append_assoc, List.nil_append] at h ⊢
                exact h)
              clear q0 q1 G9 K9 v1 v2 v3 v4 v5 hd2
              go_wp2
              all_goals
                go_roundg (q.length - (k + 1))
                case measure => omega
                case rel => exact ⟨k + 1, A9, c9, m + 1, a, by omega, Nat.le_refl _, by go_num, rfl, rfl, by omega, by omega, ⟨O9.out.len.symm.trans rfl, by rw [hls.out, List.length_append]; have := hLL.out; have := hI.out.2.1; omega, O9.out⟩, hbw⟩
          · have hRR : Box (lcutR to (pa, some ⟨b, o, none⟩, pc, pz) = []) := ⟨by
              unfold lcutR
              rw [hE, if_neg hRt]⟩
            have O9 := box (show OwnP w5 w.heap.size A3 m c3 (X ++ lmid fr to (q.take (k + 1))) by
              have h := w5O.out
              rw [hms.out, hRR.out]
              simp only [hLe.out, List.append_nil]
              exact h)
            go_wp2
            all_goals
              go_roundg (q.length - (k + 1))
              case measure => omega
              case rel => exact ⟨k + 1, A3, c3, m, a, by omega, Nat.le_refl _, by go_num, rfl, rfl, by omega, by omega, ⟨O9.out.len.symm.trans rfl, by rw [hls.out, List.length_append]; have := hLL.out; have := hI.out.2.1; omega, O9.out⟩, w5b⟩
        -- ROUND-END
      · obtain rfl : k = q.length := by omega
        go_wp2
        go_ret2
        obtain ⟨i1, i2, i3⟩ := hI.out
        rw [List.take_length] at i1 i2 i3
        refine ⟨A3, c3, j, ?_, hj.out, ?_, hbr.out⟩
        · rw [hX.out, hq.out]
          exact ret_cl i1 i2
        · rw [hX.out, hq.out, ← i1]
          exact i3
end Go.Proofs.Ytajfamjdfhjdeaa
