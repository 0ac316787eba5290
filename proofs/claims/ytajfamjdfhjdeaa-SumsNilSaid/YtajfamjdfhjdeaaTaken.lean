/- (*mantleref01.Bytes).taken. -/
import Derived.Test.YtajfamjdfhjdeaaRefK
import Derived.Deep.DeepCutAuto
namespace Go.Proofs.Ytajfamjdfhjdeaa
open Go.RowKit
attribute [local go_sem ↓] Go.wp_at_zero Go.wp_at_succ

theorem rnew_heap (w : World) (x : Int) (A : Option Addr) (n c : Nat) : (w.alloc (.cells #[.int .i64 x, .slice A n c] 184)).heap[w.heap.size]? = some (.cells #[.int .i64 x, .slice A n c] 184) := heap_alloc_new _ _
theorem grown_block {w w' : World} {k : Nat} {o : Obj} {row : Option Nat} (hg : w.grownBy w' row) (h : w.heap[k]? = some o) (hne : some k ≠ row) : w'.heap[k]? = some o := (hg.block k (lt_of_heap h) hne).trans h

set_option maxHeartbeats 8000000 in
set_option maxRecDepth 100000 in
theorem taken_any {w : World} {G : Nat → Prop} {g : Nat} {ls : List Lp} {N fr tt : Int} (h : RSpan w G g ls N) (h0 : 0 ≤ fr) (h1 : fr < tt) (h2 : tt ≤ 2147483648) :
    Calls Try.prog 61 #[.pointer (some ⟨g, 0, none⟩), .int .i64 fr, .int .i64 tt] w fun e w' =>
      ∃ A c, e = .returned (.slice A (ltaken fr tt ls).length c) ∧ OwnR w' w.heap.size A (ltaken fr tt ls).length c (ltaken fr tt ls) ∧ Below w.heap.size w w' := by
  obtain ⟨A, c, ht, hO, hG⟩ := h.top
  have hcap := own_cap hO
  have g0 : w.cell? ⟨g, 0, none⟩ = some (.slice A ls.length c) := cell_of_heap ht rfl
  have hgl := lt_of_heap ht
  have hcnt := h.count
  have hbd := box (fun p hp => h.pc_bd (p := p) hp)
  have hR := box hO.row
  clear h hO hG ht
  go_enter Try.func61, Try.ntmps61
  go_wp2
  go_loopg [7, 8] ls.length (fun kx s7 s8 wr => ∃ (k : Nat) (A3 : Option Addr) (c3 m : Nat), k ≤ ls.length ∧ ls.length - k ≤ kx ∧ s8 = .int .i64 (k : Int) ∧ s7 = .slice A3 m c3 ∧ m ≤ 2147483650 ∧
      Box (m = (ltaken fr tt (ls.take k)).length ∧ OwnR wr w.heap.size A3 m c3 (ltaken fr tt (ls.take k))) ∧ Box (Below w.heap.size w wr))
  case atStart => exact ⟨0, none, 0, 0, Nat.zero_le _, by omega, rfl, rfl, by omega, ⟨by rw [List.take_zero]; rfl, by rw [List.take_zero]; exact World.ownsRow_nil _ _ _ _⟩, ⟨Below.refl _ _⟩⟩
  case round =>
    obtain ⟨k, A3, c3, m, hk, hgk, rfl, rfl, hm, hI, hbr⟩ := hrel
    have gr := cell_past hbr.out g0
    clear g0
    by_cases hlt : k < ls.length
    · obtain ⟨p, hp⟩ : ∃ p, ls[k]? = some p := ⟨_, List.getElem?_eq_getElem hlt⟩
      obtain ⟨rb, ro, rfl, hrb, hrc⟩ := hR.out (by omega)
      obtain ⟨x0, x1⟩ := hrc k p hp
      obtain ⟨p0, p1, p2, p3, p4, b, o, p5⟩ := hbd.out p (List.mem_of_getElem? hp)
      have y0 := (hbr.out.cell (p := ⟨rb, ro + k * 2, none⟩) hrb).trans x0
      have y1 := (hbr.out.cell (p := ⟨rb, ro + k * 2 + 1, none⟩) hrb).trans x1
      have hsn := box (ltaken_snoc (fr := fr) (tt := tt) hp)
      obtain ⟨pa, pA, pc, pz⟩ := p
      simp only at p0 p2 p3 p4 p5 y0 y1
      subst p5
      have hE : lEnd (pa, some ⟨b, o, none⟩, pc, pz) = pa + (pz.length : Int) := rfl
      rw [hE] at p1
      have hm2 : m ≤ 2147483648 := by
        have h3 := hI.out.1
        have h4 := ltaken_len fr tt (ls.take k)
        rw [List.length_take] at h4
        omega
      have i0' : (0 : Int) ≤ (k : Int) := by omega
      have i1' : (k : Int) < (ls.length : Int) := by omega
      have Wh := rnew_heap wr pa (some ⟨b, o, none⟩) pz.length pc
      have Wb := hbr.out.alloc hbr.out.size (.cells #[.int .i64 pa, .slice (some ⟨b, o, none⟩) pz.length pc] 184)
      have WO := OwnR.grown hI.out.2 (Below.alloc (Below.refl wr.heap.size wr) (Nat.le_refl _) (.cells #[.int .i64 pa, .slice (some ⟨b, o, none⟩) pz.length pc] 184))
      have Wne : some wr.heap.size ≠ (Value.slice A3 m c3).ownBlock := fun h => by have := (OwnR.blk hI.out.2 h.symm).2.1; omega
      have hgr := cell_past (Below.alloc (Below.refl wr.heap.size wr) (Nat.le_refl _) (.cells #[.int .i64 pa, .slice (some ⟨b, o, none⟩) pz.length pc] 184)) gr
      go_upto_region 6 with fail
      generalize (wr.alloc (.cells #[.int .i64 pa, .slice (some ⟨b, o, none⟩) pz.length pc] 184)) = W at *
      obtain ⟨pb, hpb⟩ : ∃ pb, wr.heap.size = pb := ⟨_, rfl⟩
      rw [hpb] at Wh Wne ⊢
      have q0 : W.cell? ⟨pb, 0, none⟩ = some (.int .i64 pa) := cell_of_heap Wh rfl
      have q1 : W.cell? ⟨pb, 1, none⟩ = some (.slice (some ⟨b, o, none⟩) pz.length pc) := cell_of_heap Wh rfl
      have hend := box (fun W => rend_any pa (some ⟨b, o, none⟩) pz.length pc W p0 p1)
      replace hpb := box hpb
      clear y0 y1 gr x0 x1 hrc
      rcases (show pa + (pz.length : Int) ≤ fr ∨ (¬ pa + (pz.length : Int) ≤ fr ∧ tt ≤ pa) ∨ (¬ pa + (pz.length : Int) ≤ fr ∧ ¬ tt ≤ pa) by omega) with hc | ⟨hc, hc'⟩ | ⟨hc, hc'⟩
      · go_upto_region 7 with (with_reducible (refine Calls.mono (hend.out _) ?_); rintro e w5 ⟨rfl, hb5⟩; have z0 := cell_past hb5 q0; have z1 := cell_past hb5 q1)
        have O6 := OwnR.grown (OwnR.grown WO hb5) (Below.alloc (Below.refl w5.heap.size w5) (Nat.le_refl _) (.cells #[.int .i64 pa, .slice (some ⟨b, o, none⟩) pz.length pc] 184))
        have b6 := (Wb.trans (hb5.mono Wb.size)).alloc (Nat.le_trans Wb.size hb5.size) (.cells #[.int .i64 pa, .slice (some ⟨b, o, none⟩) pz.length pc] 184)
        have hsrc := box (src_rpiece5 w5 (pa, some ⟨b, o, none⟩, pc, pz) pz.length rfl w5.heap.size rfl)
        replace O6 := box O6
        replace b6 := box b6
        replace hb5 := box hb5
        go_wp2_with (at_builtin; refine appR _ (.tmp 36) (.tmp 38) w.heap.size O6.out hsrc.out rfl rfl rfl rfl (by omega) b6.out.size ?_; intro A7 c7 w7 O7 G7 K7)
        go_roundg (ls.length - (k + 1))
        case measure => omega
        case rel =>
          have hTe : lcutT fr tt (pa, some ⟨b, o, none⟩, pc, pz) = [(pa, some ⟨b, o, none⟩, pc, pz)] := if_pos (by rw [hE]; omega)
          refine ⟨k + 1, A7, c7, m + 1, by omega, Nat.le_refl _, by go_num, rfl, by omega, ⟨?_, ?_⟩, ⟨b6.out.grown G7.out b6.out.size fun x hx => (OwnR.blk O6.out hx).1⟩⟩
          · rw [hsn.out, hTe, List.length_append, ← hI.out.1]; rfl
          · rw [hsn.out, hTe]; exact O7.out
      · go_upto_region 7 with (with_reducible (refine Calls.mono (hend.out _) ?_); rintro e w5 ⟨rfl, hb5⟩; have z0 := cell_past hb5 q0; have z1 := cell_past hb5 q1)
        have O6 := OwnR.grown (OwnR.grown WO hb5) (Below.alloc (Below.refl w5.heap.size w5) (Nat.le_refl _) (.cells #[.int .i64 pa, .slice (some ⟨b, o, none⟩) pz.length pc] 184))
        have b6 := (Wb.trans (hb5.mono Wb.size)).alloc (Nat.le_trans Wb.size hb5.size) (.cells #[.int .i64 pa, .slice (some ⟨b, o, none⟩) pz.length pc] 184)
        have hsrc := box (src_rpiece5 w5 (pa, some ⟨b, o, none⟩, pc, pz) pz.length rfl w5.heap.size rfl)
        replace O6 := box O6
        replace b6 := box b6
        replace hb5 := box hb5
        go_wp2_with (at_builtin; refine appR _ (.tmp 36) (.tmp 38) w.heap.size O6.out hsrc.out rfl rfl rfl rfl (by omega) b6.out.size ?_; intro A7 c7 w7 O7 G7 K7)
        go_roundg (ls.length - (k + 1))
        case measure => omega
        case rel =>
          have hTe : lcutT fr tt (pa, some ⟨b, o, none⟩, pc, pz) = [(pa, some ⟨b, o, none⟩, pc, pz)] := if_pos (by rw [hE]; omega)
          refine ⟨k + 1, A7, c7, m + 1, by omega, Nat.le_refl _, by go_num, rfl, by omega, ⟨?_, ?_⟩, ⟨b6.out.grown G7.out b6.out.size fun x hx => (OwnR.blk O6.out hx).1⟩⟩
          · rw [hsn.out, hTe, List.length_append, ← hI.out.1]; rfl
          · rw [hsn.out, hTe]; exact O7.out
      · have hTe : lcutT fr tt (pa, some ⟨b, o, none⟩, pc, pz) = lcutL fr (pa, some ⟨b, o, none⟩, pc, pz) ++ lcutR tt (pa, some ⟨b, o, none⟩, pc, pz) := if_neg (by rw [hE]; omega)
        rw [hTe, ← List.append_assoc] at hsn
        clear hTe
        go_upto_if 43 with (with_reducible (refine Calls.mono (hend.out _) ?_); rintro e w5 ⟨rfl, hb5⟩; have z0 := cell_past hb5 q0; have z1 := cell_past hb5 q1)
        have O5 := OwnR.grown WO hb5
        have b5 := Wb.trans (hb5.mono Wb.size)
        have h5 := (hb5.block pb (lt_of_heap Wh)).trans Wh
        replace O5 := box O5
        replace b5 := box b5
        replace h5 := box h5
        have hpl := lt_of_heap h5.out
        clear hb5 q0 q1 Wh WO Wb hgr
        go_cut [7] (fun s7 wx => ∃ A4 c4 m4, s7 = .slice A4 m4 c4 ∧ m4 ≤ 2147483649 ∧ Box (m4 = (ltaken fr tt (ls.take k) ++ lcutL fr (pa, some ⟨b, o, none⟩, pc, pz)).length ∧ OwnR wx w.heap.size A4 m4 c4 (ltaken fr tt (ls.take k) ++ lcutL fr (pa, some ⟨b, o, none⟩, pc, pz))) ∧ Box (Below w.heap.size w wx) ∧ Box (wx.heap[pb]? = some (.cells #[.int .i64 pa, .slice (some ⟨b, o, none⟩) pz.length pc] 184)))
        case first =>
          by_cases hL : pa < fr
          · obtain ⟨d, hd⟩ : ∃ d : Nat, fr - pa = (d : Int) := ⟨(fr - pa).toNat, by omega⟩
            have u1 : (0 : Int) ≤ (d : Int) := by omega
            have u2 : (d : Int) ≤ (pz.length : Int) := by omega
            have u3 : (pz.length : Int) ≤ (pc : Int) := by omega
            have u5 : (d : Int) ≤ (pc : Int) := by omega
            have u4 : IntKind.i64.wrap (d : Int) = (d : Int) := IntWalk.i64_in _ (by omega)
            have hLe : Box (lcutL fr (pa, some ⟨b, o, none⟩, pc, pz) = [(pa, some ⟨b, o, none⟩, pc, pz.take d)]) := ⟨by
              unfold lcutL
              rw [if_pos hL]
              show [(pa, some (⟨b, o, none⟩ : Addr), pc, pz.take (fr - pa).toNat)] = _
              rw [hd, Int.toNat_natCast]⟩
            have hsrc := box (src_rpiece5 w5 (pa, some ⟨b, o, none⟩, pc, pz.take d) d (by show (pz.take d).length = d; rw [List.length_take]; omega) w5.heap.size rfl)
            have hO6 := box (OwnR.grown O5.out (Below.alloc (Below.refl w5.heap.size w5) (Nat.le_refl _) (.cells #[.int .i64 pa, .slice (some ⟨b, o, none⟩) d pc] 184)))
            have hb6 := box (b5.out.alloc b5.out.size (.cells #[.int .i64 pa, .slice (some ⟨b, o, none⟩) d pc] 184))
            have h6 := box (((Below.alloc (Below.refl w5.heap.size w5) (Nat.le_refl _) (.cells #[.int .i64 pa, .slice (some ⟨b, o, none⟩) d pc] 184)).block pb hpl).trans h5.out)
            have q0 := box (cell_of_heap (o := 0) (v := .int .i64 pa) h6.out rfl)
            have q1 := box (cell_of_heap (o := 1) (v := .slice (some ⟨b, o, none⟩) pz.length pc) h6.out rfl)
            go_wp2_with fail
            go_region_held3 (fun W => W.cell? ⟨pb, 0, none⟩ = some (.int .i64 pa) ∧ W.cell? ⟨pb, 1, none⟩ = some (.slice (some ⟨b, o, none⟩) pz.length pc)) (first | go_keep | exact ⟨G4.out.cell q0.out Wne, G4.out.cell q1.out Wne⟩ | exact ⟨q0.out, q1.out⟩)
              ((refine stepR _ (.tmp 44) (.tmp 55) w.heap.size (by exact hO6.out) (by exact hsrc.out) (by rfl) (by rfl) (by rfl) (by rfl) (by omega) (by have := hb6.out.size; exact this) ?_; intro A4 c4 w4 O4 G4 K4))
            go_wp2_with fail
            go_meet
            refine ⟨A4, c4, m + 1, rfl, by omega, ⟨?_, ?_⟩, ⟨hb6.out.grown (undrew_grown G4.out) hb6.out.size (fun k hk => (OwnR.blk hO6.out hk).1)⟩, ⟨grown_block (undrew_grown G4.out) h6.out Wne⟩⟩
            · rw [hLe.out, List.length_append, ← hI.out.1]; rfl
            · rw [hLe.out]; exact O4.out
          · have hLe : Box (lcutL fr (pa, some ⟨b, o, none⟩, pc, pz) = []) := ⟨if_neg hL⟩
            go_wp2_with fail
            go_meet
            refine ⟨A3, c3, m, rfl, by omega, ⟨?_, ?_⟩, b5, h5⟩
            · rw [hLe.out, List.append_nil]; exact hI.out.1
            · rw [hLe.out, List.append_nil]; exact O5.out
        case rest =>
          obtain ⟨A4, c4, m4, rfl, hm4, hI4, b4, h4⟩ := hcut
          clear z0 z1 O5 b5 h5 hpl hI
          have q0 := cell_of_heap (o := 0) (v := .int .i64 pa) h4.out rfl
          have q1 := cell_of_heap (o := 1) (v := .slice (some ⟨b, o, none⟩) pz.length pc) h4.out rfl
          by_cases hL : tt < pa + (pz.length : Int)
          · obtain ⟨d, hd⟩ : ∃ d : Nat, tt - pa = (d : Int) := ⟨(tt - pa).toNat, by omega⟩
            have u1 : (0 : Int) ≤ (d : Int) := by omega
            have u2 : (d : Int) ≤ (pz.length : Int) := by omega
            have u3 : (pz.length : Int) ≤ (pc : Int) := by omega
            have u6 : ¬ pc = d := by omega
            have u4 : IntKind.i64.wrap (d : Int) = (d : Int) := IntWalk.i64_in _ (by omega)
            have hLe : Box (lcutR tt (pa, some ⟨b, o, none⟩, pc, pz) = [(tt, some ⟨b, o + d, none⟩, pc - d, pz.drop d)]) := ⟨by
              unfold lcutR
              rw [hE, if_pos hL]
              show [(max pa tt, (some (⟨b, o, none⟩ : Addr)).map (fun x => x.add (tt - pa).toNat), pc - (tt - pa).toNat, pz.drop (tt - pa).toNat)] = _
              rw [hd, Int.toNat_natCast, show max pa tt = tt by omega, Option.map_some, add_at]⟩
            go_upto_region 11 with (with_reducible (refine Calls.mono (hend.out _) ?_); rintro e w6 ⟨rfl, hb6⟩; have z0 := cell_past hb6 q0; have z1 := cell_past hb6 q1)
            have hsrc := box (src_rpiece5 w6 (tt, some ⟨b, o + d, none⟩, pc - d, pz.drop d) (pz.length - d) (by show (pz.drop d).length = _; rw [List.length_drop]) w6.heap.size rfl)
            have hO7 := box (OwnR.grown (OwnR.grown hI4.out.2 hb6) (Below.alloc (Below.refl w6.heap.size w6) (Nat.le_refl _) (.cells #[.int .i64 tt, .slice (some ⟨b, o + d, none⟩) (pz.length - d) (pc - d)] 184)))
            have hb7 := box ((b4.out.trans (hb6.mono b4.out.size)).alloc (Nat.le_trans b4.out.size hb6.size) (.cells #[.int .i64 tt, .slice (some ⟨b, o + d, none⟩) (pz.length - d) (pc - d)] 184))
            replace hb6 := box hb6
            clear q0 q1
            go_wp2_with (at_builtin; refine appR _ (.tmp 61) (.tmp 71) w.heap.size hO7.out hsrc.out rfl rfl rfl rfl (by omega) hb7.out.size ?_; intro A8 c8 w8 O8 G8 K8)
            go_roundg (ls.length - (k + 1))
            case measure => omega
            case rel =>
              refine ⟨k + 1, A8, c8, m4 + 1, by omega, Nat.le_refl _, by go_num, rfl, by omega, ⟨?_, ?_⟩, ⟨hb7.out.grown G8.out hb7.out.size fun x hx => (OwnR.blk hO7.out hx).1⟩⟩
              · rw [hsn.out, hLe.out, List.length_append, ← hI4.out.1]; rfl
              · rw [hsn.out, hLe.out]; exact O8.out
          · have hLe : Box (lcutR tt (pa, some ⟨b, o, none⟩, pc, pz) = []) := ⟨by unfold lcutR; rw [hE]; exact if_neg hL⟩
            go_wp2_with (with_reducible (refine Calls.mono (hend.out _) ?_); rintro e w6 ⟨rfl, hb6⟩; replace hb6 := box hb6)
            go_roundg (ls.length - (k + 1))
            case measure => omega
            case rel =>
              refine ⟨k + 1, A4, c4, m4, by omega, Nat.le_refl _, by go_num, rfl, by omega, ⟨?_, ?_⟩, ⟨b4.out.trans (hb6.out.mono b4.out.size)⟩⟩
              · rw [hsn.out, hLe.out, List.append_nil]; exact hI4.out.1
              · rw [hsn.out, hLe.out, List.append_nil]; exact OwnR.grown hI4.out.2 hb6.out
    · obtain rfl : k = ls.length := by omega
      go_wp2
      go_ret
      have hl := hI.out
      rw [List.take_length] at hl
      obtain ⟨h3, h4⟩ := hl
      subst h3
      exact ⟨A3, c3, rfl, h4, hbr.out⟩
end Go.Proofs.Ytajfamjdfhjdeaa
