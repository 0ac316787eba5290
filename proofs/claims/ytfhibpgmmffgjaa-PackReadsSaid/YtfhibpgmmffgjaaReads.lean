/- mantlelaw11.PackReads answers true: the walk. -/
import Derived.Test.YtfhibpgmmffgjaaPackNew
import Derived.Test.YtfhibpgmmffgjaaBack
import Derived.Test.YtfhibpgmmffgjaaDoG
namespace Go.Proofs.Ytfhibpgmmffgjaa
open Go.RowKit
attribute [local go_sem ↓] Go.wp_at_zero Go.wp_at_succ

theorem new0 {w : World} {A : Option Addr} {n c B : Nat} {zs : List Int} (h : Byt w B A n zs) (hn : n ≤ 4194304) (hnc : n ≤ c) :
    Calls Try.prog 17 #[.slice A n c, .int .u8 0] w fun e w' =>
      ∃ H, e = .returned (.tuple #[.pointer (some ⟨H, 0, none⟩), .int .i64 0]) ∧ w.heap.size ≤ H ∧ Open w' H 0 (n : Int) (plainRd zs) ∧ Below w.heap.size w w' :=
  new_any (can := 0) h hn hnc (by omega)
theorem can0 {w : World} {H P : Nat} {T : TypeId} {v : Value} (h : Hand w H P 0 T v) :
    Calls Try.prog 22 #[.pointer (some ⟨H, 0, none⟩)] w fun e w' => e = .returned (.int .u8 0) ∧ w' = w := can_any h
theorem file_do_size {w : World} {H P : Nat} {v : Value} {out : List Int} (h : Hand w H P 0 64 v) (hr : Reads w 64 v (out.length : Int) (plainRd out)) :
    Calls Try.prog 18 #[.pointer (some ⟨H, 0, none⟩), .agg #[.int .i8 0, .int .i64 0, .int .i64 0, .slice none 0 0]] w fun e w' =>
      e = .returned (.agg #[.int .i64 0, .int .i64 (out.length : Int), .int .i64 0, .slice none 0 0]) ∧ Below w.heap.size w w' := by
  obtain ⟨S, R, h1, h2, h3, h4, h5, h6⟩ := hr
  exact do_size_grown h S 0 0 _ _ h1 h3 h5
theorem file_do_read {w : World} {H P : Nat} {v : Value} {out : List Int} (at_ n E : Int) (zs : List Int) (h : Hand w H P 0 64 v) (hr : Reads w 64 v (out.length : Int) (plainRd out)) (he : plainRd out at_ n = (E, zs)) :
    Calls Try.prog 18 #[.pointer (some ⟨H, 0, none⟩), .agg #[.int .i8 1, .int .i64 at_, .int .i64 n, .slice none 0 0]] w fun e w' =>
      ∃ A k c, e = .returned (.agg #[.int .i64 E, .int .i64 0, .int .i64 0, .slice A k c]) ∧ Byt w' w'.heap.size A k zs ∧ k ≤ c ∧ c ≤ 9223372036854775807 ∧ Below w.heap.size w w' := by
  obtain ⟨S, R, h1, h2, h3, h4, h5, h6⟩ := hr
  refine do_read_grown h R at_ n E zs _ h2 h4 fun W hW => ?_
  have := h6 W at_ n hW
  rw [he] at this
  exact this.mono fun e w' ⟨A, k, c, g1, g2, g3, g4, g5, g6⟩ => ⟨A, k, c, g1, g2, by omega, g6⟩

/-- The pieces that came in. -/
def PiecesIn (w : World) (P : Option Addr) (l : Nat) : Prop := 0 < l → ∃ b o, P = some ⟨b, o, none⟩ ∧ b < w.heap.size ∧ ∀ i, i < l → ∃ x : Int, 0 ≤ x ∧ x ≤ 65535 ∧ w.cell? ⟨b, o + i, none⟩ = some (.int .u16 x)

theorem reads_long (p q : Option Addr) (len cap l d : Nat) (w : World) (h16 : 65536 < len) :
    Calls Try.prog 8 #[.slice p len cap, .slice q l d] w fun e w' => e = .returned (.bool true) ∧ Below w.heap.size w w' := by
  have h16' : (65536 : Int) < (len : Int) := by omega
  go_enter Try.func8, Try.ntmps8
  set_option maxRecDepth 100000 in
  go_wp2_with fail
  refine (works_any _).mono ?_
  rintro e w1 ⟨rfl, b1⟩
  set_option maxRecDepth 100000 in
  go_wp2_with fail
  refine (works_any _).mono ?_
  rintro e w2 ⟨rfl, b2⟩
  set_option maxRecDepth 100000 in
  go_wp2_with fail
  go_ret
  exact ⟨rfl, b1.trans (b2.mono b1.size)⟩

theorem told_n (s : Int) (w : World) : (Instr.field 39 (.agg #[.int .i64 0, .int .i64 s, .int .i64 0, .slice none 0 0]) 1).run Try.prog w = .ok (.int .i64 s) w := by kernel_rfl

set_option maxHeartbeats 4000000 in
set_option maxRecDepth 100000 in
theorem reads_any (p q : Option Addr) (len cap l d : Nat) (zs : List Int) (w : World) (hb : Byt w w.heap.size p len zs) (hlc : len ≤ cap) (hcap : cap ≤ 9223372036854775807) (hl : len ≤ 65536) (hll : l ≤ 9223372036854775807) (hp : PiecesIn w q l) :
    Calls Try.prog 8 #[.slice p len cap, .slice q l d] w fun e w' => e = .returned (.bool true) ∧ Below w.heap.size w w' := by
  have h16' : ¬ (65536 : Int) < (len : Int) := by omega
  have hlen := hb.len
  obtain ⟨u1, u2, u3⟩ := unpack_pack zs hb.bs (by omega)
  obtain ⟨ps, hps⟩ : ∃ ps, packS zs = ps := ⟨_, rfl⟩
  rw [hps] at u1 u2 u3
  have U1 := box u1
  have U3 := box u3
  have HPS := box hps
  have t1 : ps.length ≤ 131072 := by omega
  clear u1 u3 hps u2
  have HB := box hb
  have HL := box hlen
  have HP := box hp
  clear hb hlen hp
  go_enter Try.func8, Try.ntmps8
  go_wp2_with fail
  refine (works_any _).mono ?_
  rintro e w1 ⟨rfl, b1⟩
  replace b1 := box b1
  go_wp2_with fail
  have c1 := pack_any p len cap zs w1 ((HB.out.below b1.out).more b1.out.size) hlc hcap (by omega)
  rw [HPS.out] at c1
  refine c1.mono ?_
  rintro e w2 ⟨A2, k2, rfl, own2, b2⟩
  clear c1
  have hc2 := own_cap own2
  have y2 := box (Byt.of_own own2 U3.out)
  replace b1 := box (b1.out.trans (b2.mono b1.out.size))
  clear own2 b2
  go_wp2_with fail
  refine (new0 y2.out (by omega) hc2.1).mono ?_
  rintro e w3 ⟨H, rfl, hH, hO, b3⟩
  replace hO := box hO
  replace b1 := box (b1.out.trans (b3.mono b1.out.size))
  clear hH b3 y2 hc2
  go_wp2_with fail
  refine (packNew_any hO.out t1 U1.out U3.out HB.out.bs (by rw [HL.out]; exact hl)).mono ?_
  rintro e w4 ⟨H4, P4, v4, rfl, hH4, hR4, b4⟩
  replace hH4 := box hH4
  replace hR4 := box hR4
  replace b1 := box (b1.out.trans (b4.mono b1.out.size))
  clear b4 hO
  go_wp2_with fail
  refine (can0 hH4.out).mono ?_
  rintro e w5 ⟨rfl, rfl⟩
  go_wp2_with fail
  refine (file_do_size hH4.out hR4.out).mono ?_
  rintro e w6 ⟨rfl, b6⟩
  replace b1 := box (b1.out.trans (b6.mono b1.out.size))
  replace hH4 := box (hH4.out.grown b6)
  replace hR4 := box (hR4.out.grown b6)
  rw [HL.out]
  have hfld := told_n (len : Int)
  clear b6
  go_wp2
  clear hfld h16' t1 U1 U3 HPS
  have HBB := box (HB.out.below b1.out)
  go_loopw [11, 12] (fun s11 s12 wr => ∃ (at_ i : Nat), s11 = .int .i64 (at_ : Int) ∧ s12 = .int .i64 (i : Int) ∧ at_ ≤ len ∧ i ≤ l ∧ Box (Below w6.heap.size w6 wr)) (fun _ s12 _ => l - (intOf s12).toNat)
  case atStart => exact ⟨0, 0, rfl, rfl, Nat.zero_le _, Nat.zero_le _, ⟨Below.refl _ _⟩⟩
  case round =>
    obtain ⟨at_, i, rfl, rfl, hat, hil, hbr⟩ := hrel
    by_cases hgo : i < l ∧ i < 1000 ∧ at_ < len
    · obtain ⟨g1, g2, g3⟩ := hgo
      obtain ⟨pb, po, rfl, hpb, hpx⟩ := HP.out (by omega)
      obtain ⟨x, hx0, hx1, hcx⟩ := hpx i g1
      obtain ⟨xn, rfl⟩ := Int.eq_ofNat_of_zero_le hx0
      have hcx2 : wr.cell? ⟨pb, po + i, none⟩ = some (.int .u16 (xn : Int)) := (hbr.out.cell (by have := b1.out.size; show pb < _; omega)).trans ((b1.out.cell hpb).trans hcx)
      have hrd : plainRd zs (at_ : Int) (xn : Int) = (0, (zs.drop at_).take xn) := by
        unfold plainRd
        rw [if_neg (by omega), if_neg (by omega), Int.toNat_natCast, Int.toNat_natCast]
      have hdo := box (file_do_read (at_ : Int) (xn : Int) 0 _ (hH4.out.grown hbr.out) (hR4.out.grown hbr.out) hrd)
      clear hrd hcx hpx
      have f1 : (i : Int) < (l : Int) := by omega
      have f2 : (i : Int) < 1000 := by omega
      have f3 : (at_ : Int) < (len : Int) := by omega
      have f4 : (0 : Int) ≤ (i : Int) := by omega
      go_wp2_with fail
      refine hdo.out.mono ?_
      rintro e w7 ⟨A7, k7, c7, rfl, hy7, hk7, hc7, hb7⟩
      have hb8 := hb7.alloc hb7.size (.cells #[.int .i64 0, .int .i64 0, .int .i64 0, .slice A7 k7 c7] 39)
      have x0 : (w7.alloc (.cells #[.int .i64 0, .int .i64 0, .int .i64 0, .slice A7 k7 c7] 39)).cell? ⟨w7.heap.size, 0, none⟩ = some (.int .i64 0) := cell_of_heap (heap_alloc_new _ _) rfl
      have x3 : (w7.alloc (.cells #[.int .i64 0, .int .i64 0, .int .i64 0, .slice A7 k7 c7] 39)).cell? ⟨w7.heap.size, 3, none⟩ = some (.slice A7 k7 c7) := cell_of_heap (heap_alloc_new _ _) rfl
      have hy8 := hy7.grown (Below.alloc (Below.refl w7.heap.size w7) (Nat.le_refl _) (.cells #[.int .i64 0, .int .i64 0, .int .i64 0, .slice A7 k7 c7] 39))
      have hkl := hy7.len
      obtain ⟨W8, hW8⟩ : ∃ W8, W8 = w7.alloc (.cells #[.int .i64 0, .int .i64 0, .int .i64 0, .slice A7 k7 c7] 39) := ⟨_, rfl⟩
      rw [← hW8] at hb8 x0 x3 hy8
      replace hbr := box (hbr.out.trans (hb8.mono hbr.out.size))
      obtain ⟨e1, he1⟩ : ∃ e1 : Nat, min ((at_ : Int) + (xn : Int)) (len : Int) = (e1 : Int) := ⟨(min ((at_ : Int) + (xn : Int)) (len : Int)).toNat, by omega⟩
      have he2 : at_ ≤ e1 := by omega
      have he3 : e1 ≤ len := by omega
      have hsame : (zs.drop at_).take xn = (zs.drop at_).take (e1 - at_) := by
        have hzl : (zs.drop at_).length = len - at_ := by rw [List.length_drop, HL.out]
        by_cases hc : at_ + xn ≤ len
        · rw [show e1 - at_ = xn by omega]
        · rw [List.take_of_length_le (by omega), List.take_of_length_le (by omega)]
      have hk8 : k7 = e1 - at_ := by
        rw [hsame, List.length_take, List.length_drop, HL.out] at hkl
        omega
      obtain ⟨bb, bo, rfl, hbl, -⟩ := HB.out.at_ (by omega)
      have hyb : Byt W8 W8.heap.size (some ⟨bb, bo + at_, none⟩) (e1 - at_) ((zs.drop at_).take (e1 - at_)) :=
        (((HBB.out.below ((hbr.out).mono b1.out.size)).more (by have := hbr.out.size; have := b1.out.size; omega)).drop hat).take (by omega)
      rw [hsame] at hy8
      have heq := equal_any A7 (some ⟨bb, bo + at_, none⟩) k7 c7 (e1 - at_) (cap - at_) _ _ _ _ W8.drew (hy8.keep (w' := W8.drew) fun _ _ => by simp) (hyb.keep (w' := W8.drew) fun _ _ => by simp)
      rw [decide_eq_true rfl] at heq
      replace heq := box heq
      have v2 : ¬ (cap = at_) := by omega
      have v3 : (0 : Int) ≤ (at_ : Int) := by omega
      have v4 : (at_ : Int) ≤ (e1 : Int) := by omega
      have v5 : (e1 : Int) ≤ (cap : Int) := by omega
      have v6 : IntKind.i64.wrap ((at_ : Int) + (xn : Int)) = (at_ : Int) + (xn : Int) := IntWalk.i64_in _ (by omega)
      have x0' := box x0
      have x3' := box x3
      replace hk8 := box hk8
      replace hW8 := box hW8
      clear hy7 hy8 hyb hb7 hb8 hdo hcx2 hsame hkl
      go_wp2_with fail
      rw [← hW8.out]
      clear hW8
      go_region_held3 (fun W => W.cell? ⟨w7.heap.size, 0, none⟩ = some (.int .i64 0) ∧ W.cell? ⟨w7.heap.size, 3, none⟩ = some (.slice A7 k7 c7)) (first | go_keep | exact ⟨x0'.out, x3'.out⟩)
        (with_reducible (refine Calls.mono heq.out ?_); rintro e w9 ⟨rfl, rfl⟩)
      have hk9 : at_ + k7 ≤ len := by have := hk8.out; omega
      have hbd := box (Below.drew hbr.out)
      clear v2 v3 v4 v5 v6 x0 x0' x3' heq he1 hbr hk8
      go_wp2
      go_roundw
      case measure => simp [intOf]; omega
      case rel => exact ⟨at_ + k7, i + 1, by go_num, by go_num, hk9, by omega, hbd⟩
    · have hop := box (show Open wr H4 0 (zs.length : Int) (plainRd zs) from ⟨P4, _, v4, hH4.out.grown hbr.out, hR4.out.grown hbr.out⟩)
      have hall := box (all_any hop.out (by rw [HL.out]; omega))
      rw [HL.out] at hall
      have heq := box (fun (W : World) (hW : Below w6.heap.size w6 W) (A9 : Option Addr) (c9 : Nat) (ho : Byt W W.heap.size A9 len zs) => equal_any A9 p len c9 len cap _ _ zs zs W ho (HBB.out.below (hW.mono b1.out.size)))
      rw [decide_eq_true (rfl : zs = zs)] at heq
      have tail1 : ¬ (i < l) ∨ (i < l ∧ ¬ i < 1000) ∨ (i < l ∧ i < 1000 ∧ ¬ at_ < len) := by omega
      have HBS := box HB.out.bs
      clear hop hgo HP hH4 hR4 HB
      rcases tail1 with g1 | ⟨g1, g2⟩ | ⟨g1, g2, g3⟩
      · have f1 : ¬ (i : Int) < (l : Int) := by omega
        go_wp2_with fail
        refine hall.out.mono ?_
        rintro e w7 ⟨A7, c7, rfl, hO7, hb7⟩
        have hy7 := box (Byt.of_own hO7 HBS.out)
        replace hbr := box (hbr.out.trans (hb7.mono hbr.out.size))
        clear hO7 hb7 hall
        go_wp2_with fail
        refine (heq.out _ hbr.out _ _ hy7.out).mono ?_
        rintro e w8 ⟨rfl, rfl⟩
        go_wp2
        go_ret
        exact ⟨rfl, b1.out.trans (hbr.out.mono b1.out.size)⟩
      · have f1 : (i : Int) < (l : Int) := by omega
        have f2 : ¬ (i : Int) < 1000 := by omega
        go_wp2_with fail
        refine hall.out.mono ?_
        rintro e w7 ⟨A7, c7, rfl, hO7, hb7⟩
        have hy7 := box (Byt.of_own hO7 HBS.out)
        replace hbr := box (hbr.out.trans (hb7.mono hbr.out.size))
        clear hO7 hb7 hall
        go_wp2_with fail
        refine (heq.out _ hbr.out _ _ hy7.out).mono ?_
        rintro e w8 ⟨rfl, rfl⟩
        go_wp2
        go_ret
        exact ⟨rfl, b1.out.trans (hbr.out.mono b1.out.size)⟩
      · have f1 : (i : Int) < (l : Int) := by omega
        have f2 : (i : Int) < 1000 := by omega
        have f3 : ¬ (at_ : Int) < (len : Int) := by omega
        go_wp2_with fail
        refine hall.out.mono ?_
        rintro e w7 ⟨A7, c7, rfl, hO7, hb7⟩
        have hy7 := box (Byt.of_own hO7 HBS.out)
        replace hbr := box (hbr.out.trans (hb7.mono hbr.out.size))
        clear hO7 hb7 hall
        go_wp2_with fail
        refine (heq.out _ hbr.out _ _ hy7.out).mono ?_
        rintro e w8 ⟨rfl, rfl⟩
        go_wp2
        go_ret
        exact ⟨rfl, b1.out.trans (hbr.out.mono b1.out.size)⟩
end Go.Proofs.Ytfhibpgmmffgjaa
