/- pack.Pack computes packS: the walk. -/
import Derived.Test.YtfhibpgmmffgjaaMatch
import Derived.Test.YtfhibpgmmffgjaaRuns
import Derived.Test.YtfhibpgmmffgjaaPackL
namespace Go.Proofs.Ytfhibpgmmffgjaa
open Go.RowKit

theorem pack_long (p : Option Addr) (len cap : Nat) (w : World) (h : 65536 < len) :
    Calls Try.prog 11 #[.slice p len cap] w fun e w' => e = .returned (.tuple #[.slice none 0 0, .int .i64 3]) ∧ w' = w := by
  have h' : (65536 : Int) < (len : Int) := by omega
  go_enter Try.func11, Try.ntmps11
  go_wp2
  go_ret2
  exact ⟨rfl, rfl⟩

set_option maxHeartbeats 1000000 in
set_option maxRecDepth 100000 in
theorem pack_any (p : Option Addr) (len cap : Nat) (zs : List Int) (w : World) (hb : Byt w w.heap.size p len zs) (hlc : len ≤ cap) (hcap : cap ≤ 9223372036854775807) (h : len ≤ 65536) :
    Calls Try.prog 11 #[.slice p len cap] w fun e w' => ∃ A' c', e = .returned (.tuple #[.slice A' (packS zs).length c', .int .i64 0]) ∧
      w'.ownsRow w.heap.size 5 1 (.slice A' (packS zs).length c') (packS zs).length (u8s (packS zs)) ∧ Below w.heap.size w w' := by
  have h' : (len : Int) ≤ 65536 := by omega
  obtain ⟨i0, hi0, hz0, hz1, hz2⟩ := info_parts u8_info
  go_enter Try.func11, Try.ntmps11
  go_wp2
  go_loopg [5, 6, 7] len (fun g s5 s6 s7 wr => ∃ (A1 : Option Addr) (n1 c1 fr t : Nat) (pre : List Int), s5 = .slice A1 n1 c1 ∧ s6 = .int .i64 fr ∧ s7 = .int .i64 t ∧ t + g = len ∧ fr ≤ t ∧ n1 ≤ 4 + 4 * fr ∧
    Aside (wr.ownsRow w.heap.size 5 1 (.slice A1 n1 c1) n1 (u8s pre) ∧ Below w.heap.size w wr ∧ packF zs g fr t pre = packS zs))
  case atStart => exact ⟨_, 4, 4, 0, 0, head4 len, rfl, rfl, rfl, by omega, Nat.le_refl _, by omega, World.ownsRow_lit w #[.int .u8 ((len : Int) / 16777216), .int .u8 ((len : Int) / 65536), .int .u8 ((len : Int) / 256 % 256), .int .u8 ((len : Int) % 256)] 4 (Nat.le_refl _) (by simp only [maxLen]; omega) rfl, (Below.refl _ _).alloc (Nat.le_refl _) _, by rw [← hb.len]; rfl⟩
  case round =>
    obtain ⟨A1, n1, c1, fr, t, pre, rfl, rfl, rfl, htg, hft, hn1, H⟩ := hrel
    have hbw := hb.below H.out.2.1
    have HB := Lib.hid hb
    clear hb
    cases gk with
    | zero =>
      have h1 : ¬ ((t : Int) < (len : Int)) := by omega
      have i1 : (fr : Int) ≤ (len : Int) := by omega
      obtain ⟨r1, r2, r3⟩ := H.out
      have R3 := Lib.hid r3
      clear r3
      have hpk : packS zs = pre ++ runsS (zs.drop fr) := by rw [← R3.out, packF_zero]
      have hlp : n1 = pre.length := by have := r1.1; rw [u8s_length] at this; omega
      have HPK := Lib.hid hpk
      have HLP := Lib.hid hlp
      clear hpk hlp
      by_cases hcf : cap = fr
      · have hz0' : Byt wr w.heap.size p (len - fr) (zs.drop fr) := by
          have e0 : fr = len := by omega
          rw [e0]
          exact hbw.drop_all _
        go_wp2_with (go_at_call 25; refine (runs_any w.heap.size A1 _ n1 c1 (len - fr) _ pre (zs.drop fr) _ r1 hz0' (by omega) r2.size (by omega)).mono ?_; rintro e w2 ⟨A2, c2, rfl, own2, bel2⟩)
        go_ret2
        rw [HPK.out, List.length_append, ← HLP.out]
        exact ⟨A2, c2, rfl, own2, r2.trans bel2⟩
      · have hz0' : Byt wr w.heap.size (p.map (·.add fr)) (len - fr) (zs.drop fr) := by
          have := hbw.cut (k := fr) (cap := cap) (by omega) hlc
          rwa [if_neg hcf] at this
        go_wp2_with (go_at_call 25; refine (runs_any w.heap.size A1 _ n1 c1 (len - fr) _ pre (zs.drop fr) _ r1 hz0' (by omega) r2.size (by omega)).mono ?_; rintro e w2 ⟨A2, c2, rfl, own2, bel2⟩)
        go_ret2
        rw [HPK.out, List.length_append, ← HLP.out]
        exact ⟨A2, c2, rfl, own2, r2.trans bel2⟩
    | succ g =>
      have h1 : (t : Int) < (len : Int) := by omega
      obtain ⟨k, d, hkd⟩ : ∃ k d, matchS zs t = (k, d) := ⟨_, _, rfl⟩
      have cm := fun W (hW : Byt W w.heap.size p len zs) => match_any p len cap t zs W hW.len hlc hcap (by omega) hW.lib
      rw [hkd] at cm
      have CM := Lib.hid cm
      clear cm
      by_cases hk : k = 0
      · have h2 : ((k : Int) == 0) = true := by simp [hk]
        have HK := Lib.hid hk
        have HKD := Lib.hid hkd
        clear hk hkd
        go_wp2_with (go_at_call 24; refine (CM.out _ hbw).mono ?_; rintro e w' ⟨rfl, nq, rfl⟩)
        go_roundg g
        case measure => omega
        case rel =>
          obtain ⟨r1, r2, r3⟩ := H.out
          exact ⟨A1, n1, c1, fr, t + 1, pre, rfl, rfl, by go_num, by omega, by omega, hn1, own_drewN r1 nq, below_drewN r2 nq, by rw [← r3, packF_one zs g fr t pre (by rw [HKD.out]; exact HK.out)]⟩
      · have h2 : ((k : Int) == 0) = false := by simp [hk]
        have hkb : 3 ≤ k ∧ k ≤ 130 ∧ t + k ≤ len ∧ 1 ≤ d ∧ d ≤ 255 := by
          have := HB.out.len
          rcases matchS_or zs t with h0 | h0
          · rw [hkd] at h0; injection h0; omega
          · rw [hkd] at h0
            simp only at h0
            omega
        obtain ⟨k1, k2, k3, k4, k5⟩ := hkb
        obtain ⟨b, o, rfl, hbB, _⟩ := hbw.at_ (by omega)
        have HKD := Lib.hid hkd
        clear hkd
        have e1 : (runsS ((zs.take t).drop fr)).length ≤ 2 * (t - fr) := by
          have := HB.out.len
          rw [runsS_len, List.length_drop, List.length_take]
          omega
        have i1 : (fr : Int) ≤ (t : Int) := by omega
        have i2 : (t : Int) ≤ (cap : Int) := by omega
        have i3 : ¬ (cap = fr) := by omega
        go_wp2_with (first
          | (go_at_call 24; refine (CM.out _ hbw).mono ?_; rintro e w' ⟨rfl, nq, rfl⟩)
          | (go_at_call 25; refine (runs_any w.heap.size A1 _ n1 c1 (t - fr) (cap - fr) pre ((zs.take t).drop fr) _ (own_drewN H.out.1 nq) (((hbw.drewN nq).take (k := t) (by omega)).drop (k := fr) hft) (by omega) ((below_drewN H.out.2.1 nq).size) (by omega)).mono ?_; rintro e w2 ⟨A2, c2, rfl, own2, bel2⟩; have hs2 : w.heap.size ≤ w2.heap.size := by have := bel2.size; have := H.out.2.1.size; simp at *; omega)
          | (at_builtin; refine wpList_app _ rfl (.tmp 45) (.tmp 51) _ rfl w.heap.size 5 i0 (.int .u8 0) 1 1 Try.underlying22 hi0 hz0 hz1 hz2 rfl (by omega) _ (n1 + (runsS ((zs.take t).drop fr)).length) _ rfl (own2.alloc _) (w2.heap.size + 1) (some ⟨w2.heap.size, 0, none⟩) 2 2 (u8s [(k : Int) + 125, (d : Int)]) rfl (Src.new w2 #[.int .u8 ((k : Int) + 125), .int .u8 (d : Int)] 5 2 1 rfl) (u8s_one _) (by simp only [maxLen]; omega) (by omega) (by simp; omega) ?_; intro A3 c3 w3 L3))
        go_roundg (g + 1 - k)
        case measure => omega
        case rel =>
          obtain ⟨r1, r2, r3⟩ := H.out
          exact ⟨A3, _, c3, t + k, t + k, _, rfl, by go_num, by go_num, by omega, by omega, by omega, pack_own L3, Below.app (((below_drewN r2 nq).trans bel2).alloc hs2 _) L3 (own2.alloc _) (Nat.le_refl _) (by simp; omega), by
            have e2 := packF_more zs g fr t pre (by rw [HKD.out]; exact hk)
            rw [HKD.out] at e2
            rw [← r3, e2]⟩
#print axioms pack_any
end Go.Proofs.Ytfhibpgmmffgjaa
