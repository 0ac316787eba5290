/- mantleref11.Unpack computes unpackS: the walk. -/
import Derived.Test.YtfhibpgmmffgjaaFacts
import Derived.Test.YtfhibpgmmffgjaaUnpackL
import Derived.Test.YtfhibpgmmffgjaaUnpack
import Derived.Test.YtfhibpgmmffgjaaKit2
import Derived.WalkKit
import Derived.WalkSpells
import Derived.Deep.LoopGhost
import Derived.Deep.QuietTactic
import Derived.BigQuiet
namespace Go.Proofs.Ytfhibpgmmffgjaa
open Go.RowKit

theorem drop_one {zs : List Int} {i : Nat} (h : i < zs.length) : zs.drop i = zs.getD i 0 :: zs.drop (i + 1) := by
  rw [List.drop_eq_getElem_cons h]
  simp [List.getD, h]

theorem runpack_short (p : Option Addr) (len cap : Nat) (w : World) (h : len < 4) :
    Calls Try.prog 15 #[.slice p len cap] w fun e w' => e = .returned (.tuple #[.slice none 0 0, .int .i64 110]) ∧ w' = w := by
  have h' : (len : Int) < 4 := by omega
  go_enter Try.func15, Try.ntmps15
  go_wp2
  go_ret2
  exact ⟨rfl, rfl⟩

set_option maxHeartbeats 2000000 in
set_option maxRecDepth 100000 in
theorem runpack_long (b o len cap : Nat) (zs : List Int) (w : World) (hb : Byt w w.heap.size (some ⟨b, o, none⟩) len zs) (hlc : len ≤ cap) (hcap : cap ≤ 9223372036854775807) (h4 : 4 ≤ len) :
    Calls Try.prog 15 #[.slice (some ⟨b, o, none⟩) len cap] w (UnLeft w zs) := by
  have h' : ¬ (len : Int) < 4 := by omega
  obtain ⟨b', o', e, hbB, hc⟩ := hb.at_ (by omega)
  cases e
  obtain ⟨x0, hx0⟩ : ∃ x, zs.getD 0 0 = x := ⟨_, rfl⟩
  obtain ⟨x1, hx1⟩ : ∃ x, zs.getD 1 0 = x := ⟨_, rfl⟩
  obtain ⟨x2, hx2⟩ : ∃ x, zs.getD 2 0 = x := ⟨_, rfl⟩
  obtain ⟨x3, hx3⟩ : ∃ x, zs.getD 3 0 = x := ⟨_, rfl⟩
  have b0 := hb.bs.get 0
  have b1 := hb.bs.get 1
  have b2 := hb.bs.get 2
  have b3 := hb.bs.get 3
  rw [hx0] at b0; rw [hx1] at b1; rw [hx2] at b2; rw [hx3] at b3
  have c0 : w.cell? ⟨b, o, none⟩ = some (.int .u8 x0) := by rw [← hx0]; exact hc 0 (by omega)
  have c1 : w.cell? ⟨b, o + 1, none⟩ = some (.int .u8 x1) := by rw [← hx1]; exact hc 1 (by omega)
  have c2 : w.cell? ⟨b, o + 2, none⟩ = some (.int .u8 x2) := by rw [← hx2]; exact hc 2 (by omega)
  have c3 : w.cell? ⟨b, o + 3, none⟩ = some (.int .u8 x3) := by rw [← hx3]; exact hc 3 (by omega)
  have HX : Box (hdr zs = x0.toNat * 16777216 + x1.toNat * 65536 + x2.toNat * 256 + x3.toNat) := ⟨by unfold hdr; rw [hx0, hx1, hx2, hx3]⟩
  have HC := box hc
  have HB := box hb
  clear hx0 hx1 hx2 hx3 hc hb
  obtain ⟨p0, q0⟩ := b0
  obtain ⟨p1, q1⟩ := b1
  obtain ⟨p2, q2⟩ := b2
  obtain ⟨p3, q3⟩ := b3
  have i0 : (0 : Int) < (len : Int) := by omega
  have i1 : (1 : Int) < (len : Int) := by omega
  have i2 : (2 : Int) < (len : Int) := by omega
  have i3 : (3 : Int) < (len : Int) := by omega
  obtain ⟨n, hn⟩ : ∃ n, hdr zs = n := ⟨_, rfl⟩
  have hor : x0 * 16777216 + x1 * 65536 + x2 * 256 + x3 = (n : Int) := by rw [← hn, HX.out]; omega
  have HN := box hn
  clear hn
  have hl4 : ¬ zs.length < 4 := by have := HB.out.len; omega
  by_cases hbig : 65536 < n
  · have hbig' : (65536 : Int) < (n : Int) := by omega
    go_enter Try.func15, Try.ntmps15
    go_wp2
    go_quiet (fail)
    go_wp2
    go_ret2
    have e := unpackS_long hl4 (by rw [HN.out]; exact hbig)
    refine ⟨below_drewN (Below.refl _ _) _, .inl ?_⟩
    rw [e]
    exact ⟨by decide, rfl⟩
  · have hbig' : ¬ (65536 : Int) < (n : Int) := by omega
    obtain ⟨ti, hi0, hz0, hz1, hz2⟩ := info_parts u8_info
    obtain ⟨R, hR⟩ : ∃ R, unpackF n (len - 4 + 1) (zs.drop 4) [] = R := ⟨_, rfl⟩
    have hfin : ∀ (e : Ending) (w' : World), Below w.heap.size w w' → ((R = none → e = .returned (.tuple #[.slice none 0 0, .int .i64 110])) ∧
        (∀ out, R = some out → ∃ A c, e = .returned (.tuple #[.slice A out.length c, .int .i64 0]) ∧ w'.ownsRow w.heap.size 5 1 (.slice A out.length c) out.length (u8s out))) → UnLeft w zs e w' := by
      intro e w' hbel hh
      have hRe : unpackF (hdr zs) zs.length (zs.drop 4) [] = R := by
        rw [HN.out, ← hR]
        have := HB.out.len
        exact unpackF_enough _ _ _ _ _ (by simp; omega) (by simp; omega)
      cases R with
      | none =>
        have e1 := unpackS_none hl4 (by rw [HN.out]; exact hbig) hRe
        refine ⟨hbel, .inl ?_⟩
        rw [e1]
        exact ⟨by decide, hh.1 rfl⟩
      | some out =>
        have e1 := unpackS_some hl4 (by rw [HN.out]; exact hbig) hRe
        refine ⟨hbel, .inr ?_⟩
        rw [e1]
        exact ⟨rfl, hh.2 out rfl⟩
    have HFIN := box hfin
    have HR := box hR
    clear hfin hR
    go_enter Try.func15, Try.ntmps15
    go_wp2
    go_quiet (fail)
    go_wp2_with fail
    clear hor c0 c1 c2 c3 i0 i1 i2 i3 h' p0 p1 p2 p3 q0 q1 q2 q3 HX
    go_loopg [5, 6] (len - 4) (fun g s5 s6 wr => ∃ (A1 : Option Addr) (n1 k1 i : Nat) (told : List Int), s5 = .slice A1 n1 k1 ∧ s6 = .int .i64 i ∧ i + g = len ∧ n1 ≤ n ∧
      Box (told.length = n1 ∧ wr.ownsRow w.heap.size 5 1 (.slice A1 n1 k1) n1 (u8s told) ∧ Bs told ∧ Below w.heap.size w wr ∧ unpackF n (g + 1) (zs.drop i) told = R))
    case atStart => exact ⟨none, 0, 0, 4, [], rfl, rfl, by omega, Nat.zero_le _, ⟨rfl, World.ownsRow_nil _ _ _ _, Bs.nil, below_drewN (Below.refl _ _) _, HR.out⟩⟩
    case round =>
      obtain ⟨A1, n1, k1, i, told, rfl, rfl, hig, hn1, H⟩ := hrel
      by_cases hg : gk = 0
      · subst hg
        obtain ⟨s1, s2, s3, s4, s5⟩ := H.out
        have hil : ¬ (i : Int) < (len : Int) := by omega
        rw [List.drop_eq_nil_of_le (by have := HB.out.len; omega), u_end, s1] at s5
        have S := box s5
        have S2 := box s2
        have S1 := box s1
        clear s5 s2 s1 H
        by_cases he : n1 = n
        · have t1 : ((n1 : Int) != (n : Int)) = false := by simp [he]
          have HE := box he
          clear he
          go_wp2
          go_ret2
          refine HFIN.out _ _ s4 ⟨fun hn => ?_, fun out ho => ?_⟩
          · have := S.out; rw [if_pos HE.out, hn] at this; cases this
          · have := S.out; rw [if_pos HE.out, ho] at this
            obtain rfl : told = out := by injection this
            have e1 := S1.out
            have e2 := S2.out
            subst e1
            exact ⟨A1, k1, rfl, e2⟩
        · have t1 : ((n1 : Int) != (n : Int)) = true := by simp; omega
          have HE := box he
          clear he
          go_wp2
          go_ret2
          refine HFIN.out _ _ s4 ⟨fun _ => rfl, fun out ho => ?_⟩
          have := S.out; rw [if_neg HE.out, ho] at this; cases this
      · obtain ⟨g, rfl⟩ : ∃ g, gk = g + 1 := ⟨gk - 1, by omega⟩
        have hil : (i : Int) < (len : Int) := by omega
        obtain ⟨s1, s2, s3, s4, s5⟩ := H.out
        rw [drop_one (by have := HB.out.len; omega)] at s5
        obtain ⟨x, hx⟩ : ∃ x, zs.getD i 0 = x := ⟨_, rfl⟩
        have hxb := HB.out.bs.get i
        rw [hx] at s5 hxb
        obtain ⟨k, rfl⟩ := Int.eq_ofNat_of_zero_le hxb.1
        have hk2 : k < 256 := by omega
        have cx : wr.cell? ⟨b, o + i, none⟩ = some (.int .u8 (k : Int)) := by rw [s4.cell hbB, ← hx]; exact HC.out i (by omega)
        have hrl : (zs.drop (i + 1)).length = g := by rw [List.length_drop]; have := HB.out.len; omega
        obtain ⟨r, hr⟩ : ∃ r, zs.drop (i + 1) = r := ⟨_, rfl⟩
        rw [hr] at s5 hrl
        have S1 := box s1
        have S2 := box s2
        have S3 := box s3
        have S4 := box s4
        have S5 := box s5
        have HRL := box hrl
        have HRR := box hr
        clear H s1 s2 s3 s4 s5 hrl hxb hx hg hr
        by_cases hk : k < 128
        · have hk' : (k : Int) < 128 := by omega
          obtain ⟨f1, f2⟩ := u_run hk S5.out HRL.out
          rw [S1.out] at f1 f2
          have F1 := box f1
          have F2 := box f2
          clear f1 f2 S5
          by_cases hge : g < k + 1
          · have t1 : (len : Int) - ((i : Int) + 1) < (k : Int) + 1 := by omega
            go_wp2
            go_ret2
            exact HFIN.out _ _ S4.out ⟨fun _ => rfl, fun out ho => by rw [F1.out (.inl hge)] at ho; cases ho⟩
          · have t1 : ¬ (len : Int) - ((i : Int) + 1) < (k : Int) + 1 := by omega
            by_cases hgt : n - n1 < k + 1
            · have t2 : (n : Int) - (n1 : Int) < (k : Int) + 1 := by omega
              go_wp2
              go_ret2
              exact HFIN.out _ _ S4.out ⟨fun _ => rfl, fun out ho => by rw [F1.out (.inr hgt)] at ho; cases ho⟩
            · have t2 : ¬ (n : Int) - (n1 : Int) < (k : Int) + 1 := by omega
              have v1 : (i : Int) + 1 ≤ (i : Int) + 1 + (k : Int) + 1 := by omega
              have v2 : (i : Int) + 1 + (k : Int) + 1 ≤ (cap : Int) := by omega
              have v3 : ((i : Int) + 1 + (k : Int) + 1).toNat = i + k + 2 := by omega
              have v4 : ¬ cap = i + 1 := by omega
              have v5 : i + k + 2 - (i + 1) = k + 1 := by omega
              have hsrc : Byt wr w.heap.size (some ⟨b, o + (i + 1), none⟩) (k + 1) (r.take (k + 1)) := by
                have := ((HB.out.below S4.out).drop (k := i + 1) (by omega)).take (k := k + 1) (by omega)
                rwa [HRR.out] at this
              have HSRC := box hsrc
              clear hsrc
              go_wp2_with (at_builtin; refine wpList_app _ (by rfl) (.tmp 66) (.tmp 73) _ (by rfl) w.heap.size 5 ti (.int .u8 0) 1 1 Try.underlying22 hi0 hz0 hz1 hz2 rfl (by omega) (.slice A1 n1 k1) n1 (u8s told) (by rfl) S2.out w.heap.size (some ⟨b, o + (i + 1), none⟩) (k + 1) _ (u8s (r.take (k + 1))) (by rfl) HSRC.out.src (u8s_one _) (by simp only [maxLen]; omega) (by omega) S4.out.size ?_; intro A2 k2 w2 L2; have hb2 : Below w.heap.size w w2 := Below.app S4.out L2 S2.out (Nat.le_refl _) S4.out.size; have HL2 := box L2; clear L2)
              go_roundg (g - (k + 1))
              case measure => omega
              case rel =>
                have hf := F2.out (by omega) (by omega)
                rw [← HRR.out, List.drop_drop] at hf
                refine ⟨A2, n1 + (k + 1), k2, i + k + 2, told ++ r.take (k + 1), rfl, by go_num, by omega, by omega, ⟨?_, ?_, S3.out.app HSRC.out.bs, hb2, ?_⟩⟩
                · rw [List.length_append, S1.out, HSRC.out.len]
                · rw [u8s_append]; exact HL2.out.1
                · rw [show i + k + 2 = i + 1 + (k + 1) by omega]
                  rw [← HRR.out]
                  exact hf
        · obtain ⟨m, rfl⟩ : ∃ m, k = m + 125 := ⟨k - 125, by omega⟩
          have hm3 : (3 : Int) ≤ (m : Int) := by omega
          have hm4 : (m : Int) ≤ 130 := by omega
          obtain ⟨f1, f2⟩ := u_match (by omega) S5.out HRL.out
          rw [S1.out] at f2
          clear S5 hk hk2
          by_cases hg1 : g < 1
          · have t1 : ((i : Int) + 1 == (len : Int)) = true := by simp; omega
            have e1 := f1 hg1
            clear f1 f2
            have E1 := box e1
            clear e1
            go_wp2
            go_ret2
            exact HFIN.out _ _ S4.out ⟨fun _ => rfl, fun out ho => by rw [E1.out] at ho; cases ho⟩
          · have t1 : ((i : Int) + 1 == (len : Int)) = false := by simp; omega
            have hil2 : (i : Int) + 1 < (len : Int) := by omega
            obtain ⟨y, hy⟩ : ∃ y, r.getD 0 0 = y := ⟨_, rfl⟩
            have hy2 : zs.getD (i + 1) 0 = y := by
              rw [← hy, ← HRR.out]; simp [List.getD]
            have hyb := HB.out.bs.get (i + 1)
            rw [hy2] at hyb
            obtain ⟨d, rfl⟩ := Int.eq_ofNat_of_zero_le hyb.1
            have hd2 : d < 256 := by omega
            have cy : wr.cell? ⟨b, o + (i + 1), none⟩ = some (.int .u8 (d : Int)) := by rw [S4.out.cell hbB, ← hy2]; exact HC.out (i + 1) (by omega)
            obtain ⟨f3, f4⟩ := f2 d hy
            have F3 := box f3
            have F4 := box f4
            clear f1 f2 f3 f4 hyb hy hy2
            by_cases hd0 : d = 0
            · subst hd0
              go_wp2
              go_ret2
              exact HFIN.out _ _ S4.out ⟨fun _ => rfl, fun out ho => by rw [F3.out (by simp)] at ho; cases ho⟩
            · have t2 : ((d : Int) == 0) = false := by simp [hd0]
              by_cases hdt : n1 < d
              · have t3 : (n1 : Int) < (d : Int) := by omega
                go_wp2
                go_ret2
                exact HFIN.out _ _ S4.out ⟨fun _ => rfl, fun out ho => by rw [F3.out (.inr (.inl hdt))] at ho; cases ho⟩
              · have t3 : ¬ (n1 : Int) < (d : Int) := by omega
                by_cases hmn : n - n1 < m
                · have t4 : (n : Int) - (n1 : Int) < (m : Int) := by omega
                  go_wp2
                  go_ret2
                  exact HFIN.out _ _ S4.out ⟨fun _ => rfl, fun out ho => by rw [F3.out (.inr (.inr (by omega)))] at ho; cases ho⟩
                · have t4 : ¬ (n : Int) - (n1 : Int) < (m : Int) := by omega
                  go_wp2
                  go_loopg [5, 9] m (fun g2 s5 s9 wx => ∃ (A2 : Option Addr) (n2 k2 j : Nat) (t2 : List Int), s5 = .slice A2 n2 k2 ∧ s9 = .int .i64 j ∧ j + g2 = m ∧ n2 = n1 + j ∧
                    Box (t2.length = n2 ∧ copyF d g2 t2 = copyF d m told ∧ wx.ownsRow w.heap.size 5 1 (.slice A2 n2 k2) n2 (u8s t2) ∧ Bs t2 ∧ Below w.heap.size w wx))
                  case atStart => exact ⟨A1, n1, k1, 0, told, rfl, rfl, by omega, by omega, ⟨S1.out, rfl, S2.out, S3.out, S4.out⟩⟩
                  case round =>
                    obtain ⟨A2, n2, k2, j, t2', rfl, rfl, hjg, hn2, HT⟩ := hrel
                    obtain ⟨z1, z2, z3, z4, z5⟩ := HT.out
                    have hn2' : n2 ≤ n1 + j ∧ n1 + j ≤ n2 := by omega
                    obtain ⟨hn3, hn4⟩ := hn2'
                    clear hn2
                    by_cases hz : gk = 0
                    · subst hz
                      have q1 : ¬ (j : Int) < (m : Int) := by omega
                      have Z1 := box z1
                      have Z2 := box z2
                      have Z3 := box z3
                      clear z1 z2 z3 HT
                      go_wp2
                      go_roundg (g - 1)
                      case measure => omega
                      case rel =>
                        have hfo := F4.out (by omega) (by omega) (by omega) (by omega)
                        rw [show m + 125 - 125 = m by omega, ← Z2.out, ← HRR.out, List.drop_drop] at hfo
                        exact ⟨A2, n2, k2, i + 2, t2', rfl, by go_num, by omega, by omega, ⟨Z1.out, Z3.out, z4, z5, hfo⟩⟩
                    · obtain ⟨g2, rfl⟩ : ∃ g2, gk = g2 + 1 := ⟨gk - 1, by omega⟩
                      have q1 : (j : Int) < (m : Int) := by omega
                      obtain ⟨v, hv⟩ : ∃ v, t2'.getD (n2 - d) 0 = v := ⟨_, rfl⟩
                      obtain ⟨gb, kk, hA2, hgb, hlt⟩ := z3.form (by omega)
                      injection hA2 with hA2 _ hkk
                      subst hA2
                      have cl : wr.cell? ⟨gb, n2 - d, none⟩ = some (.int .u8 v) := by
                        rw [z3.cellAt (n2 - d) (by omega), u8s_get _ _ (by omega), hv]
                      have q2 : (0 : Int) ≤ (n2 : Int) - (d : Int) := by omega
                      have q3 : (n2 : Int) - (d : Int) < (n2 : Int) := by omega
                      have hvb := z4.get (n2 - d)
                      rw [hv] at hvb
                      have HVB := box hvb
                      have HV := box hv
                      have Z1 := box z1
                      have Z2 := box z2
                      have Z3 := box z3
                      have Z5 := box z5
                      clear z1 z2 z3 z5 hv hvb HT hz hkk
                      go_wp2_with (at_builtin; refine wpList_app _ (by rfl) (.tmp 113) (.tmp 121) _ (by rfl) w.heap.size 5 ti (.int .u8 0) 1 1 Try.underlying22 hi0 hz0 hz1 hz2 rfl (by omega) (.slice (some ⟨gb, 0, none⟩) n2 k2) n2 (u8s t2') (by rfl) (by exact Z3.out.alloc _) (wr.heap.size + 1) (some ⟨wr.heap.size, 0, none⟩) 1 1 (u8s [v]) (by rfl) (by exact Src.new wr #[.int .u8 v] 5 1 1 rfl) (u8s_one _) (by simp only [maxLen]; omega) (by omega) (by have := Z5.out.size; simp; omega) ?_; intro A3 k3 w3 L3; have hb3 : Below w.heap.size w w3 := Below.app (Z5.out.alloc Z5.out.size _) L3 (by exact Z3.out.alloc _) (Nat.le_refl _) (by have := Z5.out.size; simp; omega); have HL3 := box L3; clear L3)
                      go_roundg g2
                      case measure => omega
                      case rel =>
                        refine ⟨A3, n2 + 1, k3, j + 1, t2' ++ [v], rfl, by go_num, by omega, by omega, ⟨?_, ?_, ?_, z4.app (Bs.cons HVB.out Bs.nil), hb3⟩⟩
                        · rw [List.length_append, Z1.out]; rfl
                        · rw [← Z2.out, copyF, Z1.out, HV.out]
                        · rw [u8s_append]; exact HL3.out.1
#print axioms runpack_long
theorem runpack_is (p : Option Addr) (len cap : Nat) (zs : List Int) (w : World) (hb : Byt w w.heap.size p len zs) (hlc : len ≤ cap) (hcap : cap ≤ 9223372036854775807) :
    Calls Try.prog 15 #[.slice p len cap] w (UnLeft w zs) := by
  have hl := hb.len
  by_cases h : len < 4
  · refine (runpack_short p len cap w h).mono ?_
    rintro e w' ⟨rfl, rfl⟩
    have e1 := unpackS_short (zs := zs) (by omega)
    refine ⟨Below.refl _ _, .inl ?_⟩
    rw [e1]
    exact ⟨by decide, rfl⟩
  · obtain ⟨b, o, rfl, _, _⟩ := hb.at_ (by omega)
    exact runpack_long b o len cap zs w hb hlc hcap (by omega)
end Go.Proofs.Ytfhibpgmmffgjaa
