/- pack.Unpack computes unpackS: the walk. -/
import Derived.Test.YtfhibpgmmffgjaaFacts
import Derived.Test.YtfhibpgmmffgjaaUnpackL
import Derived.WalkKit
import Derived.WalkSpells
import Derived.Deep.LoopGhost
import Derived.Deep.RegionHeld3
import Derived.Deep.QuietTactic
import Derived.BigQuiet
import Derived.Laws.CopyOwn
namespace Go.Proofs.Ytfhibpgmmffgjaa
open Go.RowKit

def UnLeft (w : World) (zs : List Int) (e : Ending) (w' : World) : Prop :=
  Below w.heap.size w w' ∧ ((unpackS zs).1 ≠ 0 ∧ e = .returned (.tuple #[.slice none 0 0, .int .i64 (unpackS zs).1]) ∨
    (unpackS zs).1 = 0 ∧ ∃ A c, e = .returned (.tuple #[.slice A (unpackS zs).2.length c, .int .i64 0]) ∧
      w'.ownsRow w.heap.size 5 1 (.slice A (unpackS zs).2.length c) (unpackS zs).2.length (u8s (unpackS zs).2))

theorem unpack_short (p : Option Addr) (len cap : Nat) (w : World) (h : len < 4) :
    Calls Try.prog 14 #[.slice p len cap] w fun e w' => e = .returned (.tuple #[.slice none 0 0, .int .i64 110]) ∧ w' = w := by
  have h' : (len : Int) < 4 := by omega
  go_enter Try.func14, Try.ntmps14
  go_wp2
  go_ret2
  exact ⟨rfl, rfl⟩

set_option maxHeartbeats 2000000 in
set_option maxRecDepth 100000 in
theorem unpack_long (b o len cap : Nat) (zs : List Int) (w : World) (hb : Byt w w.heap.size (some ⟨b, o, none⟩) len zs) (hlc : len ≤ cap) (hcap : cap ≤ 9223372036854775807) (h4 : 4 ≤ len) :
    Calls Try.prog 14 #[.slice (some ⟨b, o, none⟩) len cap] w (UnLeft w zs) := by
  have h' : ¬ (len : Int) < 4 := by omega
  obtain ⟨b', o', e, hbB, hc⟩ := hb.at_ (by omega)
  cases e
  obtain ⟨x0, hx0⟩ : ∃ x, zs.getD 0 0 = x := ⟨_, rfl⟩
  obtain ⟨x1, hx1⟩ : ∃ x, zs.getD 1 0 = x := ⟨_, rfl⟩
  obtain ⟨x2, hx2⟩ : ∃ x, zs.getD 2 0 = x := ⟨_, rfl⟩
  obtain ⟨x3, hx3⟩ : ∃ x, zs.getD 3 0 = x := ⟨_, rfl⟩
  have b0 := hb.bs.get 0
  have b1 := hb.bs.get 1
  have b2 := hb.bs.get 2
  have b3 := hb.bs.get 3
  rw [hx0] at b0; rw [hx1] at b1; rw [hx2] at b2; rw [hx3] at b3
  have c0 : w.cell? ⟨b, o, none⟩ = some (.int .u8 x0) := by rw [← hx0]; exact hc 0 (by omega)
  have c1 : w.cell? ⟨b, o + 1, none⟩ = some (.int .u8 x1) := by rw [← hx1]; exact hc 1 (by omega)
  have c2 : w.cell? ⟨b, o + 2, none⟩ = some (.int .u8 x2) := by rw [← hx2]; exact hc 2 (by omega)
  have c3 : w.cell? ⟨b, o + 3, none⟩ = some (.int .u8 x3) := by rw [← hx3]; exact hc 3 (by omega)
  have HX : Box (hdr zs = x0.toNat * 16777216 + x1.toNat * 65536 + x2.toNat * 256 + x3.toNat) := ⟨by unfold hdr; rw [hx0, hx1, hx2, hx3]⟩
  have HC := box hc
  have HB := box hb
  clear hx0 hx1 hx2 hx3 hc hb
  obtain ⟨p0, q0⟩ := b0
  obtain ⟨p1, q1⟩ := b1
  obtain ⟨p2, q2⟩ := b2
  obtain ⟨p3, q3⟩ := b3
  have i0 : (0 : Int) < (len : Int) := by omega
  have i1 : (1 : Int) < (len : Int) := by omega
  have i2 : (2 : Int) < (len : Int) := by omega
  have i3 : (3 : Int) < (len : Int) := by omega
  obtain ⟨n, hn⟩ : ∃ n, hdr zs = n := ⟨_, rfl⟩
  have hor := or_four x0 x1 x2 x3 p0 q0 p1 q1 p2 q2 p3 q3
  rw [← HX.out, hn] at hor
  have HN := box hn
  clear hn
  have hl4 : ¬ zs.length < 4 := by have := HB.out.len; omega
  by_cases hbig : 65536 < n
  · have hbig' : (65536 : Int) < (n : Int) := by omega
    go_enter Try.func14, Try.ntmps14
    go_wp2
    go_quiet (fail)
    go_wp2
    go_ret2
    have e := unpackS_long hl4 (by rw [HN.out]; exact hbig)
    refine ⟨below_drewN (Below.refl _ _) _, .inl ?_⟩
    rw [e]
    exact ⟨by decide, rfl⟩
  · have hbig' : ¬ (65536 : Int) < (n : Int) := by omega
    obtain ⟨j0, hj0, hjz, hj1, hj2⟩ := info_parts u8_info
    have hmk := fun W => run_make_bytes (P := Try.prog) Try.underlying22 hj0 hjz hj1 hj2 .i64 .i64 n (by omega) W
    obtain ⟨R, hR⟩ : ∃ R, unpackF n (len - 4 + 1) (zs.drop 4) [] = R := ⟨_, rfl⟩
    have hfin : ∀ (e : Ending) (w' : World), Below w.heap.size w w' → ((R = none → e = .returned (.tuple #[.slice none 0 0, .int .i64 110])) ∧
        (∀ out, R = some out → e = .returned (.tuple #[.slice (some ⟨w.heap.size, 0, none⟩) n n, .int .i64 0]) ∧ w'.heap[w.heap.size]? = some (.cells (u8s (rowN n out)).toArray 5 (0, 0)) ∧ out.length = n)) → UnLeft w zs e w' := by
      intro e w' hbel hh
      have hRe : unpackF (hdr zs) zs.length (zs.drop 4) [] = R := by
        rw [HN.out, ← hR]
        have := HB.out.len
        exact unpackF_enough _ _ _ _ _ (by simp; omega) (by simp; omega)
      cases R with
      | none =>
        have e1 := unpackS_none hl4 (by rw [HN.out]; exact hbig) hRe
        refine ⟨hbel, .inl ?_⟩
        rw [e1]
        exact ⟨by decide, hh.1 rfl⟩
      | some out =>
        have e1 := unpackS_some hl4 (by rw [HN.out]; exact hbig) hRe
        obtain ⟨r1, r2, r3⟩ := hh.2 out rfl
        refine ⟨hbel, .inr ?_⟩
        rw [e1]
        subst r3
        exact ⟨rfl, _, _, r1, u_own r2 (by simp only [maxLen]; omega) rfl⟩
    have HFIN := box hfin
    have HR := box hR
    clear hfin hR
    go_enter Try.func14, Try.ntmps14
    go_wp2
    go_quiet (fail)
    go_wp2_with fail
    clear hmk hor c0 c1 c2 c3 i0 i1 i2 i3 h' p0 p1 p2 p3 q0 q1 q2 q3 hj0 hjz hj1 hj2
    all_goals
      go_loopg [0, 6] (len - 4) (fun g s0 s6 wr => ∃ (p1 : Option Addr) (cap1 : Nat) (told rest : List Int), s0 = .slice p1 g cap1 ∧ s6 = .int .i64 (told.length : Nat) ∧ g ≤ cap1 ∧ cap1 ≤ 9223372036854775807 ∧ Box (UState w.heap.size 5 w wr n told rest p1 g R))
      case atStart =>
        have hb0 := HB.out
        refine ⟨_, _, [], zs.drop 4, rfl, rfl, by omega, by omega, ⟨?_, ?_, (below_drewN (Below.refl _ _) _).alloc (by simp) _, Nat.zero_le _, HR.out⟩⟩
        · have hc := (hb0.drewN nq).cut (k := 4) (cap := cap) h4 hlc
          have hbel : Below w.heap.size (w.drewN nq) ((w.drewN nq).alloc (Obj.cells (u8s (List.replicate n 0)).toArray 5)) := (Below.refl _ _).alloc (by simp) _
          first
            | (have hcf : cap = 4 := by assumption
               rw [if_pos hcf] at hc
               exact hc.below hbel)
            | (have hcf : ¬ cap = 4 := by assumption
               rw [if_neg hcf] at hc
               exact hc.below hbel)
        · have := heap_alloc_new (w.drewN nq) (Obj.cells (u8s (List.replicate n 0)).toArray 5)
          simpa [rowN] using this
      case round =>
        obtain ⟨p1, cap1, told, rest, rfl, rfl, hgc, hcc, H⟩ := hrel
        by_cases hg : gk = 0
        · subst hg
          obtain ⟨s1, s2, s3, s4, s5⟩ := H.out
          obtain rfl := s1.empty
          rw [u_end] at s5
          have S := box s5
          have S2 := box s2
          clear s5 s2
          by_cases he : told.length = n
          · have t1 : ((told.length : Int) != (n : Int)) = false := by simp [he]
            have HE := box he
            clear he
            go_wp2
            go_ret2
            refine HFIN.out _ _ s3 ⟨fun hn => ?_, fun out ho => ?_⟩
            · have := S.out; rw [if_pos HE.out, hn] at this; cases this
            · have := S.out; rw [if_pos HE.out, ho] at this
              obtain rfl : told = out := by injection this
              exact ⟨rfl, S2.out, HE.out⟩
          · have t1 : ((told.length : Int) != (n : Int)) = true := by simp; omega
            have HE := box he
            clear he
            go_wp2
            go_ret2
            refine HFIN.out _ _ s3 ⟨fun _ => rfl, fun out ho => ?_⟩
            have := S.out; rw [if_neg HE.out, ho] at this; cases this
        · obtain ⟨g, rfl⟩ : ∃ g, gk = g + 1 := ⟨gk - 1, by omega⟩
          obtain ⟨s1, s2, s3, s4, s5⟩ := H.out
          obtain ⟨b1, o1, rfl, hbb, hc1⟩ := s1.at_ (by omega)
          obtain ⟨x, r, rfl⟩ : ∃ x r, rest = x :: r := by
            cases rest with
            | nil => have := s1.len; simp at this
            | cons x r => exact ⟨x, r, rfl⟩
          have hrl : r.length = g := by have := s1.len; simpa using this
          have hx := s1.bs x (by simp)
          obtain ⟨k, rfl⟩ := Int.eq_ofNat_of_zero_le hx.1
          have hk2 : k < 256 := by omega
          have cx : wr.cell? ⟨b1, o1, none⟩ = some (.int .u8 (k : Int)) := by have := hc1 0 (by omega); simpa using this
          have hB := lt_of_row s2
          have S1 := box s1
          have S2 := box s2
          have S3 := box s3
          have S5 := box s5
          have HC1 := box hc1
          have HRL := box hrl
          clear H s1 s2 s3 s5 hc1 hrl hx hg
          have j0 : (0 : Int) < (g : Int) + 1 := by omega
          by_cases hk : k < 128
          · have hk' : (k : Int) < 128 := by omega
            obtain ⟨f1, f2⟩ := u_run hk S5.out HRL.out
            have F1 := box f1
            have F2 := box f2
            clear f1 f2 S5
            by_cases hge : g < k + 1
            · have t1 : (g : Int) + 1 ≤ (k : Int) + 1 := by omega
              go_wp2
              go_ret2
              exact HFIN.out _ _ S3.out ⟨fun _ => rfl, fun out ho => by rw [F1.out (.inl hge)] at ho; cases ho⟩
            · have t1 : ¬ (g : Int) + 1 ≤ (k : Int) + 1 := by omega
              by_cases hgt : n - told.length < k + 1
              · have t2 : (n : Int) - (told.length : Int) < (k : Int) + 1 := by omega
                go_wp2
                go_ret2
                exact HFIN.out _ _ S3.out ⟨fun _ => rfl, fun out ho => by rw [F1.out (.inr hgt)] at ho; cases ho⟩
              · have t2 : ¬ (n : Int) - (told.length : Int) < (k : Int) + 1 := by omega
                have w1 : IntKind.i64.wrap ((k : Int) + 1 + 1) = (k : Int) + 1 + 1 := IntWalk.i64_in _ (by omega)
                have w2 : IntKind.i64.wrap ((told.length : Int) + ((k : Int) + 1)) = (told.length : Int) + ((k : Int) + 1) := IntWalk.i64_in _ (by omega)
                have v1 : (0 : Int) ≤ (told.length : Int) := by omega
                have v2 : (told.length : Int) ≤ (n : Int) := by omega
                have v3 : (1 : Int) ≤ (k : Int) + 1 + 1 := by omega
                have v4 : (k : Int) + 1 + 1 ≤ (cap1 : Int) := by omega
                have v5 : ¬ (n = told.length) := by omega
                have v6 : ((k : Int) + 1 + 1).toNat = k + 2 := by omega
                obtain ⟨X, hX⟩ : ∃ X, X = u8s (r.take (k + 1)) := ⟨_, rfl⟩
                have hXl : X.length = k + 1 := by rw [hX, u8s_length, List.length_take, HRL.out]; omega
                have hX1 : ∀ v ∈ X, v.oneCell' = true := by rw [hX]; exact u8s_one _
                have hsrc : ∀ j v, X[j]? = some v → wr.cell? ((⟨b1, o1 + 1, none⟩ : Addr).add j) = some v := by
                  intro j v hv
                  rw [add_at]
                  have hj : j < X.length := (List.getElem?_eq_some_iff.1 hv).1
                  rw [hX, u8s_get _ j (by rw [← u8s_length, ← hX]; exact hj)] at hv
                  rw [← hv, Nat.add_assoc, Nat.add_comm 1 j, HC1.out (j + 1) (by omega)]
                  simp [List.getD, show j < k + 1 by omega]
                have SRC := box hsrc
                have X1 := box hX1
                have HX' := box hX
                clear hsrc hX1 hX
                go_wp2
                go_region_held3 (fun _ => True) (trivial) ((refine step_copy_splice (by rfl) (.tmp 65) (.tmp 71) 22 22 (by rfl) 5 Try.underlying22 u8_size (some ⟨w.heap.size, told.length, none⟩) (some ⟨b1, o1 + 1, none⟩) (n - told.length) (n - told.length) (k + 1) (k + 1) (by rfl) (by rfl) w.heap.size told.length (u8s (rowN n told)) 5 (by exact S2.out) X (by rw [hXl]; show _ = min _ _; omega) (fun _ => ⟨rfl, _, rfl, by exact SRC.out⟩) (by rw [hXl, u8s_length, rowN_len s4]; omega) X1.out w.heap.size w (by first | exact S3.out | exact S3.out.drew | exact below_drewN S3.out _) (Nat.le_refl _) ?_; intro wc HG HBc))
                have hlen : (told ++ r.take (k + 1)).length = told.length + (k + 1) := by rw [List.length_append, List.length_take, HRL.out]; omega
                have hby : Byt wc w.heap.size (some ⟨b1, o1, none⟩) (g + 1) ((k : Int) :: r) := S1.out.keep fun q hq => (HBc.cell hq).trans (S3.out.cell hq).symm
                have hct := hby.cut (k := k + 2) (cap := cap1) (by omega) hgc
                have hrow : wc.heap[w.heap.size]? = some (.cells (u8s (rowN n (told ++ r.take (k + 1)))).toArray 5 (0, 0)) := by
                  have := HG.out
                  rw [HX'.out, rowN_splice (by rw [List.length_take, HRL.out]; omega)] at this
                  exact this
                rw [show g + 1 - (k + 2) = g - (k + 1) by omega] at hct
                have HLEN := box hlen
                have HCT := box hct
                have HROW := box hrow
                clear hlen hct hrow hby
                go_wp2
                all_goals
                  go_roundg (g - (k + 1))
                  case measure => omega
                  case rel =>
                    refine ⟨_, _, told ++ r.take (k + 1), r.drop (k + 1), rfl, by rw [HLEN.out]; go_num, by omega, by omega, ⟨?_, HROW.out, HBc, by rw [HLEN.out]; omega, F2.out (by omega) (by omega)⟩⟩
                    first
                      | (have hcf : cap1 = k + 2 := by assumption
                         have h9 := HCT.out
                         rw [if_pos hcf] at h9
                         exact h9)
                      | (have hcf : ¬ cap1 = k + 2 := by assumption
                         have h9 := HCT.out
                         rw [if_neg hcf] at h9
                         exact h9)
          · obtain ⟨m, rfl⟩ : ∃ m, k = m + 125 := ⟨k - 125, by omega⟩
            have hm3 : (3 : Int) ≤ (m : Int) := by omega
            have hm4 : (m : Int) ≤ 130 := by omega
            obtain ⟨f1, f2⟩ := u_match (by omega) S5.out HRL.out
            clear S5 hk hk2
            by_cases hg1 : g < 1
            · have t1 : (g : Int) + 1 < 2 := by omega
              have e1 := f1 hg1
              clear f1 f2
              have E1 := box e1
              clear e1
              go_wp2
              go_ret2
              exact HFIN.out _ _ S3.out ⟨fun _ => rfl, fun out ho => by rw [E1.out] at ho; cases ho⟩
            · have t1 : ¬ (g : Int) + 1 < 2 := by omega
              obtain ⟨y, hy⟩ : ∃ y, r.getD 0 0 = y := ⟨_, rfl⟩
              have hyb := (S1.out.bs.drop 1).get 0
              rw [List.drop_one, List.tail_cons, hy] at hyb
              obtain ⟨d, rfl⟩ := Int.eq_ofNat_of_zero_le hyb.1
              have hd2 : d < 256 := by omega
              have cy : wr.cell? ⟨b1, o1 + 1, none⟩ = some (.int .u8 (d : Int)) := by
                have h9 := HC1.out 1 (by omega)
                rw [h9, ← hy]
                simp [List.getD]
              obtain ⟨f3, f4⟩ := f2 d hy
              have F3 := box f3
              have F4 := box f4
              clear f1 f2 f3 f4 hyb hy
              have j1 : (1 : Int) < (g : Int) + 1 := by omega
              by_cases hd0 : d = 0
              · subst hd0
                go_wp2
                go_ret2
                exact HFIN.out _ _ S3.out ⟨fun _ => rfl, fun out ho => by rw [F3.out (by simp)] at ho; cases ho⟩
              · have t2 : ((d : Int) == 0) = false := by simp [hd0]
                by_cases hdt : told.length < d
                · have t3 : (told.length : Int) < (d : Int) := by omega
                  go_wp2
                  go_ret2
                  exact HFIN.out _ _ S3.out ⟨fun _ => rfl, fun out ho => by rw [F3.out (.inr (.inl hdt))] at ho; cases ho⟩
                · have t3 : ¬ (told.length : Int) < (d : Int) := by omega
                  by_cases hmn : n - told.length < m
                  · have t4 : (n : Int) - (told.length : Int) < (m : Int) := by omega
                    go_wp2
                    go_ret2
                    exact HFIN.out _ _ S3.out ⟨fun _ => rfl, fun out ho => by rw [F3.out (.inr (.inr (by omega)))] at ho; cases ho⟩
                  · have t4 : ¬ (n : Int) - (told.length : Int) < (m : Int) := by omega
                    go_wp2
                    go_loopg [6, 7] m (fun g2 s6 s7 wx => ∃ t2 : List Int, s6 = .int .i64 (t2.length : Nat) ∧ s7 = .int .i64 g2 ∧
                      Box (t2.length + g2 = told.length + m ∧ copyF d g2 t2 = copyF d m told ∧ wx.heap[w.heap.size]? = some (.cells (u8s (rowN n t2)).toArray 5 (0, 0)) ∧ Below w.heap.size w wx ∧ told.length ≤ t2.length))
                    case atStart => exact ⟨told, rfl, rfl, ⟨rfl, rfl, S2.out, S3.out, Nat.le_refl _⟩⟩
                    case round =>
                      obtain ⟨t2, rfl, rfl, HT⟩ := hrel
                      obtain ⟨q1, q2, q3, q4, q5⟩ := HT.out
                      by_cases hz : gk = 0
                      · subst hz
                        have z1 : ¬ (0 : Int) < ((0 : Nat) : Int) := by omega
                        have hby : Byt wr w.heap.size (some ⟨b1, o1, none⟩) (g + 1) (((m + 125 : Nat) : Int) :: r) := S1.out.keep fun q hq => (q4.cell hq).trans (S3.out.cell hq).symm
                        have hct := hby.cut (k := 2) (cap := cap1) (by omega) hgc
                        rw [show g + 1 - 2 = g - 1 by omega] at hct
                        have HCT := box hct
                        have Q3 := box q3
                        have Q2 := box q2
                        have Q1 := box q1
                        clear hct hby q1 q2 q3
                        go_wp2
                        all_goals
                          go_roundg (g - 1)
                          case measure => omega
                          case rel =>
                            have hfo := F4.out (by omega) (by omega) (by omega) (by omega)
                            rw [show m + 125 - 125 = m by omega, ← Q2.out] at hfo
                            refine ⟨_, _, t2, r.drop 1, rfl, rfl, by omega, by omega, ⟨?_, Q3.out, q4, by have := Q1.out; omega, hfo⟩⟩
                            first
                              | (have hcf : cap1 = 2 := by assumption
                                 have h9 := HCT.out
                                 rw [if_pos hcf] at h9
                                 exact h9)
                              | (have hcf : ¬ cap1 = 2 := by assumption
                                 have h9 := HCT.out
                                 rw [if_neg hcf] at h9
                                 exact h9)
                      · obtain ⟨g2, rfl⟩ : ∃ g2, gk = g2 + 1 := ⟨gk - 1, by omega⟩
                        obtain ⟨v, hv⟩ : ∃ v, t2.getD (t2.length - d) 0 = v := ⟨_, rfl⟩
                        have l1 : t2.length < n := by omega
                        have l2 : d ≤ t2.length := by omega
                        have cl : wr.cell? ⟨w.heap.size, t2.length - d, none⟩ = some (.int .u8 v) := by
                          rw [u_cell q3 (by omega) _ (by omega), rowN_get (by omega), hv]
                        have cs : wr.cell? ⟨w.heap.size, t2.length, none⟩ = some (.int .u8 ((rowN n t2).getD t2.length 0)) := u_cell q3 (by omega) _ (by omega)
                        have cf : wr.frozen? ⟨w.heap.size, t2.length, none⟩ = false := u_free q3 _
                        obtain ⟨v0, hv0⟩ : ∃ v0, (rowN n t2).getD t2.length 0 = v0 := ⟨_, rfl⟩
                        rw [hv0] at cs
                        have st := u_store (v := v) q3 l1
                        have ST := box st
                        have HV := box hv
                        have Q2 := box q2
                        have Q1 := box q1
                        have l3 : (0 : Int) < (g2 : Int) + 1 := by omega
                        have l7 : (g2 : Int) ≤ 130 := by omega
                        have l4 : (t2.length : Int) < (n : Int) := by omega
                        have l5 : (0 : Int) ≤ (t2.length : Int) - (d : Int) := by omega
                        have l6 : (t2.length : Int) - (d : Int) < (n : Int) := by omega
                        clear q1 q2 q3 st hv hv0 hz HT
                        go_wp2
                        go_roundg g2
                        case measure => omega
                        case rel =>
                          have e2 : (t2 ++ [v]).length = t2.length + 1 := by simp
                          refine ⟨t2 ++ [v], by rw [e2]; go_num, by go_num, ⟨by rw [e2]; have := Q1.out; omega, ?_, ST.out, q4.setCell (by simp) _, by rw [e2]; omega⟩⟩
                          rw [← Q2.out, copyF, HV.out]
#print axioms unpack_long
end Go.Proofs.Ytfhibpgmmffgjaa
