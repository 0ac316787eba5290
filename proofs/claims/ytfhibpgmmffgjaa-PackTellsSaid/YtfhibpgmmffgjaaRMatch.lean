/- mantleref11.match computes matchS: the walk. -/
import Derived.Test.YtfhibpgmmffgjaaFacts
import Derived.Test.YtfhibpgmmffgjaaMatchL
import Derived.WalkKit
import Derived.WalkSpells
import Derived.Deep.LoopGhost
import Derived.Deep.Draws
import Derived.Deep.QuietTactic
import Derived.BigQuiet
namespace Go.Proofs.Ytfhibpgmmffgjaa
open Go.RowKit

set_option maxHeartbeats 1000000 in
set_option maxRecDepth 100000 in
theorem rmatch_any (p : Option Addr) (len cap at' : Nat) (zs : List Int) (w : World) (hz : zs.length = len) (hlc : len ≤ cap) (hcap : cap ≤ 9223372036854775807) (hat : at' ≤ len)
    (hb : Lib.BytesIn w p len zs) :
    Calls Try.prog 26 #[.slice p len cap, .int .i64 at'] w fun e w' =>
      e = .returned (.tuple #[.int .i64 (matchS zs at').1, .int .i64 (matchS zs at').2]) ∧ ∃ n, w' = w.drewN n := by
  obtain ⟨mo, hmo⟩ : ∃ mo, mo = mostOf zs at' := ⟨_, rfl⟩
  have e1 : min 130 ((len : Int) - (at' : Int)) = (mo : Int) := by unfold mostOf at hmo; omega
  have b1 : mo ≤ 130 := by unfold mostOf at hmo; omega
  have b2 : at' + mo ≤ len := by unfold mostOf at hmo; omega
  obtain ⟨lim, hlim⟩ : ∃ lim, lim = min 255 at' := ⟨_, rfl⟩
  have e2 : min 255 (at' : Int) = (lim : Int) := by omega
  have b3 : lim ≤ at' := by omega
  have b4 : lim ≤ 255 := by omega
  have HB := box hb
  have HM := box hmo
  have HL := box hlim
  clear hb hz hmo hlim
  go_enter Try.func26, Try.ntmps26
  go_wp2
  clear e1
  go_loopg [4, 5, 7] lim (fun g s4 s5 s7 wr => ∃ c n d : Nat, c + g = lim ∧ s4 = .int .i64 n ∧ s5 = .int .i64 d ∧ s7 = .int .i64 ((c : Int) + 1) ∧ n ≤ mo ∧ Box ((n, d) = mfold zs at' mo c) ∧ Box (∃ nq, wr = w.drewN nq))
  case atStart => exact ⟨0, 0, 0, by omega, rfl, rfl, rfl, Nat.zero_le _, ⟨rfl⟩, ⟨0, rfl⟩⟩
  case round =>
    obtain ⟨c, n, d, hcg, rfl, rfl, rfl, hn, HF, HW⟩ := hrel
    cases gk with
    | zero =>
      have h1 : ¬ ((c : Int) + 1 ≤ (lim : Int)) := by omega
      go_wp2
      go_ret2
      obtain ⟨r1, r2⟩ := match_end HM.out HL.out HF.out (.inl (by omega))
      exact ⟨ret2_int (congrArg _ r1) (congrArg _ r2), HW.out⟩
    | succ g =>
      have h1 : ((c : Int) + 1 ≤ (lim : Int)) := by omega
      go_wp2
      go_loopg [8] mo (fun g2 s8 wx => ∃ k : Nat, k + g2 = mo ∧ s8 = .int .i64 k ∧ Box (∀ t, t < k → zs.getD (at' - (c + 1) + t) 0 = zs.getD (at' + t) 0) ∧ Box (∃ q, wx = w.drewN q))
      case atStart => exact ⟨0, by omega, rfl, ⟨fun t ht => absurd ht (by omega)⟩, HW⟩
      case round =>
        obtain ⟨k, hkg, rfl, HE, HW3⟩ := hrel
        have hend : ∀ hk : k = mo ∨ k < mo ∧ zs.getD (at' - (c + 1) + k) 0 ≠ zs.getD (at' + k) 0, agree zs (at' - (c + 1)) at' mo = k := by
          intro hk
          rcases hk with rfl | ⟨h1, h2⟩
          · have h2 := agree_split zs k k (at' - (c + 1)) at' (Nat.le_refl _) HE.out
            rw [h2, Nat.sub_self, agree]; rfl
          · exact agree_at h1 HE.out h2
        have HEND := box hend
        clear hend
        by_cases hkm : k = mo
        · have h5 : ¬ ((k : Int) < (mo : Int)) := by omega
          have h5d : decide (k < mo) = false := decide_eq_false (by omega)
          have hag := HEND.out (.inl hkm)
          have HAG := box hag
          clear hag
          by_cases h7 : 3 ≤ k
          · have h7' : (3 : Int) ≤ (k : Int) := by omega
            by_cases h6 : n < k
            · have h6' : (n : Int) < (k : Int) := by omega
              have h8 : ((k : Int) == (mo : Int)) = true := by simp [hkm]
              have hF2 : (k, c + 1) = mfold zs at' mo (c + 1) := by rw [mfold, ← HF.out, mstep, HAG.out, if_pos ⟨h7, h6⟩]
              have HF2 := box hF2
              have HKM := box hkm
              clear hF2 hkm
              go_wp2
              go_quiet (fail)
              go_wp2
              go_ret2
              obtain ⟨r1, r2⟩ := match_end HM.out HL.out HF2.out (.inr ⟨by omega, .inr HKM.out⟩)
              refine ⟨ret2_int (congrArg _ r1) (by rw [← r2]; omega), ?_⟩
              obtain ⟨q, hq⟩ := HW3.out
              exact ⟨q + nq, by rw [hq, World.drewN_drewN]⟩
            · have h6' : ¬ (n : Int) < (k : Int) := by omega
              have hnm : n = mo := by omega
              have h8 : ((n : Int) == (mo : Int)) = true := by simp [hnm]
              have hF2 : (n, d) = mfold zs at' mo (c + 1) := by rw [mfold, ← HF.out, mstep_no (by rw [HAG.out]; exact .inl (by omega))]
              have HF2 := box hF2
              have HKM := box hnm
              clear hF2 hkm hnm
              go_wp2
              go_quiet (fail)
              go_wp2
              go_ret2
              obtain ⟨r1, r2⟩ := match_end HM.out HL.out HF2.out (.inr ⟨by omega, .inr HKM.out⟩)
              refine ⟨ret2_int (congrArg _ r1) (congrArg _ r2), ?_⟩
              obtain ⟨q, hq⟩ := HW3.out
              exact ⟨q + nq, by rw [hq, World.drewN_drewN]⟩
          · have h7' : ¬ (3 : Int) ≤ (k : Int) := by omega
            have hF2 : (n, d) = mfold zs at' mo (c + 1) := by rw [mfold, ← HF.out, mstep_no (by rw [HAG.out]; exact .inr (by omega))]
            have HF2 := box hF2
            clear hF2
            by_cases hnm : n = mo
            · have h8 : ((n : Int) == (mo : Int)) = true := by simp [hnm]
              have HKM := box hnm
              clear hkm hnm
              go_wp2
              go_quiet (fail)
              go_wp2
              go_ret2
              obtain ⟨r1, r2⟩ := match_end HM.out HL.out HF2.out (.inr ⟨by omega, .inr HKM.out⟩)
              refine ⟨ret2_int (congrArg _ r1) (congrArg _ r2), ?_⟩
              obtain ⟨q, hq⟩ := HW3.out
              exact ⟨q + nq, by rw [hq, World.drewN_drewN]⟩
            · have h8 : ((n : Int) == (mo : Int)) = false := by simp; omega
              clear hkm
              go_wp2
              go_quiet (fail)
              go_wp2
              go_roundg g
              case measure => omega
              case rel =>
                obtain ⟨q, hq⟩ := HW3.out
                exact ⟨c + 1, n, d, by omega, rfl, rfl, by go_num, hn, HF2, ⟨q + nq, by rw [hq, World.drewN_drewN]⟩⟩
        · obtain ⟨g2, rfl⟩ : ∃ g2, gk = g2 + 1 := ⟨gk - 1, by omega⟩
          have hkm2 : k < mo := by omega
          have h5 : ((k : Int) < (mo : Int)) := by omega
          obtain ⟨b, o, rfl, hc⟩ := Lib.BytesIn.at HB.out (by omega)
          obtain ⟨x, hx⟩ : ∃ x : Int, zs.getD (at' - (c + 1) + k) 0 = x := ⟨_, rfl⟩
          obtain ⟨y, hy⟩ : ∃ y : Int, zs.getD (at' + k) 0 = y := ⟨_, rfl⟩
          have hwr : ∀ q : Addr, wr.cell? q = w.cell? q := by obtain ⟨nq, rfl⟩ := HW3.out; intro q; simp
          have cx : wr.cell? ⟨b, o + (at' + k - (c + 1)), none⟩ = some (.int .u8 x) := by rw [hwr, ← hx, show at' + k - (c + 1) = at' - (c + 1) + k by omega]; exact hc _ (by omega)
          have cy : wr.cell? ⟨b, o + (at' + k), none⟩ = some (.int .u8 y) := by rw [hwr, ← hy]; exact hc _ (by omega)
          have HX := box hx
          have HY := box hy
          clear hx hy hwr hc
          have i1 : (0 : Int) ≤ (at' : Int) + (k : Int) - ((c : Int) + 1) := by omega
          have i2 : (at' : Int) + (k : Int) - ((c : Int) + 1) < (len : Int) := by omega
          have i3 : (at' : Int) + (k : Int) < (len : Int) := by omega
          by_cases hxy : x = y
          · have t1 : (y == x) = true := by simp [hxy]
            have HXY := box hxy
            clear hxy hkm
            go_wp2
            go_quiet (fail)
            go_wp2
            go_roundg g2
            case measure => omega
            case rel =>
              refine ⟨k + 1, by omega, by go_num, ⟨?_⟩, ⟨?_⟩⟩
              · intro t ht
                by_cases htk : t = k
                · subst htk
                  rw [HX.out, HY.out, HXY.out]
                · exact HE.out t (by omega)
              · obtain ⟨q, hq⟩ := HW3.out
                exact ⟨q + nq, by rw [hq, World.drewN_drewN]⟩
          · have t1 : (y == x) = false := by simp; exact fun h => hxy h.symm
            have hag := HEND.out (.inr ⟨hkm2, by rw [HX.out, HY.out]; exact hxy⟩)
            have HAG := box hag
            clear hag hxy hkm
            by_cases h7 : 3 ≤ k
            · have h7' : (3 : Int) ≤ (k : Int) := by omega
              by_cases h6 : n < k
              · have h6' : (n : Int) < (k : Int) := by omega
                have h8 : ((k : Int) == (mo : Int)) = false := by simp; omega
                have hF2 : (k, c + 1) = mfold zs at' mo (c + 1) := by rw [mfold, ← HF.out, mstep, HAG.out, if_pos ⟨h7, h6⟩]
                have HF2 := box hF2
                clear hF2
                go_wp2
                go_quiet (fail)
                go_wp2
                go_roundg g
                case measure => omega
                case rel =>
                  obtain ⟨q, hq⟩ := HW3.out
                  exact ⟨c + 1, k, c + 1, by omega, rfl, by go_num, by go_num, by omega, HF2, ⟨q + nq, by rw [hq, World.drewN_drewN]⟩⟩
              · have h6' : ¬ (n : Int) < (k : Int) := by omega
                have hF2 : (n, d) = mfold zs at' mo (c + 1) := by rw [mfold, ← HF.out, mstep_no (by rw [HAG.out]; exact .inl (by omega))]
                have HF2 := box hF2
                clear hF2
                by_cases hnm : n = mo
                · have h8 : ((n : Int) == (mo : Int)) = true := by simp [hnm]
                  have HKM := box hnm
                  clear hnm
                  go_wp2
                  go_quiet (fail)
                  go_wp2
                  go_ret2
                  obtain ⟨r1, r2⟩ := match_end HM.out HL.out HF2.out (.inr ⟨by omega, .inr HKM.out⟩)
                  refine ⟨ret2_int (congrArg _ r1) (congrArg _ r2), ?_⟩
                  obtain ⟨q, hq⟩ := HW3.out
                  exact ⟨q + nq, by rw [hq, World.drewN_drewN]⟩
                · have h8 : ((n : Int) == (mo : Int)) = false := by simp; omega
                  go_wp2
                  go_quiet (fail)
                  go_wp2
                  go_roundg g
                  case measure => omega
                  case rel =>
                    obtain ⟨q, hq⟩ := HW3.out
                    exact ⟨c + 1, n, d, by omega, rfl, rfl, by go_num, hn, HF2, ⟨q + nq, by rw [hq, World.drewN_drewN]⟩⟩
            · have h7' : ¬ (3 : Int) ≤ (k : Int) := by omega
              have hF2 : (n, d) = mfold zs at' mo (c + 1) := by rw [mfold, ← HF.out, mstep_no (by rw [HAG.out]; exact .inr (by omega))]
              have HF2 := box hF2
              clear hF2
              by_cases hnm : n = mo
              · have h8 : ((n : Int) == (mo : Int)) = true := by simp [hnm]
                have HKM := box hnm
                clear hnm
                go_wp2
                go_quiet (fail)
                go_wp2
                go_ret2
                obtain ⟨r1, r2⟩ := match_end HM.out HL.out HF2.out (.inr ⟨by omega, .inr HKM.out⟩)
                refine ⟨ret2_int (congrArg _ r1) (congrArg _ r2), ?_⟩
                obtain ⟨q, hq⟩ := HW3.out
                exact ⟨q + nq, by rw [hq, World.drewN_drewN]⟩
              · have h8 : ((n : Int) == (mo : Int)) = false := by simp; omega
                go_wp2
                go_quiet (fail)
                go_wp2
                go_roundg g
                case measure => omega
                case rel =>
                  obtain ⟨q, hq⟩ := HW3.out
                  exact ⟨c + 1, n, d, by omega, rfl, rfl, by go_num, hn, HF2, ⟨q + nq, by rw [hq, World.drewN_drewN]⟩⟩
#print axioms rmatch_any
end Go.Proofs.Ytfhibpgmmffgjaa
