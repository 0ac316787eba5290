/- pack.match computes matchS: the walk. -/
import Derived.Test.YtfhibpgmmffgjaaRows
import Derived.Test.YtfhibpgmmffgjaaMatchL
import Derived.WalkKit
import Derived.WalkSpells
import Derived.Deep.LoopGhost
import Derived.Deep.Draws
import Derived.Deep.QuietTactic
import Derived.BigQuiet
import Derived.Lib.Hide
import Derived.Shelf.Bytes.SlEqualAll
namespace Go.Proofs.Ytfhibpgmmffgjaa
open Go.RowKit

set_option maxHeartbeats 1000000 in
set_option maxRecDepth 100000 in
theorem match_any (p : Option Addr) (len cap at' : Nat) (zs : List Int) (w : World) (hz : zs.length = len) (hlc : len ≤ cap) (hcap : cap ≤ 9223372036854775807) (hat : at' ≤ len)
    (hb : Lib.BytesIn w p len zs) :
    Calls Try.prog 24 #[.slice p len cap, .int .i64 at'] w fun e w' =>
      e = .returned (.tuple #[.int .i64 (matchS zs at').1, .int .i64 (matchS zs at').2]) ∧ ∃ n, w' = w.drewN n := by
  obtain ⟨mo, hmo⟩ : ∃ mo, mo = mostOf zs at' := ⟨_, rfl⟩
  have e1 : min 130 ((len : Int) - (at' : Int)) = (mo : Int) := by unfold mostOf at hmo; omega
  have b1 : mo ≤ 130 := by unfold mostOf at hmo; omega
  have b2 : at' + mo ≤ len := by unfold mostOf at hmo; omega
  obtain ⟨lim, hlim⟩ : ∃ lim, lim = min 255 at' := ⟨_, rfl⟩
  have e2 : min 255 (at' : Int) = (lim : Int) := by omega
  have b3 : lim ≤ at' := by omega
  have b4 : lim ≤ 255 := by omega
  have HB := Lib.hid hb
  have HZ := Lib.hid hz
  have HM := Lib.hid hmo
  have HL := Lib.hid hlim
  clear hb hz hmo hlim
  go_enter Try.func24, Try.ntmps24
  go_wp2
  go_step3
  go_wp2
  go_step3
  go_wp2
  clear e1
  go_loopg [4, 5, 7] lim (fun g s4 s5 s7 wr => ∃ c n d : Nat, c + g = lim ∧ s4 = .int .i64 n ∧ s5 = .int .i64 d ∧ s7 = .int .i64 ((c : Int) + 1) ∧ n ≤ mo ∧ Aside ((n, d) = mfold zs at' mo c) ∧ Aside (∃ nq, wr = w.drewN nq))
  case atStart => exact ⟨0, 0, 0, by omega, rfl, rfl, rfl, Nat.zero_le _, rfl, ⟨0, rfl⟩⟩
  case round =>
    obtain ⟨c, n, d, hcg, rfl, rfl, rfl, hn, HF, HW⟩ := hrel
    cases gk with
    | zero =>
      have h1 : ¬ ((c : Int) + 1 ≤ (lim : Int)) := by omega
      go_wp2
      go_ret2
      obtain ⟨r1, r2⟩ := match_end HM.out HL.out HF.out (.inl (by omega))
      exact ⟨ret2_int (congrArg _ r1) (congrArg _ r2), HW.out⟩
    | succ g =>
      have h1 : ((c : Int) + 1 ≤ (lim : Int)) := by omega
      by_cases h3 : mo < 3
      · have h3' : (mo : Int) < 3 := by omega
        go_wp2
        rw [Exit.noGoto_ret]
        go_ret2
        obtain ⟨r1, r2⟩ := match_end HM.out HL.out HF.out (.inr ⟨by omega, .inl h3⟩)
        exact ⟨ret2_int (congrArg _ r1) (congrArg _ r2), HW.out⟩
      · have h3' : ¬ (mo : Int) < 3 := by omega
        by_cases h4 : n = mo
        · have h4' : ((n : Int) == (mo : Int)) = true := by simp [h4]
          have HN := Lib.hid h4
          clear h4
          go_wp2
          go_ret2
          obtain ⟨r1, r2⟩ := match_end HM.out HL.out HF.out (.inr ⟨by omega, .inr HN.out⟩)
          exact ⟨ret2_int (congrArg _ r1) (congrArg _ r2), HW.out⟩
        · have h4' : ((n : Int) == (mo : Int)) = false := by simp; omega
          obtain ⟨b, o, rfl, hc⟩ := Lib.BytesIn.at HB.out (by omega)
          have hc0 : (0 : Int) ≤ (at' : Int) - ((c : Int) + 1) := by omega
          obtain ⟨x, hx⟩ : ∃ x : Int, zs.getD (at' - (c + 1) + n) 0 = x := ⟨_, rfl⟩
          obtain ⟨y, hy⟩ : ∃ y : Int, zs.getD (at' + n) 0 = y := ⟨_, rfl⟩
          have hwr : ∀ q : Addr, wr.cell? q = w.cell? q := by obtain ⟨nq, rfl⟩ := HW.out; intro q; simp
          have cx : wr.cell? ⟨b, o + (at' - (c + 1)) + n, none⟩ = some (.int .u8 x) := by rw [hwr, ← hx, Nat.add_assoc]; exact hc _ (by omega)
          have cy : wr.cell? ⟨b, o + (at' + n), none⟩ = some (.int .u8 y) := by rw [hwr, ← hy]; exact hc _ (by omega)
          have HX := Lib.hid hx
          have HY := Lib.hid hy
          have HC := Lib.hid hc
          clear hx hy hwr hc
          have i1 : (n : Int) < ((len - (c + 1) - (at' - (c + 1)) : Nat) : Int) := by omega
          have i2 : (at' : Int) + (n : Int) < (len : Int) := by omega
          by_cases hxy : x = y
          · have t1 : (x != y) = false := by simp [hxy]
            have HXY := Lib.hid hxy
            clear hxy
            go_wp2
            go_quiet (fail)
            go_wp2
            clear cx cy t1 i1 i2 HX HY HXY
            have HW2 : Aside (∃ k, wr.drewN nq = w.drewN k) := by
              obtain ⟨k, hk⟩ := HW.out
              exact ⟨k + nq, by rw [hk, World.drewN_drewN]⟩
            clear HW
            go_loopg [4, 5, 53] mo (fun g2 s4 s5 s53 wx => ∃ k : Nat, k + g2 = mo ∧ s4 = .int .i64 n ∧ s5 = .int .i64 d ∧ s53 = .int .i64 k ∧ Aside (∀ t, t < k → zs.getD (at' - (c + 1) + t) 0 = zs.getD (at' + t) 0) ∧ Aside (∃ q, wx = w.drewN q))
            case atStart => exact ⟨0, by omega, rfl, rfl, rfl, fun t ht => absurd ht (by omega), HW2.out⟩
            case round =>
              obtain ⟨k, hkg, rfl, rfl, rfl, HE, HW3⟩ := hrel
              cases gk with
              | zero =>
                have h5 : ¬ ((k : Int) < (mo : Int)) := by omega
                go_wp2
                go_roundg g
                case measure => omega
                case rel =>
                  obtain rfl : k = mo := by omega
                  exact ⟨c + 1, k, c + 1, by omega, rfl, by go_num, by go_num, Nat.le_refl _, round_all HF.out HE.out (by omega) (by omega), HW3.out⟩
              | succ g2 =>
                have h5 : ((k : Int) < (mo : Int)) := by omega
                obtain ⟨x, hx⟩ : ∃ x : Int, zs.getD (at' - (c + 1) + k) 0 = x := ⟨_, rfl⟩
                obtain ⟨y, hy⟩ : ∃ y : Int, zs.getD (at' + k) 0 = y := ⟨_, rfl⟩
                have hwr : ∀ q : Addr, wr.cell? q = w.cell? q := by obtain ⟨nq, rfl⟩ := HW3.out; intro q; simp
                have cx : wr.cell? ⟨b, o + (at' - (c + 1)) + k, none⟩ = some (.int .u8 x) := by rw [hwr, ← hx, Nat.add_assoc]; exact HC.out _ (by omega)
                have cy : wr.cell? ⟨b, o + (at' + k), none⟩ = some (.int .u8 y) := by rw [hwr, ← hy]; exact HC.out _ (by omega)
                have HX := Lib.hid hx
                have HY := Lib.hid hy
                clear hx hy hwr
                have i1 : (k : Int) < ((len - (c + 1) - (at' - (c + 1)) : Nat) : Int) := by omega
                have i2 : (at' : Int) + (k : Int) < (len : Int) := by omega
                by_cases hxy : x = y
                · have t1 : (x != y) = false := by simp [hxy]
                  have HXY := Lib.hid hxy
                  clear hxy
                  go_wp2
                  go_quiet (fail)
                  go_wp2
                  go_roundg g2
                  case measure => omega
                  case rel =>
                    refine ⟨k + 1, by omega, rfl, rfl, by go_num, ?_, ?_⟩
                    · intro t ht
                      by_cases htk : t = k
                      · subst htk
                        rw [HX.out, HY.out, HXY.out]
                      · exact HE.out t (by omega)
                    · obtain ⟨q, hq⟩ := HW3.out
                      exact ⟨q + nq, by rw [hq, World.drewN_drewN]⟩
                · have t1 : (x != y) = true := by simp [hxy]
                  have hne : Aside (zs.getD (at' - (c + 1) + k) 0 ≠ zs.getD (at' + k) 0) := by
                    show _ ≠ _
                    rw [HX.out, HY.out]; exact hxy
                  clear hxy
                  by_cases h6 : n < k
                  · have h6' : (n : Int) < (k : Int) := by omega
                    by_cases h7 : 3 ≤ k
                    · have h7' : (3 : Int) ≤ (k : Int) := by omega
                      go_wp2
                      go_quiet (fail)
                      go_wp2
                      go_roundg g
                      case measure => omega
                      case rel =>
                        obtain ⟨q, hq⟩ := HW3.out
                        exact ⟨c + 1, k, c + 1, by omega, rfl, by go_num, by go_num, by omega, round_more HF.out (by omega) HE.out hne.out h6 h7, ⟨q + nq, by rw [hq, World.drewN_drewN]⟩⟩
                    · have h7' : ¬ (3 : Int) ≤ (k : Int) := by omega
                      go_wp2
                      go_quiet (fail)
                      go_wp2
                      go_roundg g
                      case measure => omega
                      case rel =>
                        obtain ⟨q, hq⟩ := HW3.out
                        exact ⟨c + 1, n, d, by omega, rfl, rfl, by go_num, hn, round_less HF.out (by omega) HE.out hne.out (by omega), ⟨q + nq, by rw [hq, World.drewN_drewN]⟩⟩
                  · have h6' : ¬ (n : Int) < (k : Int) := by omega
                    go_wp2
                    go_quiet (fail)
                    go_wp2
                    go_roundg g
                    case measure => omega
                    case rel =>
                      obtain ⟨q, hq⟩ := HW3.out
                      exact ⟨c + 1, n, d, by omega, rfl, rfl, by go_num, hn, round_less HF.out (by omega) HE.out hne.out (by omega), ⟨q + nq, by rw [hq, World.drewN_drewN]⟩⟩
          · have t1 : (x != y) = true := by simp [hxy]
            have hne : Aside (zs.getD (at' - (c + 1) + n) 0 ≠ zs.getD (at' + n) 0) := by
              show _ ≠ _
              rw [HX.out, HY.out]; exact hxy
            clear hxy
            go_wp2
            go_quiet (fail)
            go_wp2
            go_roundg g
            case measure => omega
            case rel =>
              obtain ⟨q, hq⟩ := HW.out
              exact ⟨c + 1, n, d, by omega, rfl, rfl, by go_num, hn, round_skip HF.out hne.out (by omega), ⟨q + nq, by rw [hq, World.drewN_drewN]⟩⟩
#print axioms match_any
end Go.Proofs.Ytfhibpgmmffgjaa
