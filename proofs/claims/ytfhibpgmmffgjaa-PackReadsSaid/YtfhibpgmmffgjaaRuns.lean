/- pack.runs computes runsS: the walk. -/
import Derived.Test.YtfhibpgmmffgjaaFacts
import Derived.Test.YtfhibpgmmffgjaaRunsL
import Derived.WalkKit
import Derived.WalkSpells
import Derived.Deep.LoopGhost
import Derived.Deep.RegionHeld3
namespace Go.Proofs.Ytfhibpgmmffgjaa
open Go.RowKit

set_option maxHeartbeats 1000000 in
set_option maxRecDepth 100000 in
theorem runs_any (B : Nat) (A p : Option Addr) (n c len cap : Nat) (xs zs : List Int) (w : World) (hown : w.ownsRow B 5 1 (.slice A n c) n (u8s xs))
    (hb : Byt w B p len zs) (hlc : len ≤ cap) (hB : B ≤ w.heap.size) (hn : n + 2 * len ≤ 1099511627776) :
    Calls Try.prog 25 #[.slice A n c, .slice p len cap] w fun e w' => ∃ A' c', e = .returned (.slice A' (n + (runsS zs).length) c') ∧
      w'.ownsRow B 5 1 (.slice A' (n + (runsS zs).length) c') (n + (runsS zs).length) (u8s (xs ++ runsS zs)) ∧ Below B w w' := by
  obtain ⟨i0, hi0, hz0, hz1, hz2⟩ := info_parts u8_info
  go_enter Try.func25, Try.ntmps25
  go_wp2
  go_loopg [0, 1] len (fun g s0 s1 wr => ∃ (A1 p1 : Option Addr) (n1 c1 cap1 : Nat) (pre rest : List Int), s0 = .slice A1 n1 c1 ∧ s1 = .slice p1 g cap1 ∧ g ≤ cap1 ∧ n1 + 2 * g ≤ 1099511627776 ∧
    Aside (wr.ownsRow B 5 1 (.slice A1 n1 c1) n1 (u8s (xs ++ pre)) ∧ Byt wr B p1 g rest ∧ Below B w wr ∧ B ≤ wr.heap.size ∧ runsS zs = pre ++ runsS rest))
  case atStart => exact ⟨A, p, n, c, cap, [], zs, rfl, rfl, hlc, hn, by simpa using hown, hb, Below.refl _ _, hB, by simp⟩
  case round =>
    obtain ⟨A1, p1, n1, c1, cap1, pre, rest, rfl, rfl, hl1, hn1, H⟩ := hrel
    by_cases hg : gk = 0
    · subst hg
      go_wp2
      go_ret
      obtain ⟨h1, h2, h3, h4, h5⟩ := H.out
      obtain rfl := h2.empty
      rw [runsS_nil, List.append_nil] at h5
      have h6 := h1.1
      rw [u8s_length, List.length_append] at h6
      have h7 := hown.1
      rw [u8s_length] at h7
      have e : n + pre.length = n1 := by omega
      rw [h5, e]
      exact ⟨A1, c1, rfl, h1, h3⟩
    · have hg1 : (0 : Int) < (gk : Int) := by omega
      obtain ⟨m, hm⟩ : ∃ m, m = min 128 gk := ⟨_, rfl⟩
      have e1 : min 128 (gk : Int) = (m : Int) := by omega
      have b1 : 1 ≤ m := by omega
      have b2 : m ≤ 128 := by omega
      have b3 : m ≤ gk := by omega
      have b4 : (m : Int) ≤ (cap1 : Int) := by omega
      have b5 : (0 : Int) ≤ (m : Int) := by omega
      have HM := Lib.hid hm
      have f1 : IntKind.i64.wrap ((m : Int) - 1) = (m : Int) - 1 := IntWalk.i64_in _ (by omega)
      have f2 : IntKind.u8.wrap ((m : Int) - 1) = (m : Int) - 1 := IntWalk.u8_in _ (by omega)
      have hB1 := H.out.2.2.2.1
      clear hm
      obtain ⟨h1, h2, h3, h4, h5⟩ := H.out
      obtain ⟨b, o, rfl, hbB, hc⟩ := h2.at_ (by omega)
      have H5 := Lib.hid h5
      have HC := Lib.hid hc
      have H2 := Lib.hid h2
      have H3 := Lib.hid h3
      have H1 := Lib.hid h1
      clear h5 hc h2 h3 H h1
      go_wp2
      go_region_held3 (fun _ => True) (trivial)
        (first
          | (refine step_app _ (by rfl) (.tmp 12) (.tmp 16) _ (by rfl) B 5 i0 (.int .u8 0) 1 1 Try.underlying22 hi0 hz0 hz1 hz2 rfl (by omega) (.slice A1 n1 c1) n1 (u8s (xs ++ pre)) (by rfl) (by exact H1.out.alloc _) (wr.heap.size + 1) (some ⟨wr.heap.size, 0, none⟩) 1 1 (u8s [(m : Int) - 1]) (by rfl) (by exact Src.new wr #[.int .u8 ((m : Int) - 1)] 5 1 1 rfl) (u8s_one _) (by simp only [maxLen]; omega) (by omega) (by simp; omega) ?_; intro A2 c2 w2 L2; have hb2 : Below B wr w2 := Below.app (Below.drew (Below.alloc (Below.refl _ _) hB1 _)) L2 (by exact H1.out.alloc _) (Nat.le_refl _) (by simp; omega))
          | (refine step_app _ (by rfl) (.tmp 17) (.tmp 20) _ (by rfl) B 5 i0 (.int .u8 0) 1 1 Try.underlying22 hi0 hz0 hz1 hz2 rfl (by omega) (.slice A2 (n1 + 1) c2) (n1 + 1) _ (by rfl) L2.1 B _ m _ (u8s (rest.take m)) (by rfl) (by exact Byt.src_take (H2.out.below hb2) b3) (u8s_one _) (by simp only [maxLen]; omega) (by omega) (by have := hb2.size; omega) ?_; intro A3 c3 w3 L3))
      clear f1 f2
      have HD := Lib.hid L3
      have HL2 := Lib.hid L2
      have HB2 := Lib.hid hb2
      clear L3 L2 hb2
      go_wp2
      · go_roundg (gk - m)
        case measure => omega
        case rel =>
          have hcm : cap1 = m := by assumption
          obtain ⟨r1, r2, r3, r4, r5⟩ := runs_step H2.out H3.out HB2.out H5.out HM.out hg hB1 HL2.out HD.out
          have r0 : gk - m = 0 := by omega
          refine ⟨A3, _, n1 + 1 + m, c3, _, _, rest.drop m, rfl, rfl, by omega, by omega, r1, ?_, r3, r4, r5⟩
          rw [List.drop_eq_nil_of_le (by have := H2.out.len; omega), r0]
          exact Byt.none_
      · go_roundg (gk - m)
        case measure => omega
        case rel =>
          obtain ⟨r1, r2, r3, r4, r5⟩ := runs_step H2.out H3.out HB2.out H5.out HM.out hg hB1 HL2.out HD.out
          exact ⟨A3, _, n1 + 1 + m, c3, _, _, rest.drop m, rfl, rfl, by omega, by omega, r1, r2, r3, r4, r5⟩
#print axioms runs_any
end Go.Proofs.Ytfhibpgmmffgjaa
