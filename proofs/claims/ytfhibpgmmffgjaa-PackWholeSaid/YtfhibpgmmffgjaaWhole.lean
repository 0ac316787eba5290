/- mantlelaw11.PackWhole answers true: the walk. -/
import Derived.Test.YtfhibpgmmffgjaaBack
import Derived.Test.YtfhibpgmmffgjaaWholeL
namespace Go.Proofs.Ytfhibpgmmffgjaa
open Go.RowKit
/-- Two appends onto a row of the call's own, the first onto nil: what lay below at their beginning stands. -/
theorem past_apps {B : Nat} {e : TypeId} {w2 w3 w4 w5 : World} {n m c4 c5 : Nat} {A4 A5 : Option Addr} {v4 news news2 : List Value} (h : Below w2.heap.size w2 w3) (l4 : AppLeft w3 B e 1 (.slice none 0 0) 0 n [] news A4 c4 w4)
    (l5 : AppLeft w4 B e 1 (.slice A4 n c4) n m v4 news2 A5 c5 w5) (_o4 : w4.ownsRow B e 1 (.slice A4 n c4) n v4) : Below w2.heap.size w2 w5 := by
  have b4 : Below w2.heap.size w2 w4 := h.grown l4.2.1 h.size fun k hk => by simp [Value.ownBlock] at hk
  refine b4.grown l5.2.1 b4.size fun k hk => ?_
  rcases l4.2.2 with e1 | e1
  · rw [Nat.zero_add] at e1
    rw [e1] at hk
    simp [Value.ownBlock] at hk
  · rw [Nat.zero_add] at e1
    rw [e1] at hk
    have := h.size
    injection hk
    omega
theorem whole_great (p q : Option Addr) (len cap len1 cap1 : Nat) (n : Int) (w : World) (h : 262144 < len ∨ ¬ 262144 < len ∧ 262144 < len1) :
    Calls Try.prog 5 #[.slice p len cap, .slice q len1 cap1, .int .i64 n] w fun e w' => e = .returned (.bool true) ∧ Below w.heap.size w w' := by
  rcases h with h | ⟨h, h'⟩
  · have t1 : (262144 : Int) < (len : Int) := by omega
    go_enter Try.func5, Try.ntmps5
    go_wp2_with fail
    refine (works_any _).mono ?_
    rintro e w1 ⟨rfl, b1⟩
    go_wp2_with fail
    refine (works_any _).mono ?_
    rintro e w2 ⟨rfl, b2⟩
    go_wp2_with fail
    go_ret
    exact ⟨rfl, b1.trans (b2.mono b1.size)⟩
  · have t1 : ¬ (262144 : Int) < (len : Int) := by omega
    have t2 : (262144 : Int) < (len1 : Int) := by omega
    go_enter Try.func5, Try.ntmps5
    go_wp2_with fail
    refine (works_any _).mono ?_
    rintro e w1 ⟨rfl, b1⟩
    go_wp2_with fail
    refine (works_any _).mono ?_
    rintro e w2 ⟨rfl, b2⟩
    go_wp2_with fail
    go_ret
    exact ⟨rfl, b1.trans (b2.mono b1.size)⟩

set_option maxHeartbeats 1000000 in
set_option maxRecDepth 100000 in
theorem whole_bad (p q : Option Addr) (len cap len1 cap1 : Nat) (n : Int) (zs : List Int) (w : World) (hb : Byt w w.heap.size p len zs) (hlc : len ≤ cap) (hcap : cap ≤ 9223372036854775807)
    (h0 : ¬ 262144 < len) (h1 : ¬ 262144 < len1) (hs : (unpackS zs).1 ≠ 0) :
    Calls Try.prog 5 #[.slice p len cap, .slice q len1 cap1, .int .i64 n] w fun e w' => e = .returned (.bool true) ∧ Below w.heap.size w w' := by
  have t1 : ¬ (262144 : Int) < (len : Int) := by omega
  have t2 : ¬ (262144 : Int) < (len1 : Int) := by omega
  have e0 := unpackS_err hs
  obtain ⟨c, hc⟩ : ∃ c, (unpackS zs).1 = c := ⟨_, rfl⟩
  rw [hc] at hs
  have t3 : (c != 0) = true := by simpa using hs
  have E0 := box e0
  have HC := box hc
  have HB := box hb
  clear e0 hc hb hs
  go_enter Try.func5, Try.ntmps5
  go_wp2_with fail
  refine (works_any _).mono ?_
  rintro e w1 ⟨rfl, b1⟩
  go_wp2_with fail
  have c1 := unpack_is p len cap zs w1 ((HB.out.below b1).more b1.size) hlc hcap
  rw [E0.out, HC.out] at c1
  refine c1.mono ?_
  rintro e w2 ⟨A2, k2, rfl, b2, _⟩
  clear c1
  go_wp2_with fail
  go_ret
  exact ⟨rfl, b1.trans (b2.mono b1.size)⟩
set_option maxHeartbeats 1000000 in
set_option maxRecDepth 100000 in
theorem whole_good (p q : Option Addr) (len cap len1 cap1 : Nat) (n : Int) (zs ys : List Int) (w : World) (hb : Byt w w.heap.size p len zs) (hlc : len ≤ cap) (hcap : cap ≤ 9223372036854775807)
    (hb1 : Byt w w.heap.size q len1 ys)
    (h0 : ¬ 262144 < len) (h1 : ¬ 262144 < len1) (hs : (unpackS zs).1 = 0) :
    Calls Try.prog 5 #[.slice p len cap, .slice q len1 cap1, .int .i64 n] w fun e w' => e = .returned (.bool true) ∧ Below w.heap.size w w' := by
  have t1 : ¬ (262144 : Int) < (len : Int) := by omega
  have t2 : ¬ (262144 : Int) < (len1 : Int) := by omega
  have hl := hb.len
  have ho := unpackS_ok hs
  have hl4 : 4 ≤ len := by omega
  have p1 : (0 : Int) < (len : Int) := by omega
  have p2 : ((len : Int) == 0) = false := by simp; omega
  obtain ⟨xs, hxs⟩ : ∃ xs, (unpackS zs).2 = xs := ⟨_, rfl⟩
  have hxl : xs.length ≤ 65536 := by rw [← hxs]; exact whole_len hs
  have hxl' : (xs.length : Int) ≤ 65536 := by omega
  have hus : unpackS zs = (0, xs) := by rw [← hs, ← hxs]
  obtain ⟨r, hr⟩ : ∃ r, n.tmod (len : Int) = r := ⟨_, rfl⟩
  have r1 : -(len : Int) < r := by
    rw [← hr]
    have := Int.tmod_lt_of_pos (-n) p1
    rw [Int.neg_tmod] at this
    omega
  have r2 : r < (len : Int) := by
    rw [← hr]
    exact Int.tmod_lt_of_pos n p1
  have hk : ∃ k : Nat, k < len ∧ (r < 0 ∧ r + (len : Int) = (k : Int) ∨ ¬ r < 0 ∧ r = (k : Int)) := by
    by_cases hr0 : r < 0
    · exact ⟨(r + len).toNat, by omega, .inl ⟨hr0, by omega⟩⟩
    · exact ⟨r.toNat, by omega, .inr ⟨hr0, by omega⟩⟩
  obtain ⟨k, k1, k2⟩ := hk
  have k3 : (k : Int) ≤ (cap : Int) := by omega
  have ul := whole_less hb.bs hs k (by omega)
  have UL := box ul
  have UM := box (fun h => whole_more (more := ys) hs h)
  have hl1 := hb1.len
  have HL1 := box hl1
  have HXB := box (by have := unpackS_bs zs hb.bs; rwa [hxs] at this : Bs xs)
  clear ul hl1
  have HUS := box hus
  have HB := box hb
  have HB1 := box hb1
  have HS := box hs
  clear hb hb1 hs hl ho hxs hus
  obtain ⟨i0, hi0, hz0, hz1, hz2⟩ := info_parts u8_info
  rcases k2 with ⟨k4, k5⟩ | ⟨k4, rfl⟩
  all_goals
    go_enter Try.func5, Try.ntmps5
    go_wp2_with fail
    refine (works_any _).mono ?_
    rintro e w1 ⟨rfl, b1⟩
    go_wp2_with fail
    have c1 := unpack_is p len cap zs w1 ((HB.out.below b1).more b1.size) hlc hcap
    rw [HUS.out] at c1
    refine c1.mono ?_
    rintro e w2 ⟨A2, q2, rfl, b2, own2⟩
    clear c1
    go_wp2_with fail
    have b12 := b1.trans (b2.mono b1.size)
    have hbs := HB.out.below b12
    have y2 : Byt w2 w2.heap.size A2 xs.length xs := Byt.of_own own2 HXB.out
    have Y2 := box y2
    clear y2 own2
    have c2 := unpack_is p k cap (zs.take k) w2 ((hbs.take (by omega)).more b12.size) (by omega) hcap
    rw [UL.out] at c2
    refine c2.mono ?_
    rintro e w3 ⟨A3, q3, rfl, b3, _⟩
    clear c2
    have b13 := b12.trans (b3.mono b12.size)
    have s13 := b13.size
    have hp3 := HB.out.below b13
    have hq3 := HB1.out.below b13
    have HP3 := box hp3
    have HQ3 := box hq3
    clear hbs hp3 hq3
    go_wp2_with (first
      | (at_builtin; refine wpList_app _ rfl (.const (.slice none 0 0)) (.tmp 54) _ rfl w.heap.size 5 i0 (.int .u8 0) 1 1 Try.underlying22 hi0 hz0 hz1 hz2 rfl (by omega) _ 0 [] rfl (World.ownsRow_nil _ _ _ _) w.heap.size p len cap (u8s zs) rfl HP3.out.src (u8s_one _) (by simp only [maxLen]; omega) (by omega) s13 ?_; intro A4 c4 w4 L4; have b4 : Below w.heap.size w w4 := Below.app b13 L4 (World.ownsRow_nil _ _ _ _) (Nat.le_refl _) s13; have O4 : w4.ownsRow w.heap.size 5 1 (.slice A4 len c4) len (u8s zs) := by simpa using L4.1)
      | (at_builtin; refine wpList_app _ rfl (.tmp 55) (.tmp 56) _ rfl w.heap.size 5 i0 (.int .u8 0) 1 1 Try.underlying22 hi0 hz0 hz1 hz2 rfl (by omega) _ len (u8s zs) rfl O4 w.heap.size q len1 cap1 (u8s ys) rfl (HB1.out.below b4).src (u8s_one _) (by simp only [maxLen]; omega) (by omega) b4.size ?_; intro A5 c5 w5 L5; have b5 : Below w.heap.size w w5 := Below.app b4 L5 O4 (Nat.le_refl _) b4.size))
    have O5 : w5.ownsRow w.heap.size 5 1 (.slice A5 (len + len1) c5) (len + len1) (u8s (zs ++ ys)) := by rw [u8s_append]; exact L5.1
    have hc5 := own_cap O5
    have y5 : Byt w5 w5.heap.size A5 (len + len1) (zs ++ ys) := Byt.of_own O5 (HB.out.bs.app HB1.out.bs)
    have b25 : Below w2.heap.size w2 w5 := by
      have b23 : Below w2.heap.size w2 w3 := b3
      exact past_apps b23 L4 L5 O4
    have y25 := Y2.out.below b25
    have Y25 := box y25
    clear L4 L5 O4 O5 b4 y25
    by_cases hq0 : len1 = 0
    · subst hq0
      have hy0 : ys = [] := List.eq_nil_of_length_eq_zero HL1.out
      subst hy0
      have c3 := unpack_is A5 (len + 0) c5 (zs ++ []) w5 y5 hc5.1 hc5.2
      rw [List.append_nil, HUS.out] at c3
      refine c3.mono ?_
      rintro e w6 ⟨A6, q6, rfl, b6, own6⟩
      clear c3 y5 hc5
      go_wp2_with fail
      have b16 := b5.trans (b6.mono b5.size)
      have y6 : Byt w6 w6.heap.size A6 xs.length xs := Byt.of_own own6 HXB.out
      have y26 : Byt w6 w2.heap.size A2 xs.length xs := Y25.out.below (b6.mono b25.size)
      have c4 := equal_any A2 A6 xs.length q2 xs.length q6 _ _ xs xs w6 y26 y6
      rw [decide_eq_true (rfl : xs = xs)] at c4
      refine c4.mono ?_
      rintro e w7 ⟨rfl, rfl⟩
      clear c4 y6 y26 own6
      go_wp2_with fail
      go_ret
      exact ⟨rfl, b16⟩
    · have c3 := unpack_is A5 (len + len1) c5 (zs ++ ys) w5 y5 hc5.1 hc5.2
      rw [UM.out (fun h => hq0 (by rw [← HL1.out, h]; rfl))] at c3
      refine c3.mono ?_
      rintro e w6 ⟨A6, q6, rfl, b6, own6⟩
      clear c3 y5 hc5 own6
      have z1 : ((len1 : Int) == 0) = false := by simp; omega
      have z2 : (0 : Int) < (len1 : Int) := by omega
      go_wp2_with fail
      go_ret
      exact ⟨rfl, b5.trans (b6.mono b5.size)⟩
theorem whole_any (p q : Option Addr) (len cap len1 cap1 : Nat) (n : Int) (zs ys : List Int) (w : World) (hb : Byt w w.heap.size p len zs) (hlc : len ≤ cap) (hcap : cap ≤ 9223372036854775807) (hb1 : Byt w w.heap.size q len1 ys) :
    Calls Try.prog 5 #[.slice p len cap, .slice q len1 cap1, .int .i64 n] w fun e w' => e = .returned (.bool true) ∧ Below w.heap.size w w' := by
  by_cases h : 262144 < len ∨ ¬ 262144 < len ∧ 262144 < len1
  · exact whole_great p q len cap len1 cap1 n w h
  · by_cases hs : (unpackS zs).1 = 0
    · exact whole_good p q len cap len1 cap1 n zs ys w hb hlc hcap hb1 (by omega) (by omega) hs
    · exact whole_bad p q len cap len1 cap1 n zs w hb hlc hcap (by omega) (by omega) hs
#print axioms whole_any
end Go.Proofs.Ytfhibpgmmffgjaa
