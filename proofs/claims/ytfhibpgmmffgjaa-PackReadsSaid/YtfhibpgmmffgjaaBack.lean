/- mantlelaw11.PackBack answers true: the walk. -/
import Derived.Test.YtfhibpgmmffgjaaWorks
import Derived.Test.YtfhibpgmmffgjaaBackL
namespace Go.Proofs.Ytfhibpgmmffgjaa
open Go.RowKit
/-- A row that came in, in our words. -/
theorem byt_in {w : World} {a : Option Addr} {len cap : Nat} {zs : List Int}
    (h : (a = none ∧ len = 0 ∧ cap = 0 ∧ zs = []) ∨ ∃ x, a = some x ∧ len ≤ cap ∧ cap ≤ maxLen ∧ zs.length = cap ∧ (∀ i, i < zs.length → w.cell? (x.add i) = some (.int .u8 (zs.getD i 0))) ∧ ∀ n ∈ zs, (Lit.int .u8 n).wf = true) :
    ∃ xs, Byt w w.heap.size a len xs ∧ len ≤ cap ∧ cap ≤ 9223372036854775807 := by
  rcases h with ⟨rfl, rfl, rfl, rfl⟩ | ⟨x, rfl, hl, hm, hz, hcell, hwz⟩
  · exact ⟨[], Byt.none_, Nat.le_refl _, by omega⟩
  · refine ⟨zs.take len, ?_, hl, by simp only [maxLen] at hm; omega⟩
    have hbs : Bs (zs.take len) := Bs.take (fun y hy => by
      have h := hwz y hy
      have h1 : IntKind.u8.min = 0 := rfl
      have h2 : IntKind.u8.max = 255 := rfl
      simp only [Lit.wf, Bool.and_eq_true, decide_eq_true_eq] at h
      omega) len
    by_cases h0 : len = 0
    · subst h0
      rw [List.take_zero]
      exact Byt.none_
    · obtain ⟨b, off, spot⟩ := x
      have hc := hcell 0 (by omega)
      have hspot : spot = none := by simpa [Addr.add] using World.cell?_spot hc
      subst hspot
      have hlt : b < w.heap.size := by
        have := World.block_lt_of_cell? _ _ hc
        rwa [add_at] at this
      refine Byt.of_cells (by rw [List.length_take]; omega) hbs hlt fun j hj => ?_
      have := hcell j (by omega)
      rw [add_at] at this
      rw [this]
      simp [List.getD, hj]

set_option maxHeartbeats 1000000 in
set_option maxRecDepth 100000 in
theorem back_any (p : Option Addr) (len cap : Nat) (zs : List Int) (w : World) (hb : Byt w w.heap.size p len zs) (hlc : len ≤ cap) (hcap : cap ≤ 9223372036854775807) :
    Calls Try.prog 4 #[.slice p len cap] w fun e w' => e = .returned (.bool true) ∧ Below w.heap.size w w' := by
  by_cases h20 : 1048576 < len
  · have h20' : (1048576 : Int) < (len : Int) := by omega
    go_enter Try.func4, Try.ntmps4
    go_wp2_with fail
    refine (works_any _).mono ?_
    rintro e w1 ⟨rfl, b1⟩
    go_wp2_with fail
    refine (works_any _).mono ?_
    rintro e w2 ⟨rfl, b2⟩
    go_wp2_with fail
    go_ret
    exact ⟨rfl, b1.trans (b2.mono b1.size)⟩
  · have h20' : ¬ (1048576 : Int) < (len : Int) := by omega
    by_cases h16 : 65536 < len
    · have h16' : (65536 : Int) < (len : Int) := by omega
      go_enter Try.func4, Try.ntmps4
      go_wp2_with fail
      refine (works_any _).mono ?_
      rintro e w1 ⟨rfl, b1⟩
      go_wp2_with fail
      refine (pack_long p len cap _ h16).mono ?_
      rintro e w2 ⟨rfl, rfl⟩
      go_wp2_with fail
      go_ret
      exact ⟨rfl, b1⟩
    · have h16' : ¬ (65536 : Int) < (len : Int) := by omega
      have hl := hb.len
      obtain ⟨u1, u2, u3⟩ := unpack_pack zs hb.bs (by omega)
      obtain ⟨ps, hps⟩ : ∃ ps, packS zs = ps := ⟨_, rfl⟩
      rw [hps] at u1 u2 u3
      have U1 := box u1
      have U3 := box u3
      have HPS := box hps
      have t1 : (ps.length : Int) ≤ 4 + (len : Int) + ((len : Int) + 127) / 128 := by omega
      clear u1 u3 hps u2
      have HB := box hb
      have HL := box hl
      clear hb hl
      go_enter Try.func4, Try.ntmps4
      go_wp2_with fail
      refine (works_any _).mono ?_
      rintro e w1 ⟨rfl, b1⟩
      go_wp2_with fail
      have hb1 := HB.out.below b1
      have c1 := pack_any p len cap zs w1 (hb1.more b1.size) hlc hcap (by omega)
      rw [HPS.out] at c1
      refine c1.mono ?_
      rintro e w2 ⟨A2, k2, rfl, own2, b2⟩
      clear c1
      go_wp2_with fail
      have hc2 := own_cap own2
      have y2 : Byt w2 w2.heap.size A2 ps.length ps := Byt.of_own own2 U3.out
      have c2 := unpack_is A2 ps.length k2 ps w2 y2 hc2.1 hc2.2
      rw [U1.out] at c2
      refine c2.mono ?_
      rintro e w3 ⟨A3, k3, rfl, b3, own3⟩
      clear c2
      go_wp2_with fail
      have b12 := b1.trans (b2.mono b1.size)
      have b13 := b12.trans (b3.mono b12.size)
      have y3 : Byt w3 w3.heap.size A3 zs.length zs := Byt.of_own own3 HB.out.bs
      have c3 := equal_any p A3 len cap zs.length k3 _ _ zs zs w3 (HB.out.below b13) y3
      rw [decide_eq_true (rfl : zs = zs)] at c3
      refine c3.mono ?_
      rintro e w4 ⟨rfl, rfl⟩
      clear c3 y3 y2 own2 own3 hb1 hc2
      go_wp2_with fail
      go_ret
      exact ⟨rfl, b13⟩
#print axioms back_any
end Go.Proofs.Ytfhibpgmmffgjaa
