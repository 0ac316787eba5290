/- SumsByte's walk. -/
import Derived.Test.YtajfamjdfhjdeaaWakes
import Derived.Deep.RegionHeld3
import Derived.Deep.DrawnRows
namespace Go.Proofs.Ytajfamjdfhjdeaa
open Go.RowKit
attribute [local go_sem ↓] Go.wp_at_zero Go.wp_at_succ

/-- The place, as the law reckons it. -/
def placeOf (at_ n : Int) : Int := (at_.tmod n + n).tmod n
theorem byte_short {w : World} {A : Option Addr} {n c : Nat} {at_ x : Int} (h : n = 0 ∨ 65536 < n) (hn : n ≤ 9223372036854775807) :
    Calls Try.prog 3 #[.slice A n c, .int .i64 at_, .int .u8 x] w fun e w' => e = .returned (.bool true) ∧ Below w.heap.size w w' := by
  have hw := box (wakes_any w)
  rcases h with h | h
  · subst h
    go_enter Try.func3, Try.ntmps3
    go_wp2_with fail
    refine hw.out.mono ?_
    rintro e w1 ⟨rfl, hb⟩
    replace hb := box hb
    go_wp2
    go_ret
    exact ⟨rfl, hb.out⟩
  · have h1 : (65536 : Int) < (n : Int) := by omega
    have h2 : ((n : Int) == 0) = false := by rw [beq_eq_false_iff_ne]; omega
    go_enter Try.func3, Try.ntmps3
    go_wp2_with fail
    refine hw.out.mono ?_
    rintro e w1 ⟨rfl, hb⟩
    replace hb := box hb
    go_wp2
    go_ret
    exact ⟨rfl, hb.out⟩

theorem own8_zero {w : World} {base n c : Nat} {A : Option Addr} {zs : List Int} (h : Own8 w base A (0 + n) c ([] ++ zs)) : Own8 w base A n c zs := by rwa [Nat.zero_add] at h
theorem own8_cell {w : World} {base n c g k : Nat} {zs : List Int} (h : Own8 w base (some ⟨g, 0, none⟩) n c zs) (hk : k < n) : w.cell? ⟨g, k, none⟩ = some (.int .u8 (zs.getD k 0)) := by
  rw [World.ownsRow.cellAt h k (by omega)]
  have := h.1
  rw [u8s_length] at this
  exact u8s_get zs k (by omega)

set_option maxHeartbeats 1000000 in
theorem byte_long {w : World} {A : Option Addr} {n c : Nat} {at_ x : Int} {zs : List Int} (h : Byt w w.heap.size A n zs) (hn0 : 0 < n) (hn1 : n ≤ 65536) (hx : 0 ≤ x ∧ x < 256) :
    Calls Try.prog 3 #[.slice A n c, .int .i64 at_, .int .u8 x] w fun e w' => e = .returned (.bool true) ∧ Below w.heap.size w w' := by
  obtain ⟨b, o, rfl, hb, hc⟩ := h.at_ hn0
  have h2 : ((n : Int) == 0) = false := by rw [beq_eq_false_iff_ne]; omega
  have h3 : (1 : Int) ≤ (n : Int) := by omega
  obtain ⟨t, ht⟩ : ∃ t, at_.tmod (n : Int) = t := ⟨_, rfl⟩
  have ht1 : t < (n : Int) := by rw [← ht]; exact Int.tmod_lt_of_pos _ (by omega)
  have ht2 : -(n : Int) < t := by rw [← ht]; exact Int.lt_tmod_of_pos _ (by omega)
  obtain ⟨k, hk⟩ : ∃ k : Nat, (t + (n : Int)) % (n : Int) = (k : Int) := ⟨((t + (n : Int)) % (n : Int)).toNat, by have := Int.emod_nonneg (t + (n : Int)) (b := (n : Int)) (by omega); omega⟩
  have hk1 : (k : Int) < (n : Int) := by rw [← hk]; exact Int.emod_lt_of_pos _ (by omega)
  have hk0 : (0 : Int) ≤ (k : Int) := by omega
  have hkl : k < zs.length := by rw [h.len]; omega
  have b0 : Below w.heap.size w (w.alloc (.cells #[] 5)) := Below.alloc (Below.refl _ _) (Nat.le_refl _) _
  have OL : Own8 (w.alloc (.cells #[] 5)) w.heap.size (some ⟨w.heap.size, 0, none⟩) 0 0 [] := World.ownsRow_lit w #[] 0 (Nat.le_refl _) (by decide) rfl
  have HS := box (h.grown b0)
  have HB := box h
  have hck := box (hc k (by omega))
  have hset := box (fnv_set (zs := zs) (k := k) (x := x) hkl (h.bs.get k) hx)
  have hxb := box hx
  replace b0 := box b0
  replace OL := box OL
  clear h hc hx
  go_enter Try.func3, Try.ntmps3
  set_option maxRecDepth 8000 in
  go_wp2_with (at_builtin; refine app8 _ (.tmp 27) (.tmp 28) w.heap.size OL.out HS.out.src rfl rfl rfl rfl (by omega) (by simp) ?_; intro A1 c1 w1 O1 b1 s1; obtain ⟨g, cap, hv, hg1, hg2⟩ := O1.form (by omega); cases hv; have O2 := box (own8_zero O1); have b2 := box (b0.out.trans b1); have hcg := own8_cell (k := k) O2.out (by omega); have hfg := World.ownsRow.frozenAt O2.out k; clear O1 b1 s1)
  obtain ⟨W, hW⟩ : ∃ W, W = w1.setCell ⟨g, k, none⟩ (.int .u8 x) := ⟨_, rfl⟩
  rw [← hW]
  have hb3 : Below w.heap.size w W := by rw [hW]; exact b2.out.setCell hg1 _
  have hO3 : Own8 W w.heap.size (some ⟨g, 0, none⟩) n c1 (zs.set k x) := by
    rw [hW]
    have := (World.ownsRow.stored O2.out k (.int .u8 x)).1
    rwa [show (u8s zs).set k (.int .u8 x) = u8s (zs.set k x) by simp [u8s, List.map_set]] at this
  have hby1 : Byt W w.heap.size (some ⟨b, o, none⟩) n zs := HB.out.below hb3
  have hbs2 : Bs (zs.set k x) := fun y hy => by
    rcases List.mem_or_eq_of_mem_set hy with h | h
    · exact HB.out.bs y h
    · rw [h]; exact hxb.out
  have hby2 : Byt W W.heap.size (some ⟨g, 0, none⟩) n (zs.set k x) := Byt.of_own hO3 hbs2
  have hs1 := sum_any (w := W.drew) (c := c) (hby1.keep (w' := W.drew) fun _ _ => by simp) (by omega)
  have hs2 := sum_any (w := W.drew) (c := c1) (hby2.keep (w' := W.drew) fun _ _ => by simp) (by omega)
  have hwk := wakes_any W.drew
  have hcell : W.cell? ⟨b, o + k, none⟩ = some (.int .u8 (zs.getD k 0)) := (hb3.cell (p := ⟨b, o + k, none⟩) hb).trans hck.out
  have hs := hset.out
  clear hset O2 b2 hcg hfg hW hO3 hby1 hby2 hbs2 hck HS HB OL b0 hxb hkl ht hk
  generalize fnv fnv0 zs = v1 at *
  generalize fnv fnv0 (zs.set k x) = v2 at *
  generalize zs.getD k 0 = y at *
  replace hs1 := box hs1
  replace hs2 := box hs2
  replace hwk := box hwk
  replace hb3 := box hb3
  by_cases hyx : y = x
  · obtain rfl : v1 = v2 := hs.2 hyx
    subst hyx
    clear hs
    go_region_held3 (fun W' => W'.cell? ⟨b, o + k, none⟩ = some (.int .u8 y)) (first | go_keep | exact cell_past hb4 hcell)
      (first
        | ((with_reducible refine Calls.mono hs1.out ?_); rintro e w4 ⟨rfl, rfl⟩)
        | ((with_reducible refine Calls.mono hs2.out ?_); rintro e w4 ⟨rfl, rfl⟩)
        | ((with_reducible refine Calls.mono hwk.out ?_); rintro e w4 ⟨rfl, hb4⟩))
    all_goals
      go_wp2
      go_ret
      exact ⟨rfl, hb3.out.trans ((below_undrew hb4).mono hb3.out.size)⟩
  · have hv : (v1 == v2) = false := by rw [beq_eq_false_iff_ne]; exact fun h => hyx (hs.1 h)
    have hy : (y == x) = false := by rw [beq_eq_false_iff_ne]; exact hyx
    clear hs
    go_region_held3 (fun W' => W'.cell? ⟨b, o + k, none⟩ = some (.int .u8 y)) (first | go_keep | exact cell_past hb4 hcell)
      (first
        | ((with_reducible refine Calls.mono hs1.out ?_); rintro e w4 ⟨rfl, rfl⟩)
        | ((with_reducible refine Calls.mono hs2.out ?_); rintro e w4 ⟨rfl, rfl⟩)
        | ((with_reducible refine Calls.mono hwk.out ?_); rintro e w4 ⟨rfl, hb4⟩))
    all_goals
      go_wp2
      go_ret
      exact ⟨rfl, hb3.out.trans ((below_undrew hb4).mono hb3.out.size)⟩
end Go.Proofs.Ytajfamjdfhjdeaa
