/- mantlelaw04.Great, asked with no ops of its own: false tells that all is small. -/
import Derived.Test.YtajfamjdfhjdeaaDuo
import Derived.Deep.LoopGhost
namespace Go.Proofs.Ytajfamjdfhjdeaa
open Go.RowKit
attribute [local go_sem ↓] Go.wp_at_zero Go.wp_at_succ

def MemV.sum (v : MemV) (j : Nat) : Nat := ((v.xs.take j).map (·.l)).sum
/-- How much there is of a file. -/
def MemV.sz (v : MemV) : Nat := v.l + v.xs.length + v.sum v.xs.length
theorem MemV.sum_succ {v : MemV} {j : Nat} {x : OpV} (h : v.xs[j]? = some x) : v.sum (j + 1) = v.sum j + x.l := by
  unfold MemV.sum
  rw [List.take_add_one, h]
  simp
theorem le_sum_of_mem {a : Nat} : ∀ {l : List Nat}, a ∈ l → a ≤ l.sum
  | b :: l, h => by
    rcases List.mem_cons.1 h with rfl | h
    · simp
    · have := le_sum_of_mem h
      simp
      omega
theorem MemV.mem_sz {v : MemV} {x : OpV} (h : x ∈ v.xs) : x.l ≤ v.sz := by
  have : x.l ≤ v.sum v.xs.length := by
    unfold MemV.sum
    rw [List.take_length]
    exact le_sum_of_mem (List.mem_map_of_mem h)
  unfold MemV.sz
  omega
/-- File i of a row of files that begins at (b, o). -/
structure MemAtI (w : World) (B b o i : Nat) (v : MemV) : Prop where
  c0 : w.cell? ⟨b, o + i * 3, none⟩ = some (.slice v.A v.l v.c)
  c1 : w.cell? ⟨b, o + i * 3 + 1, none⟩ = some (.slice v.A2 v.xs.length v.c2)
  mem : MemIn w B v
/-- No length is beyond reach. -/
def MemV.fits (v : MemV) : Prop := v.l ≤ 140737488355328 ∧ v.xs.length ≤ 140737488355328 ∧ ∀ x ∈ v.xs, x.l ≤ 140737488355328

/-- What Great tells: 'false' where all is small. -/
def GreatSays (vs : List MemV) (e : Ending) : Prop := ∃ r : Bool, e = .returned (.bool r) ∧ (r = false → ∀ v ∈ vs, v.sz ≤ 131072)

set_option maxHeartbeats 4000000 in
set_option maxRecDepth 100000 in
theorem great_any {w : World} {b o B c : Nat} {nn : Int} {vs : List MemV} (h : ∀ i v, vs[i]? = some v → MemAtI w B b o i v) (hB : B ≤ w.heap.size) (hb : b < B) (hf : ∀ v ∈ vs, v.fits) (hn : 0 ≤ nn) (hv : vs.length ≤ 1000) :
    Calls Try.prog 15 #[.int .i64 nn, .slice (some ⟨b, o, none⟩) vs.length c, .slice none 0 0] w fun e w' => GreatSays vs e ∧ Below w.heap.size w w' := by
  have hH := box h
  have hF := box hf
  clear h hf
  go_enter Try.func15, Try.ntmps15
  go_wp2
  go_loopg [7, 8] 0 (fun kx s7 s8 wr => s7 = .int .i64 0 ∧ s8 = .int .i64 0 ∧ w = wr)
  case atStart => exact ⟨rfl, rfl, rfl⟩
  case round =>
    obtain ⟨rfl, rfl, rfl⟩ := hrel
    go_wp2
    go_loopg [7, 9] vs.length (fun kx s7 s9 wx => ∃ i kk : Nat, i ≤ vs.length ∧ vs.length - i ≤ kx ∧ s9 = .int .i64 (i : Int) ∧ s7 = .int .i64 (kk : Int) ∧ kk ≤ 562949953421312 ∧ Box (kk ≤ 131072 → ∀ j v, j < i → vs[j]? = some v → v.sz ≤ kk) ∧ Box (Below w.heap.size w wx))
    case atStart => exact ⟨0, 0, Nat.zero_le _, by omega, rfl, rfl, by omega, ⟨fun _ j v hj => absurd hj (Nat.not_lt_zero _)⟩, ⟨Below.refl _ _⟩⟩
    case round =>
      obtain ⟨i, kk, hi, hik, rfl, rfl, hkk, hI, hbr⟩ := hrel
      by_cases hlt : i < vs.length
      · obtain ⟨v, hvi⟩ : ∃ v, vs[i]? = some v := ⟨_, List.getElem?_eq_getElem hlt⟩
        have hm := hH.out i v hvi
        have hvm := List.mem_of_getElem? hvi
        obtain ⟨hf1, hf2, hf3⟩ := hF.out v hvm
        have y0 := (hbr.out.cell (p := ⟨b, o + i * 3, none⟩) (by show b < _; omega)).trans hm.c0
        have y1 := (hbr.out.cell (p := ⟨b, o + i * 3 + 1, none⟩) (by show b < _; omega)).trans hm.c1
        have hops := box hm.mem.ops
        have hvb := hm.mem.cap2
        have hvmx := hm.mem.max2
        have i0' : (0 : Int) ≤ (i : Int) := by omega
        have i1' : (i : Int) < (vs.length : Int) := by omega
        replace hf3 := box hf3
        replace hvi := box hvi
        clear hm hvm
        by_cases hk : kk ≤ 131072
        · have hk' : (kk : Int) ≤ 131072 := by omega
          go_wp2
          go_region
          have hbd : Box (Below w.heap.size w wr.drew) := ⟨(hbr.out).drew⟩
          have hy1 : wr.drew.cell? ⟨b, o + i * 3 + 1, none⟩ = some (.slice v.A2 v.xs.length v.c2) := by simpa using y1
          generalize wr.drew = W at *
          go_wp2
          go_loopg [7, 10] v.xs.length (fun kx s7 s10 wx => ∃ j k2 : Nat, j ≤ v.xs.length ∧ v.xs.length - j ≤ kx ∧ s10 = .int .i64 (j : Int) ∧ s7 = .int .i64 (k2 : Int) ∧ k2 ≤ 562949953421312 ∧ Box (k2 = kk + v.l + v.xs.length + v.sum j) ∧ W = wx)
          case atStart => exact ⟨0, kk + v.l + v.xs.length, Nat.zero_le _, by omega, rfl, by go_num, by omega, ⟨rfl⟩, rfl⟩
          case round =>
            obtain ⟨j, k2, hj, hjk, rfl, rfl, hk2, hJ, rfl⟩ := hrel
            have z1 := hy1
            by_cases hjl : j < v.xs.length
            · obtain ⟨b', o', hA, hb', hx'⟩ := hops.out (by omega)
              obtain ⟨x, hx⟩ : ∃ x, v.xs[j]? = some x := ⟨_, List.getElem?_eq_getElem hjl⟩
              have hxl := hf3.out x (List.mem_of_getElem? hx)
              have z3 := (hbd.out.cell (p := ⟨b', o' + j * 4 + 3, none⟩) (by show b' < _; omega)).trans (hx' j x hx).c3
              have hsn := MemV.sum_succ hx
              rw [hA] at z1
              have j0' : (0 : Int) ≤ (j : Int) := by omega
              have j1' : (j : Int) < (v.xs.length : Int) := by omega
              replace hsn := box hsn
              clear hx' hx
              by_cases hk3 : k2 ≤ 131072
              · have hk3' : (k2 : Int) ≤ 131072 := by omega
                go_wp2
                go_roundg (v.xs.length - (j + 1))
                case measure => omega
                case rel => exact ⟨j + 1, k2 + x.l, by omega, Nat.le_refl _, by go_num, by go_num, by omega, ⟨by rw [hsn.out, hJ.out]; omega⟩, rfl⟩
              · have hk3' : ¬ (k2 : Int) ≤ 131072 := by omega
                go_wp2
                go_roundg (vs.length - (i + 1))
                case measure => omega
                case rel => exact ⟨i + 1, k2, by omega, Nat.le_refl _, by go_num, rfl, hk2, ⟨fun h => absurd h hk3⟩, hbd⟩
            · obtain rfl : j = v.xs.length := by omega
              go_wp2
              go_roundg (vs.length - (i + 1))
              case measure => omega
              case rel =>
                refine ⟨i + 1, k2, by omega, Nat.le_refl _, by go_num, rfl, hk2, ⟨fun h j' v' hj' hv' => ?_⟩, hbd⟩
                have e1 : k2 = kk + v.sz := by rw [hJ.out]; unfold MemV.sz; omega
                by_cases he : j' = i
                · subst he
                  rw [hvi.out] at hv'
                  cases hv'
                  omega
                · have := hI.out hk j' v' (by omega) hv'
                  omega
        · have hk' : ¬ (kk : Int) ≤ 131072 := by omega
          have hk2 : (131072 : Int) < (kk : Int) := by omega
          go_wp2
          go_ret
          exact ⟨⟨true, rfl, fun h => (by cases h)⟩, hbr.out⟩
      · obtain rfl : i = vs.length := by omega
        go_wp2
        go_ret
        refine ⟨⟨decide (131072 < (kk : Int)), rfl, fun h v hv => ?_⟩, hbr.out⟩
        have h1 := of_decide_eq_false h
        obtain ⟨j, hj⟩ := List.mem_iff_getElem?.1 hv
        have h2 := hI.out (by omega) j v (List.getElem?_eq_some_iff.1 hj).1 hj
        omega
end Go.Proofs.Ytajfamjdfhjdeaa
