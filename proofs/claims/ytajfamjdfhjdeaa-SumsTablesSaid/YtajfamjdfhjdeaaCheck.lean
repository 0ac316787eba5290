/- (*sums.summed).Size, check (where the table is wrong), ReadAt (behind the end; where the first block is wrong). -/
import Derived.Test.YtajfamjdfhjdeaaSum
import Derived.Test.YtajfamjdfhjdeaaEq
import Derived.Test.YtajfamjdfhjdeaaWay
namespace Go.Proofs.Ytajfamjdfhjdeaa
open Go.RowKit

/-- A file with a table, at block b. -/
def SumAt (w : World) (b Hf Ht : Nat) : Prop := w.heap[b]? = some (.cells #[.pointer (some ⟨Hf, 0, none⟩), .pointer (some ⟨Ht, 0, none⟩)] 79)

theorem sumSize_any {w : World} {b Hf Ht mf : Nat} {szf : Int} {rdf : Int → Int → Int × List Int} (hs : SumAt w b Hf Ht) (hf : Open w Hf mf szf rdf) :
    Calls Try.prog 106 #[.pointer (some ⟨b, 0, none⟩)] w fun e w' => e = .returned (.int .i64 szf) ∧ Below w.heap.size w w' := by
  have c0 : w.cell? ⟨b, 0, none⟩ = some (.pointer (some ⟨Hf, 0, none⟩)) := cell_of_heap hs rfl
  obtain ⟨P, pt, T, v, S, R, hw, hF⟩ := hf.way
  obtain ⟨l0, q1, q2, q3, q4, q5, q6⟩ := hw
  replace hF := box (hF w (Below.refl _ _))
  replace q5 := box (q5 w (Below.refl _ _))
  clear q2 q4 q6 hs hf
  go_enter Try.func106, Try.ntmps106
  go_wp2_with fail
  refine hF.out.mono ?_
  rintro e w' ⟨rfl, rfl⟩
  go_wp2_with fail
  refine q5.out.mono ?_
  rintro e w1 ⟨rfl, hb⟩
  replace hb := box hb
  clear q1 q3 l0
  go_wp2
  go_ret
  exact ⟨rfl, hb.out⟩

set_option maxHeartbeats 1000000 in
theorem check_bad {w : World} {b Hf Ht mf mt : Nat} {szf szt : Int} {rdf rdt : Int → Int → Int × List Int} {xs ys : List Int} (hs : SumAt w b Hf Ht) (hf : Open w Hf mf szf rdf) (ht : Open w Ht mt szt rdt)
    (h1 : rdf 0 64 = (0, xs)) (h2 : rdt 0 8 = (0, ys)) (h3 : ys ≠ eightOf (fnv fnv0 xs)) :
    Calls Try.prog 109 #[.pointer (some ⟨b, 0, none⟩), .int .i64 0] w fun e w' => e = .returned (.tuple #[.slice none 0 0, .int .i64 100]) ∧ Below w.heap.size w w' := by
  have c0 : w.cell? ⟨b, 0, none⟩ = some (.pointer (some ⟨Hf, 0, none⟩)) := cell_of_heap hs rfl
  have c1 : w.cell? ⟨b, 1, none⟩ = some (.pointer (some ⟨Ht, 0, none⟩)) := cell_of_heap hs rfl
  obtain ⟨P, pt, T, v, S, R, hw, hF⟩ := hf.way
  obtain ⟨P2, pt2, T2, v2, S2, R2, hw2, hF2⟩ := ht.way
  obtain ⟨l0, _, q2, _, q4, _, q6⟩ := hw
  obtain ⟨l1, _, r2, _, r4, _, r6⟩ := hw2
  replace hF := box (hF w (Below.refl _ _))
  replace hF2 := box hF2
  replace q6 := box (q6 w 0 64 _ _ h1 (Below.refl _ _))
  replace r6 := box (fun W => r6 W 0 8 _ _ h2)
  replace h3 := box h3
  have hd : decide (ys = eightOf (fnv fnv0 xs)) = false := by simpa using h3.out
  replace hd := box hd
  clear hs hf ht
  go_enter Try.func109, Try.ntmps109
  go_wp2_with fail
  refine hF.out.mono ?_
  rintro e w' ⟨rfl, rfl⟩
  go_wp2_with fail
  refine q6.out.mono ?_
  rintro e w1 ⟨A, k, c, rfl, hB, hk1, hk2, hk3, hb⟩
  have c1' := cell_past hb.out c1
  have l1' := cell_past hb.out l1
  clear c0 c1 l0 l1 q2 q4
  go_wp2_with fail
  refine (hF2.out _ hb.out).mono ?_
  rintro e w2 ⟨rfl, rfl⟩
  go_wp2_with fail
  refine (r6.out _ hb.out).mono ?_
  rintro e w3 ⟨A3, k3, c3, rfl, hB3, hk4, hk5, hk6, hb3⟩
  clear c1' l1' r2 r4
  go_wp2_with fail
  refine (eight_any (hB.out.grown hb3.out) (by omega)).mono ?_
  rintro e w4 ⟨rfl, h8, hb4⟩
  replace hb4 := box hb4
  have hB8 := box (Byt.of_cells (eightOf_len (fnv fnv0 xs)) (eightOf_bs _) (lt_of_heap h8) (fun j hj => cell_of_heap h8 (by
    have := u8s_get (eightOf (fnv fnv0 xs)) j (by rw [eightOf_len]; exact hj)
    rw [Nat.zero_add]
    simpa using this)))
  replace h8 := box h8
  go_wp2_with fail
  refine (equal_any _ _ _ _ _ _ _ _ _ _ _ (hB3.out.grown hb4.out) hB8.out).mono ?_
  rintro e w5 ⟨rfl, rfl⟩
  rw [hd.out]
  go_wp2
  go_ret2
  exact ⟨rfl, grown_trans (grown_trans hb.out hb3.out) hb4.out⟩
end Go.Proofs.Ytajfamjdfhjdeaa
