/- (*sums.summed).ReadAt on two ways; sums.Table. -/
import Derived.Test.YtajfamjdfhjdeaaCheck
namespace Go.Proofs.Ytajfamjdfhjdeaa
open Go.RowKit

set_option maxHeartbeats 1000000 in
theorem sumRead_far {w : World} {b Hf Ht mf : Nat} {szf at_ n : Int} {rdf : Int → Int → Int × List Int} (hs : SumAt w b Hf Ht) (hf : Open w Hf mf szf rdf) (h0 : 0 ≤ at_) (h1 : 0 ≤ n) (h2 : n ≤ 65536) (h3 : szf ≤ at_) :
    Calls Try.prog 105 #[.pointer (some ⟨b, 0, none⟩), .int .i64 at_, .int .i64 n] w fun e w' => e = .returned (.tuple #[.slice none 0 0, .int .i64 0]) ∧ Below w.heap.size w w' := by
  have hsz := box (sumSize_any hs hf)
  clear hs hf
  go_enter Try.func105, Try.ntmps105
  go_wp2_with fail
  refine hsz.out.mono ?_
  rintro e w1 ⟨rfl, hb⟩
  replace hb := box hb
  go_wp2
  go_ret2
  exact ⟨rfl, hb.out⟩

set_option maxHeartbeats 1000000 in
theorem sumRead_bad {w : World} {b Hf Ht mf mt : Nat} {szf szt : Int} {rdf rdt : Int → Int → Int × List Int} {xs ys : List Int} (hs : SumAt w b Hf Ht) (hf : Open w Hf mf szf rdf) (ht : Open w Ht mt szt rdt)
    (h0 : 0 < szf) (h00 : szf ≤ 1073741824) (h1 : rdf 0 64 = (0, xs)) (h2 : rdt 0 8 = (0, ys)) (h3 : ys ≠ eightOf (fnv fnv0 xs)) :
    Calls Try.prog 105 #[.pointer (some ⟨b, 0, none⟩), .int .i64 0, .int .i64 1] w fun e w' => e = .returned (.tuple #[.slice none 0 0, .int .i64 100]) ∧ Below w.heap.size w w' := by
  have hsz := box (sumSize_any hs hf)
  have hck := box (fun W (hW : Below w.heap.size w W) => check_bad (w := W) ((hW.block b (lt_of_heap hs)).trans hs) (hf.grown hW) (ht.grown hW) h1 h2 h3)
  have hmin : min (1 : Int) szf = 1 := by omega
  clear hs hf ht h1 h2 h3
  go_enter Try.func105, Try.ntmps105
  go_wp2_with fail
  refine hsz.out.mono ?_
  rintro e w1 ⟨rfl, hb⟩
  replace hb := box hb
  go_wp2
  go_loopg [12] 0 (fun kx i wr => i = .int .i64 0 ∧ wr = w1)
  case atStart => exact ⟨rfl, rfl⟩
  case round =>
    obtain ⟨rfl, rfl⟩ := hrel
    go_wp2_with fail
    refine (hck.out _ hb.out).mono ?_
    rintro e w2 ⟨rfl, hb2⟩
    replace hb2 := box hb2
    go_wp2
    go_ret2
    exact ⟨rfl, grown_trans hb.out hb2.out⟩

theorem own8_grown {w w' : World} {base : Nat} {A : Option Addr} {n c : Nat} {zs : List Int} (h : Own8 w base A n c zs) (hb : Below w.heap.size w w') : Own8 w' base A n c zs :=
  h.kept (row := none) ⟨hb.os, hb.tape, hb.output, hb.size, fun k hk _ => hb.block k hk⟩ (by cases (Value.slice A n c).ownBlock <;> simp)
/-- The table of the first k blocks. -/
def tabTo (rd : Int → Int → Int × List Int) (k : Nat) : List Int := (List.range k).flatMap fun (j : Nat) => eightOf (fnv fnv0 (rd (64 * (j : Int)) 64).2)
theorem tabTo_succ (rd : Int → Int → Int × List Int) (k : Nat) : tabTo rd (k + 1) = tabTo rd k ++ eightOf (fnv fnv0 (rd (64 * (k : Int)) 64).2) := by
  simp [tabTo, List.range_succ]
theorem tabTo_bs (rd : Int → Int → Int × List Int) : ∀ k, Bs (tabTo rd k)
  | 0 => Bs.nil
  | k + 1 => by rw [tabTo_succ]; exact (tabTo_bs rd k).app (eightOf_bs _)

theorem table_long {w : World} {H m : Nat} {sz : Int} {rd : Int → Int → Int × List Int} (hf : Open w H m sz rd) (hsz : 4194304 < sz) :
    Calls Try.prog 12 #[.pointer (some ⟨H, 0, none⟩)] w fun e w' => e = .returned (.tuple #[.slice none 0 0, .int .i64 3]) ∧ Below w.heap.size w w' := by
  obtain ⟨P, pt, T, v, S, R, hw, hF⟩ := hf.way
  obtain ⟨l0, q1, q2, q3, q4, q5, q6⟩ := hw
  replace hF := box (hF w (Below.refl _ _))
  replace q5 := box (q5 w (Below.refl _ _))
  clear q2 q4 q6 hf
  go_enter Try.func12, Try.ntmps12
  go_wp2_with fail
  refine hF.out.mono ?_
  rintro e w' ⟨rfl, rfl⟩
  go_wp2_with fail
  refine q5.out.mono ?_
  rintro e w1 ⟨rfl, hb⟩
  replace hb := box hb
  clear q1 q3 l0
  go_wp2
  go_ret2
  exact ⟨rfl, hb.out⟩

set_option maxHeartbeats 1000000 in
theorem table_any {w : World} {H m : Nat} {sz : Int} {rd : Int → Int → Int × List Int} (hf : Open w H m sz rd) (hsz : sz ≤ 4194304) (nb : Nat) (h1 : sz ≤ 64 * (nb : Int)) (h2 : ∀ k : Nat, k < nb → 64 * (k : Int) < sz ∧ (rd (64 * (k : Int)) 64).1 = 0) :
    Calls Try.prog 12 #[.pointer (some ⟨H, 0, none⟩)] w fun e w' => ∃ A c, e = .returned (.tuple #[.slice A (8 * nb) c, .int .i64 0]) ∧ Own8 w' w.heap.size A (8 * nb) c (tabTo rd nb) ∧ Below w.heap.size w w' := by
  obtain ⟨P, pt, T, v, S, R, hw, hF⟩ := hf.way
  obtain ⟨l0, q1, q2, q3, q4, q5, q6⟩ := hw
  replace hF := box (hF w (Below.refl _ _))
  replace q5 := box (q5 w (Below.refl _ _))
  replace q6 := box q6
  replace h2 := box h2
  have hnb : nb = 0 ∨ 64 * ((nb - 1 : Nat) : Int) < sz := by
    rcases Nat.eq_zero_or_pos nb with h | h
    · exact .inl h
    · exact .inr (h2.out (nb - 1) (by omega)).1
  have hnb2 : nb ≤ 65536 := by omega
  clear hf hnb
  go_enter Try.func12, Try.ntmps12
  go_wp2_with fail
  refine hF.out.mono ?_
  rintro e w' ⟨rfl, rfl⟩
  go_wp2_with fail
  refine q5.out.mono ?_
  rintro e w1 ⟨rfl, hb⟩
  replace hb := box hb
  clear q1 q3
  have hl1 := cell_past hb.out l0
  go_wp2
  go_loopw [6, 7] (fun s6 s7 wr => ∃ (k : Nat) (A : Option Addr) (c : Nat), k ≤ nb ∧ s7 = .int .i64 (64 * (k : Int)) ∧ s6 = .slice A (8 * k) c ∧ Box (Own8 wr w'.heap.size A (8 * k) c (tabTo rd k)) ∧ Box (Below w'.heap.size w' wr)) (fun _ s7 _ => (sz - intOf s7).toNat)
  case atStart => exact ⟨0, none, 0, Nat.zero_le _, rfl, rfl, ⟨Own8.nil _ _⟩, hb⟩
  case round =>
    obtain ⟨k, A, c, hk, rfl, rfl, hO, hbr⟩ := hrel
    clear hl1
    by_cases hlt : k < nb
    · obtain ⟨g1, g2⟩ := h2.out k hlt
      have hlr := cell_past hbr.out l0
      have hr := box (fun W => q6.out W (64 * (k : Int)) 64 0 (rd (64 * (k : Int)) 64).2 (Prod.ext g2 rfl))
      have hsuc := box (tabTo_succ rd k)
      clear g2 l0
      generalize (rd (64 * (k : Int)) 64).2 = xs at *
      go_wp2_with fail
      refine (hr.out _ hbr.out).mono ?_
      rintro e w2 ⟨A2, k2, c2, rfl, hB2, hk2, hk3, hk4, hb2⟩
      clear hlr q2 q4
      go_wp2_with fail
      refine (eight_any hB2.out (by omega)).mono ?_
      rintro e w3 ⟨rfl, h8, hb3⟩
      replace hb3 := box hb3
      have hB8 := box (Byt.of_cells (eightOf_len (fnv fnv0 xs)) (eightOf_bs _) (lt_of_heap h8) (fun j hj => cell_of_heap h8 (by
        have := u8s_get (eightOf (fnv fnv0 xs)) j (by rw [eightOf_len]; exact hj)
        rw [Nat.zero_add]
        simpa using this)))
      replace h8 := box h8
      have hO3 := box (own8_grown (own8_grown hO.out hb2.out) hb3.out)
      have hbase : w'.heap.size ≤ w3.heap.size := by have := hbr.out.size; have := hb2.out.size; have := hb3.out.size; omega
      have hb8 := box (hB8.out.src)
      have hall := box ((hbr.out.trans (hb2.out.mono hbr.out.size)).trans (hb3.out.mono (by have := hbr.out.size; have := hb2.out.size; omega)))
      clear hB2 hB8 hbr hb2 hb3 h8 hO
      go_wp2_with (at_builtin; refine app8 w3 (.tmp 32) (.tmp 34) w'.heap.size hO3.out hb8.out rfl rfl rfl rfl (by omega) hbase ?_; intro A4 c4 w4 O4 b4 s4)
      rw [← hsuc.out, show 8 * k + 8 = 8 * (k + 1) by omega] at O4
      go_roundw
      case measure => simp [intOf]; omega
      case rel => exact ⟨k + 1, A4, c4, by omega, by go_num, by rw [show 8 * (k + 1) = 8 * k + 8 by omega], ⟨O4⟩, ⟨hall.out.trans b4⟩⟩
    · obtain rfl : k = nb := by omega
      have h5 : ¬ 64 * (k : Int) < sz := by omega
      go_wp2
      go_ret2
      exact ⟨A, c, rfl, hO.out, hbr.out⟩
end Go.Proofs.Ytajfamjdfhjdeaa
