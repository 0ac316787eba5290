/- sums.Sum, eight. -/
import Derived.Test.YtajfamjdfhjdeaaMem
import Derived.Test.YtajfamjdfhjdeaaFnvL
namespace Go.Proofs.Ytajfamjdfhjdeaa
open Go.RowKit

theorem sum_any {w : World} {A : Option Addr} {n c B : Nat} {zs : List Int} (h : Byt w B A n zs) (hn : n ≤ 4294967296) :
    Calls Try.prog 10 #[.slice A n c] w fun e w' => e = .returned (.int .u64 (fnv fnv0 zs)) ∧ w' = w := by
  have HS := box h
  have hl := box h.len
  clear h
  go_enter Try.func10, Try.ntmps10
  go_wp2
  go_loop [3, 8] (fun s i => ∃ k : Nat, k ≤ n ∧ i = .int .i64 (k : Int) ∧ s = .int .u64 (fnv fnv0 (zs.take k))) (fun _ i => n - (intOf i).toNat)
  case atStart => exact ⟨0, Nat.zero_le _, rfl, rfl⟩
  case round =>
    obtain ⟨k, hk, rfl, rfl⟩ := hrel
    by_cases hlt : k < n
    · obtain ⟨b, o, rfl, hb, hc⟩ := HS.out.at_ (by omega)
      have hck := hc k hlt
      have hx := HS.out.bs.get k
      have hsn : Box (fnv fnv0 (zs.take (k + 1)) = fnvStep (fnv fnv0 (zs.take k)) (zs.getD k 0)) := ⟨by
        rw [← fnv_snoc]
        have hkl : k < zs.length := by rw [hl.out]; exact hlt
        have e : zs.getD k 0 = zs[k] := by simp [List.getD, hkl]
        rw [e, List.take_succ_eq_append_getElem hkl]⟩
      clear hc
      generalize fnv fnv0 (zs.take k) = s at *
      generalize zs.getD k 0 = x at *
      go_wp2
      go_round
      case rel => exact ⟨k + 1, by omega, by go_num, by rw [hsn.out]; rfl⟩
      case measure => simp [intOf]; omega
    · go_wp2
      go_ret
      exact ⟨ret_int (by rw [List.take_of_length_le (by rw [hl.out]; omega)]), rfl⟩

/-- The eight bytes of a sum. -/
def eightOf (s : Int) : List Int := (List.range 8).map fun (i : Nat) => s / 2 ^ (8 * i) % 256
theorem eightOf_len (s : Int) : (eightOf s).length = 8 := by simp [eightOf]
theorem eightOf_bs (s : Int) : Bs (eightOf s) := by
  intro x hx
  simp only [eightOf, List.mem_map] at hx
  obtain ⟨i, _, rfl⟩ := hx
  exact ⟨Int.emod_nonneg _ (by decide), Int.emod_lt_of_pos _ (by decide)⟩
/-- The first k of them, the rest 0. -/
def eightTo (s : Int) (k : Nat) : List Int := (eightOf s).take k ++ List.replicate (8 - k) 0
theorem eightTo_len (s : Int) (k : Nat) (h : k ≤ 8) : (eightTo s k).length = 8 := by simp [eightTo, eightOf_len]; omega
theorem eightTo_next (s : Int) (k : Nat) (h : k < 8) : (eightTo s k).set k (s / 2 ^ (8 * k) % 256) = eightTo s (k + 1) := by
  unfold eightTo
  have hl : ((eightOf s).take k).length = k := by rw [List.length_take, eightOf_len]; omega
  have e : (eightOf s).take (k + 1) = (eightOf s).take k ++ [s / 2 ^ (8 * k) % 256] := by
    rw [List.take_succ_eq_append_getElem (by rw [eightOf_len]; exact h)]
    congr 2
    simp [eightOf]
  rw [e, List.set_append_right _ _ (by omega), hl, Nat.sub_self, show 8 - k = (8 - (k + 1)) + 1 by omega, List.replicate_succ, List.set_cons_zero, List.append_assoc]
  rfl

set_option maxHeartbeats 1000000 in
theorem eight_any {w : World} {A : Option Addr} {n c B : Nat} {zs : List Int} (h : Byt w B A n zs) (hn : n ≤ 4294967296) :
    Calls Try.prog 33 #[.slice A n c] w fun e w' => e = .returned (.slice (some ⟨w.heap.size, 0, none⟩) 8 8) ∧ w'.heap[w.heap.size]? = some (.cells (u8s (eightOf (fnv fnv0 zs))).toArray 5) ∧ Below w.heap.size w w' := by
  have hs := box (sum_any (c := c) h hn)
  have hbd := fnv_bd zs fnv0 (by decide)
  generalize fnv fnv0 zs = s at *
  obtain ⟨i0, hi0, hz⟩ := Option.map_eq_some_iff.1 u8_info
  simp only [Prod.mk.injEq] at hz
  have hmk : ∀ W, (Instr.makeSlice 22 (.int .i64 8) (.int .i64 8)).run Try.prog W = .ok (.slice (some ⟨W.heap.size, 0, none⟩) 8 8) (W.alloc (.cells (u8s (eightTo s 0)).toArray 5)) := fun W =>
    run_make_bytes (P := Try.prog) (t := 22) (e := 5) Try.underlying22 hi0 hz.1 hz.2.1 hz.2.2 .i64 .i64 8 (by omega) W
  have hrow0 : (w.alloc (.cells (u8s (eightTo s 0)).toArray 5)).heap[w.heap.size]? = some (.cells (u8s (eightTo s 0)).toArray 5) := heap_alloc_new _ _
  have hb0 := Below.alloc (Below.refl w.heap.size w) (Nat.le_refl _) (.cells (u8s (eightTo s 0)).toArray 5)
  replace hrow0 := box hrow0
  replace hb0 := box hb0
  clear hz hi0 h
  go_enter Try.func33, Try.ntmps33
  go_wp2_with fail
  refine hs.out.mono ?_
  rintro e w' ⟨rfl, rfl⟩
  go_wp2
  clear hmk
  go_loopw [11] (fun i wr => ∃ k : Nat, k ≤ 8 ∧ i = .int .i64 (k : Int) ∧ Box (wr.heap[w'.heap.size]? = some (.cells (u8s (eightTo s k)).toArray 5) ∧ Below w'.heap.size w' wr)) (fun i _ => 8 - (intOf i).toNat)
  case atStart => exact ⟨0, Nat.zero_le _, rfl, ⟨hrow0.out, hb0.out⟩⟩
  case round =>
    obtain ⟨k, hk, rfl, hR⟩ := hrel
    by_cases hlt : k < 8
    · have hck : wr.cell? ⟨w'.heap.size, k, none⟩ = some (.int .u8 ((eightTo s k).getD k 0)) := by
        refine cell_of_heap hR.out.1 ?_
        have := u8s_get (eightTo s k) k (by rw [eightTo_len s k hk]; exact hlt)
        simpa using this
      have hfr : wr.frozen? ⟨w'.heap.size, k, none⟩ = false := frozen_of_heap hR.out.1
      generalize (eightTo s k).getD k 0 = old at *
      have hk8 : (k : Int) < 8 := by omega
      have hk0 : (0 : Int) ≤ (k : Int) := by omega
      go_wp2
      go_roundw
      case measure => simp [intOf]; omega
      case rel =>
        refine ⟨k + 1, by omega, by go_num, ⟨?_, hR.out.2.setCell (Nat.le_refl _) _⟩⟩
        rw [block_set hR.out.1, ← eightTo_next s k hlt]
        congr 2
        simp [u8s, List.map_set]
    · obtain rfl : k = 8 := by omega
      go_wp2
      go_ret
      refine ⟨rfl, ?_, hR.out.2⟩
      rw [hR.out.1]
      have : eightTo s 8 = eightOf s := by
        unfold eightTo
        rw [List.take_of_length_le (by rw [eightOf_len]; exact Nat.le_refl _), Nat.sub_self]
        exact List.append_nil _
      rw [this]
end Go.Proofs.Ytajfamjdfhjdeaa
