/- pack's own file: Size, ReadAt. -/
import Derived.Test.YtfhibpgmmffgjaaAll
import Derived.Test.YtfhibpgmmffgjaaCopy8
namespace Go.Proofs.Ytfhibpgmmffgjaa
open Go.RowKit

/-- As copy8, the source of pack's own type. -/
theorem copyP (w : World) {ops : Array Oper} {rest : List Oper} {o : Oper} {a : Act} {Q : Exit → Act → World → Prop} (d s : Operand) (dp sp : Option Addr) (dLen dCap sLen sCap g off : Nat) (cur cs : List Value) (t : TypeId) (fr : Nat × Nat) (hgd : o.guard = none)
    (ho : o.op = .call { callee := .builtin .copy, args := #[d, s], argTypes := #[22, 64] })
    (hd : a.eval d = .slice dp dLen dCap) (hs : a.eval s = .slice sp sLen sCap) (hfr : fr = (0, 0))
    (hg : w.heap[g]? = some (.cells cur.toArray t fr)) (hn : cs.length = Nat.min sLen dLen)
    (hpos : 0 < cs.length → dp = some ⟨g, off, none⟩ ∧ ∃ ad, sp = some ad ∧ ∀ j v, cs[j]? = some v → w.cell? (ad.add j) = some v)
    (hfit : off + cs.length ≤ cur.length) (h1 : ∀ v ∈ cs, v.oneCell' = true)
    (h : ∀ w', Box (w'.heap[g]? = some (.cells (splice cur off cs).toArray t (0, 0))) → Box (Chg (fun k => k = g) w w') → wpList Try.prog ops Q rest (a.put o.dst (goInt cs.length)) w') : wpList Try.prog ops Q (o :: rest) a w := by
  subst hfr
  by_cases h0 : cs.length = 0
  · obtain rfl : cs = [] := List.eq_nil_of_length_eq_zero h0
    refine wpList_copy_nothing hgd d s 22 64 ho 5 Try.underlying22 u8_size dp sp dLen dCap sLen sCap hd hs (by simpa using hn.symm) ?_
    exact h w ⟨by simpa [splice] using hg⟩ ⟨Chg.refl _ _⟩
  · obtain ⟨rfl, ad, rfl, hsrc⟩ := hpos (by omega)
    refine wpList_copy_own hgd d s 22 64 ho 5 Try.underlying22 u8_size g off dLen dCap ad sLen sCap hd hs cur.toArray t hg cs hn hsrc (by simpa using hfit) h1 ?_
    exact h _ ⟨by simpa [splice] using setRow_heap w g _ _ t _ hg⟩ ⟨chg_setRow w g _⟩

theorem fileSize_any (A : Option Addr) (n c : Nat) (w : World) :
    Calls Try.prog 72 #[.slice A n c] w fun e w' => e = .returned (.int .i64 (n : Int)) ∧ w' = w := by
  go_enter Try.func72, Try.ntmps72
  go_wp2
  go_ret
  exact ⟨rfl, rfl⟩

theorem splice_all (L X : List Value) (h : X.length = L.length) : splice L 0 X = X := by
  unfold splice
  rw [Nat.zero_add, List.drop_of_length_le (by omega)]
  simp
theorem src_in {w : World} {b o f cnt n B : Nat} {pz : List Int} (h : Byt w B (some ⟨b, o, none⟩) n pz) (hf : f + cnt ≤ n) (hc : 0 < cnt) :
    ∀ j v, (u8s ((pz.drop f).take cnt))[j]? = some v → w.cell? ((⟨b, o + f, none⟩ : Addr).add j) = some v := by
  obtain ⟨b', o', e, _, hc'⟩ := h.at_ (by omega)
  cases e
  exact src_at hc' h.len hf

set_option maxHeartbeats 1000000 in
theorem fileRead_any {w : World} {A : Option Addr} {n c : Nat} {zs : List Int} {at_ k : Int} (h : Byt w w.heap.size A n zs) (hc : n ≤ c) (_ : c ≤ 9223372036854775807) (hn : n ≤ 1073741824) :
    Calls Try.prog 71 #[.slice A n c, .int .i64 at_, .int .i64 k] w fun e w' =>
      ∃ A' k' c', e = .returned (.tuple #[.slice A' k' c', .int .i64 (plainRd zs at_ k).1]) ∧ Byt w' w'.heap.size A' k' (plainRd zs at_ k).2 ∧ k' ≤ c' ∧ c' ≤ 9223372036854775807 ∧ k' ≤ 65536 ∧ Below w.heap.size w w' := by
  unfold plainRd
  by_cases h1 : at_ < 0 ∨ k < 0
  · rw [if_pos h1]
    clear h
    by_cases h2 : at_ < 0
    · go_enter Try.func71, Try.ntmps71
      go_wp2
      go_ret2
      exact ⟨none, 0, 0, rfl, Byt.none_, Nat.le_refl _, by omega, by omega, Below.refl _ _⟩
    · have h3 : k < 0 := by omega
      clear h1
      go_enter Try.func71, Try.ntmps71
      go_wp2
      go_ret2
      exact ⟨none, 0, 0, rfl, Byt.none_, Nat.le_refl _, by omega, by omega, Below.refl _ _⟩
  · rw [if_neg h1]
    have a0 : 0 ≤ at_ := by omega
    have a1 : 0 ≤ k := by omega
    clear h1
    by_cases h2 : 65536 < k
    · rw [if_pos h2]
      clear h
      go_enter Try.func71, Try.ntmps71
      go_wp2
      go_ret2
      exact ⟨none, 0, 0, rfl, Byt.none_, Nat.le_refl _, by omega, by omega, Below.refl _ _⟩
    · rw [if_neg h2]
      obtain ⟨q, hq⟩ : ∃ q : Nat, min at_ (n : Int) = (q : Int) := ⟨(min at_ (n : Int)).toNat, by omega⟩
      obtain ⟨m, hm⟩ : ∃ m : Nat, min k ((n : Int) - (q : Int)) = (m : Int) := ⟨(min k ((n : Int) - (q : Int))).toNat, by omega⟩
      have hl := h.len
      have hq1 : q ≤ n := by omega
      have hm1 : q + m ≤ n := by omega
      have hm2 : m ≤ 65536 := by omega
      have hlist : (zs.drop at_.toNat).take k.toNat = (zs.drop q).take m := by
        apply List.ext_getElem?
        intro i
        rw [List.getElem?_take, List.getElem?_take, List.getElem?_drop, List.getElem?_drop]
        by_cases hi : at_ + i < n ∧ i < k
        · rw [if_pos (by omega), if_pos (by omega), show at_.toNat = q by omega]
        · have e1 : (if i < k.toNat then zs[at_.toNat + i]? else none) = none := by
            split
            · exact List.getElem?_eq_none (by omega)
            · rfl
          rw [e1]
          split
          · exact (List.getElem?_eq_none (by omega)).symm
          · rfl
      rw [hlist]
      obtain ⟨i0, hi0, hz⟩ := Option.map_eq_some_iff.1 u8_info
      simp only [Prod.mk.injEq] at hz
      have hmk := fun W => run_make_bytes (P := Try.prog) (t := 22) (e := 5) Try.underlying22 hi0 hz.1 hz.2.1 hz.2.2 .i64 .i64 m (by omega) W
      have hrow := box (heap_alloc_new w (.cells (u8s (List.replicate m 0)).toArray 5))
      have hb0 := box (Below.alloc (Below.refl w.heap.size w) (Nat.le_refl _) (.cells (u8s (List.replicate m 0)).toArray 5))
      have hX : (u8s ((zs.drop q).take m)).length = m := by rw [u8s_length, List.length_take, List.length_drop]; omega
      have hH := box h
      have hfs := box (fun W => fileSize_any A n c W)
      have c0 : (n : Int) ≤ (c : Int) := by omega
      have q0 : (0 : Int) ≤ (q : Int) := by omega
      have q1 : (q : Int) ≤ (n : Int) := by omega
      have q2 : (n : Int) - (q : Int) ≤ 9223372036854775807 := by omega
      replace hX := box hX
      replace hl := box hl
      clear hz hi0 h hlist
      by_cases hm0 : 0 < m
      · obtain ⟨b, o, rfl, hbl, -⟩ := hH.out.at_ (by omega)
        have hsrc := box (src_in (hH.out.below hb0.out) hm1 hm0)
        have v2 : ¬ (c = q) := by omega
        go_enter Try.func71, Try.ntmps71
        go_wp2_with fail
        refine (hfs.out _).mono ?_
        rintro e w' ⟨rfl, rfl⟩
        go_wp2_with fail
        refine (hfs.out _).mono ?_
        rintro e w' ⟨rfl, rfl⟩
        go_wp2_with (refine copyP _ (.tmp 30) (.tmp 33) _ (some ⟨b, o + q, none⟩) m m (n - q) (c - q) _ 0 (u8s (List.replicate m 0)) (u8s ((zs.drop q).take m)) 5 (0, 0) rfl rfl rfl rfl rfl hrow.out (by rw [hX.out]; show m = min _ _; omega) (fun _ => ⟨rfl, _, rfl, hsrc.out⟩) (by rw [hX.out, u8s_length, List.length_replicate]; omega) (u8s_one _) ?_; intro wc HG HC)
        go_ret2
        have hg := HG.out
        rw [splice_all _ _ (by rw [hX.out, u8s_length, List.length_replicate])] at hg
        refine ⟨_, m, m, rfl, ?_, Nat.le_refl _, by omega, hm2, laid_below hb0.out HC.out⟩
        exact Byt.of_cells (by have := hX.out; rwa [u8s_length] at this) ((hH.out.bs.drop q).take m) (lt_of_heap hg) fun j hj => by
          rw [Nat.zero_add]
          refine cell_of_heap hg ?_
          have := u8s_get ((zs.drop q).take m) j (by have := hX.out; rw [u8s_length] at this; omega)
          simpa using this
      · go_enter Try.func71, Try.ntmps71
        go_wp2_with fail
        refine (hfs.out _).mono ?_
        rintro e w' ⟨rfl, rfl⟩
        go_wp2_with fail
        refine (hfs.out _).mono ?_
        rintro e w' ⟨rfl, rfl⟩
        go_wp2_with (refine copyP _ (.tmp 30) (.tmp 33) _ _ m m (n - q) (c - q) _ 0 (u8s (List.replicate m 0)) (u8s ((zs.drop q).take m)) 5 (0, 0) rfl rfl rfl rfl rfl hrow.out (by rw [hX.out]; show m = min _ _; omega) (fun h => absurd h (by rw [hX.out]; exact hm0)) (by rw [hX.out, u8s_length, List.length_replicate]; omega) (u8s_one _) ?_; intro wc HG HC)
        all_goals
          go_ret2
          have hnil : (zs.drop q).take m = [] := by rw [show m = 0 by omega, List.take_zero]
          have hm00 : m = 0 := by omega
          refine ⟨_, m, m, rfl, by rw [hnil, hm00]; exact Byt.none_, Nat.le_refl _, by omega, by omega, laid_below hb0.out HC.out⟩

theorem fileRow_size (fuel : Nat) (A : Option Addr) (n c : Nat) (W : World) : (method (fuel + 1) 64 (.slice A n c) "Size").run Try.prog W = .ok (72, .slice A n c) W := by kernel_rfl
theorem fileRow_read (fuel : Nat) (A : Option Addr) (n c : Nat) (W : World) : (method (fuel + 1) 64 (.slice A n c) "ReadAt").run Try.prog W = .ok (71, .slice A n c) W := by kernel_rfl
theorem file_reads {w : World} {A : Option Addr} {n c : Nat} {zs : List Int} (h : Byt w w.heap.size A n zs) (hc : n ≤ c) (hc2 : c ≤ 9223372036854775807) (hn : n ≤ 1073741824) : Reads w 64 (.slice A n c) (n : Int) (plainRd zs) := by
  refine ⟨72, 71, fun fuel W => fileRow_size fuel A n c W, fun fuel W => fileRow_read fuel A n c W, fun _ _ => by kernel_rfl, fun _ _ => by kernel_rfl, fun W hW => ?_, fun W a k hW => ?_⟩
  · exact (fileSize_any A n c W).mono fun e w' ⟨h1, h2⟩ => ⟨h1, by rw [h2]; exact Below.refl _ _⟩
  · exact fileRead_any ((h.grown hW).more hW.size) hc hc2 hn
end Go.Proofs.Ytfhibpgmmffgjaa
