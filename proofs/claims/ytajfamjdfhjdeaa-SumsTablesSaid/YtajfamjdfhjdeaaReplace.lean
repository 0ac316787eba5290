/- slices.Replace by one piece. -/
import Derived.Test.YtajfamjdfhjdeaaInsert
namespace Go.Proofs.Ytajfamjdfhjdeaa
open Go.RowKit
attribute [local go_sem ↓] Go.wp_at_zero Go.wp_at_succ

theorem rep_list {ls : List Lp} {i j : Nat} {x : Lp} (hi : i ≤ j) (hj : j ≤ ls.length) : (ls.take i ++ x :: ls.drop j).length = i + 1 + (ls.length - j) := by
  rw [List.length_append, List.length_cons, List.length_take, List.length_drop]
  omega
theorem OwnP.prefix_ {w : World} {base n c i g : Nat} {ls : List Lp} (h : OwnP w base (some ⟨g, 0, none⟩) n c ls) (hi : i ≤ n) : OwnP w base (some ⟨g, 0, none⟩) i c (ls.take i) := by
  have hl := h.len
  rcases h.2 with ⟨h1, _⟩ | ⟨g', cap, cur, h1, h2, h3, h4, h5, h6, h7⟩
  · cases h1
  · cases h1
    refine ⟨by rw [lcells_len, List.length_take]; omega, .inr ⟨g, c, cur, rfl, h2, h3, by omega, h5, h6, ?_⟩⟩
    rw [← lcells_take, ← h7, List.take_take, show min (i * 2) (n * 2) = i * 2 by omega]

set_option maxHeartbeats 2000000 in
set_option maxRecDepth 100000 in
theorem replace_tail {w : World} {base n c i vb : Nat} {A : Option Addr} {ls : List Lp} {x : Lp} (ho : OwnP w base A n c ls) (hv : PcIn w vb x) (hn : n ≤ 4294967294) (hi : i < n) :
    Calls Try.prog 59 #[.slice A n c, .int .i64 (i : Int), .int .i64 (n : Int), .slice (some ⟨vb, 0, none⟩) 1 1] w fun e w' => ∃ A' c', e = .returned (.slice A' (i + 1) c') ∧ Put1 w base A (ls.take i ++ [x]) A' c' w' := by
  have hl := ho.len
  obtain ⟨g, cur, rfl, hgb, hglt, hg, hnc, hcm, hcs, hct⟩ := ho.open_ (by omega)
  have hp := box (ho.prefix_ (i := i) (by omega))
  obtain ⟨vb', vo', he, -, hvc⟩ := hv.src.2 (by omega)
  cases he
  have hvc1 : Box (∀ j u, (lcells [x])[j]? = some u → w.cell? ((⟨vb, 0, none⟩ : Addr).add j) = some u) := ⟨fun j v hj => by
    rw [add_at]
    exact hvc j v hj⟩
  obtain ⟨i0, hi0, hz⟩ := pc_size
  have e1 : ((i : Int) == (n : Int)) = false := by rw [beq_eq_false_iff_ne]; omega
  have h1 : (i : Int) ≤ (n : Int) := by omega
  have h2 : (0 : Int) ≤ (i : Int) := by omega
  have h3 : (n : Int) ≤ (c : Int) := by omega
  have h5 : ¬ (c = i) := by omega
  have h6 : (i : Int) ≤ (c : Int) := by omega
  have hsz := box hz.1
  have hcap := box hct
  replace hl := box hl
  clear ho hv hvc hct hcs hz hg
  by_cases hlt : i + 1 < n
  · have k1 : (i : Int) + 1 < (n : Int) := by omega
    have k2 : ¬ (c = i + 1) := by omega
    have k3 : ((i + 1 : Nat) : Int) < (n : Int) := by omega
    have k4 : ((i + 1 : Nat) : Int) ≤ (n : Int) := by omega
    go_enter Try.func59, Try.ntmps59
    go_wp2_with (first
      | (at_builtin; refine wpList_append_fits w rfl (.tmp 32) (.tmp 33) 118 rfl base 122 i0 2 Try.underlying118 hi0 hsz.out g i c (lcells (ls.take i)) rfl hp.out ⟨vb, 0, none⟩ 1 1 (lcells [x]) rfl rfl hvc1.out (lcells_one _) (by omega) ?_; intro w1 hO1 hG1; replace hO1 := box (show OwnP w1 base (some ⟨g, 0, none⟩) (i + 1) c (ls.take i ++ [x]) from by have h := hO1; rwa [← lcells_append] at h); replace hG1 := box hG1; obtain ⟨g', cur1, hge, -, -, hg1, -, -, hcs1, hct1⟩ := OwnP.open_ hO1.out (by omega); cases hge; obtain ⟨L1, rfl⟩ : ∃ L1 : List Value, cur1 = L1.toArray := ⟨cur1.toList, by simp⟩; replace hg1 := box hg1; replace hcs1 := box (show L1.length = c * 2 by simpa using hcs1); replace hct1 := box (show L1.take ((i + 1) * 2) = lcells (ls.take i ++ [x]) by simpa using hct1))
      | (refine clearPc _ (.tmp 43) (some ⟨g, (i + 1) * 2, none⟩) (n - (i + 1)) (c - (i + 1)) g ((i + 1) * 2) L1 rfl rfl rfl hg1.out (fun _ => rfl) (fun _ => by rw [hcs1.out]; omega) ?_; intro w2 hrow2 hc2))
    go_ret
    have hlen : (ls.take i ++ [x]).length = i + 1 := by rw [List.length_append, List.length_take, hl.out]; show min i n + 1 = _; omega
    have hr := hrow2.out
    rw [if_neg (by omega)] at hr
    have hzl := zpc_len (n - (i + 1))
    refine ⟨_, c, rfl, ?_, ?_, fun k hk => .inl hk⟩
    · rw [hlen]
      refine OwnP.make_ hr hgb (by omega) hcm (by rw [length_splice _ _ _ (by rw [hzl, hcs1.out]; omega), hcs1.out]) ?_ hlen
      rw [← hct1.out]
      unfold splice
      rw [List.take_append_of_le_length (by rw [List.length_take, hcs1.out]; omega), List.take_take, Nat.min_self]
    · exact ((put_grown hG1.out).trans (G := fun k => k = g) hc2.out (fun k _ hk => by rw [hk])).mono fun k _ hk => hk
  · obtain rfl : n = i + 1 := by omega
    have k1 : ¬ (i : Int) + 1 < (((i + 1 : Nat)) : Int) := by omega
    go_enter Try.func59, Try.ntmps59
    go_wp2_with (at_builtin; refine wpList_append_fits w rfl (.tmp 32) (.tmp 33) 118 rfl base 122 i0 2 Try.underlying118 hi0 hsz.out g i c (lcells (ls.take i)) rfl hp.out ⟨vb, 0, none⟩ 1 1 (lcells [x]) rfl rfl hvc1.out (lcells_one _) (by omega) ?_; intro w1 hO1 hG1; replace hO1 := box (show OwnP w1 base (some ⟨g, 0, none⟩) (i + 1) c (ls.take i ++ [x]) from by have h := hO1; rwa [← lcells_append] at h); replace hG1 := box hG1)
    go_ret
    have hlen : (ls.take i ++ [x]).length = i + 1 := by rw [List.length_append, List.length_take, hl.out]; show min i (i + 1) + 1 = _; omega
    refine ⟨_, c, rfl, ?_, put_grown hG1.out, fun k hk => .inl hk⟩
    rw [hlen]
    exact hO1.out

theorem rep_mid {ls : List Lp} {n i j c T : Nat} {x : Lp} {L0 : List Value} (h : L0.take (n * 2) = lcells ls) (hL : L0.length = c * 2) (hl : ls.length = n) (hi : i < j) (hj : j < n) (hnc : n ≤ c) (hT : T = i + 1 + (n - j)) :
    (if n - T = 0 then splice (splice L0 (i * 2) (lcells [x])) ((i + 1) * 2) (lcells (ls.drop j)) else splice (splice (splice L0 (i * 2) (lcells [x])) ((i + 1) * 2) (lcells (ls.drop j))) (T * 2) (zpc (n - T))).length = c * 2 ∧
    (if n - T = 0 then splice (splice L0 (i * 2) (lcells [x])) ((i + 1) * 2) (lcells (ls.drop j)) else splice (splice (splice L0 (i * 2) (lcells [x])) ((i + 1) * 2) (lcells (ls.drop j))) (T * 2) (zpc (n - T))).take (T * 2) = lcells (ls.take i ++ x :: ls.drop j) := by
  have hx : (lcells [x]).length = 2 := rfl
  have hd : (lcells (ls.drop j)).length = (n - j) * 2 := by rw [lcells_len, List.length_drop, hl]
  have ht : (lcells (ls.take i)).length = i * 2 := by rw [lcells_len, List.length_take, hl]; omega
  have h1 : (splice L0 (i * 2) (lcells [x])).length = c * 2 := by rw [length_splice _ _ _ (by omega), hL]
  have h2 : (splice (splice L0 (i * 2) (lcells [x])) ((i + 1) * 2) (lcells (ls.drop j))).length = c * 2 := by rw [length_splice _ _ _ (by omega), h1]
  have hz := zpc_len (n - T)
  have e : lcells (ls.take i ++ x :: ls.drop j) = lcells (ls.take i) ++ (lcells [x] ++ lcells (ls.drop j)) := by
    rw [lcells_append]
    rfl
  have hmain : (splice (splice L0 (i * 2) (lcells [x])) ((i + 1) * 2) (lcells (ls.drop j))).take (T * 2) = lcells (ls.take i ++ x :: ls.drop j) := by
    rw [e]
    apply List.ext_getElem?
    intro k
    rw [List.getElem?_take]
    split
    · rename_i hk
      rw [splice_get _ _ _ (by omega), hd]
      by_cases hj1 : k < i * 2
      · rw [if_neg (by omega), splice_get _ _ _ (by omega), if_neg (by omega), List.getElem?_append_left (by omega), ← lcells_take, ← h, List.take_take, List.getElem?_take_of_lt (by omega)]
      · by_cases hj2 : k < (i + 1) * 2
        · rw [if_neg (by omega), splice_get _ _ _ (by omega), if_pos (by omega), List.getElem?_append_right (by omega), ht, List.getElem?_append_left (by omega)]
        · rw [if_pos (by omega), List.getElem?_append_right (by omega), ht, List.getElem?_append_right (by omega), hx]
          congr 1
          omega
    · rw [List.getElem?_eq_none (by rw [List.length_append, List.length_append, ht, hx, hd]; omega)]
  split
  · exact ⟨h2, hmain⟩
  · refine ⟨by rw [length_splice _ _ _ (by omega), h2], ?_⟩
    rw [← hmain]
    unfold splice
    rw [List.take_append_of_le_length (by rw [List.length_take]; have := h2; unfold splice at this; omega), List.take_take, Nat.min_self]

theorem rep_ret {A : Option Addr} {n c c' : Nat} (h : c = c') : Ending.returned (.slice A n c) = .returned (.slice A n c') := by rw [h]

set_option maxHeartbeats 2000000 in
set_option maxRecDepth 100000 in
theorem replace_mid {w : World} {base n c i j vb : Nat} {A : Option Addr} {ls : List Lp} {x : Lp} (ho : OwnP w base A n c ls) (hv : PcIn w vb x) (hvb : blkOf A ≠ some vb) (hn : n ≤ 4294967294) (hi : i < j) (hj : j < n) :
    Calls Try.prog 59 #[.slice A n c, .int .i64 (i : Int), .int .i64 (j : Int), .slice (some ⟨vb, 0, none⟩) 1 1] w fun e w' => ∃ A' c', e = .returned (.slice A' (i + 1 + (n - j)) c') ∧ Put1 w base A (ls.take i ++ x :: ls.drop j) A' c' w' := by
  have hl := ho.len
  obtain ⟨g, cur, rfl, hgb, hglt, hg, hnc, hcm, hcs, hct⟩ := ho.open_ (by omega)
  have hne : vb ≠ g := fun h => hvb (by rw [h]; rfl)
  obtain ⟨L0, rfl⟩ : ∃ L0 : List Value, cur = L0.toArray := ⟨cur.toList, by simp⟩
  have hL0 : L0.length = c * 2 := by simpa using hcs
  have hct' : L0.take (n * 2) = lcells ls := by simpa using hct
  obtain ⟨vb', vo', he, -, hvc⟩ := hv.src.2 (by omega)
  cases he
  have hvc1 : Box (∀ j v, (lcells [x])[j]? = some v → w.cell? ((⟨vb, 0, none⟩ : Addr).add j) = some v) := ⟨fun j v hj => by
    rw [add_at]
    exact hvc j v hj⟩
  have hx : (lcells [x]).length = 2 := rfl
  obtain ⟨T, hT⟩ : ∃ T, T = i + 1 + (n - j) := ⟨_, rfl⟩
  have hT2 : (i : Int) + 1 + ((n - j : Nat) : Int) = (T : Int) := by omega
  have hrest : Box (∀ (W : World), W.heap[g]? = some (.cells (splice L0 (i * 2) (lcells [x])).toArray 122 (0, 0)) → ∀ k v, (lcells (ls.drop j))[k]? = some v → W.cell? ((⟨g, j * 2, none⟩ : Addr).add k) = some v) := ⟨fun W hW k v hk => by
    rw [add_at]
    have hkl := (List.getElem?_eq_some_iff.1 hk).1
    rw [lcells_len, List.length_drop] at hkl
    rw [← lcells_drop, List.getElem?_drop, ← hct', List.getElem?_take_of_lt (by omega)] at hk
    refine cell_of_heap hW ?_
    have := splice_get L0 (i * 2) (lcells [x]) (by rw [hx, hL0]; omega) (j * 2 + k)
    rw [hx, if_neg (by omega)] at this
    simpa [this] using hk⟩
  have e1 : ((i : Int) == (j : Int)) = false := by rw [beq_eq_false_iff_ne]; omega
  have e2 : ((j : Int) == (n : Int)) = false := by rw [beq_eq_false_iff_ne]; omega
  have h1 : (i : Int) ≤ (j : Int) := by omega
  have h2 : (0 : Int) ≤ (i : Int) := by omega
  have h3 : (j : Int) ≤ (n : Int) := by omega
  have h4 : (n : Int) ≤ (c : Int) := by omega
  have h5 : ¬ (c = i) := by omega
  have h6 : (i : Int) ≤ (c : Int) := by omega
  have h7 : (j : Int) ≤ (c : Int) := by omega
  have h8 : ¬ (c = j) := by omega
  have h9 : (0 : Int) ≤ (j : Int) := by omega
  have r1 : ¬ (c = i + 1) := by omega
  have r2 : (i : Int) + 1 ≤ (j : Int) := by omega
  have r3 : (0 : Int) ≤ (i : Int) + 1 := by omega
  have r4 : IntKind.i64.wrap ((i : Int) + 1) = (i : Int) + 1 := IntWalk.i64_in _ (by omega)
  have r5 : ((i : Int) + 1).toNat = i + 1 := by omega
  have r6 : (i : Int) + 1 ≤ (T : Int) := by omega
  have r7 : (i : Int) ≤ (T : Int) := by omega
  have r8 : (T : Int) ≤ (n : Int) := by omega
  have r10 : ¬ (c : Int) < (T : Int) := by omega
  have r11 : IntKind.i64.wrap (T : Int) = (T : Int) := IntWalk.i64_in _ (by omega)
  have r12 : (T : Int) ≤ (c : Int) := by omega
  replace hct' := box hct'
  replace hL0 := box hL0
  replace hl := box hl
  replace hg := box hg
  replace hT := box hT
  replace hx := box hx
  clear ho hv hvc hct hcs hvb
  go_enter Try.func59, Try.ntmps59
  go_wp2
  go_region_held3 (fun _ => True) (trivial) (fail)
  have hTi : (i : Int) + 1 ≤ (T : Int) := r6
  have hl1 : Box ((splice L0 (i * 2) (lcells [x])).length = c * 2) := ⟨by rw [length_splice _ _ _ (by rw [hx.out, hL0.out]; omega), hL0.out]⟩
  have hl2 : Box ((splice (splice L0 (i * 2) (lcells [x])) ((i + 1) * 2) (lcells (ls.drop j))).length = c * 2) := ⟨by rw [length_splice _ _ _ (by rw [hl1.out, lcells_len, List.length_drop, hl.out]; omega), hl1.out]⟩
  go_wp2_with (refine copyPc _ (.tmp 95) (.tmp 96) (some ⟨g, i * 2, none⟩) (some ⟨vb, 0, none⟩) (T - i) (c - i) 1 1 g (i * 2) L0 (lcells [x]) rfl rfl rfl rfl hg.out (by rw [hx.out]; show 2 = min 1 (T - i) * 2; omega) (fun _ => ⟨rfl, _, rfl, hvc1.out⟩) (by rw [hL0.out, hx.out]; omega) (lcells_one _) ?_; intro w2 hrow2 hc2)
  go_region_held3 (fun _ => True) (trivial)
    ((refine step_copyPc (.tmp 103) (.tmp 106) (some ⟨g, (i + 1) * 2, none⟩) (some ⟨g, j * 2, none⟩) (T - (i + 1)) (c - (i + 1)) (n - j) (c - j) g ((i + 1) * 2) (splice L0 (i * 2) (lcells [x])) (lcells (ls.drop j)) (by rfl) (by rfl) (by rfl) (by rfl) (by exact hrow2.out) (by rw [lcells_len, List.length_drop, hl.out]; show (n - j) * 2 = min (n - j) (T - (i + 1)) * 2; have := hT.out; omega) (fun _ => ⟨rfl, _, rfl, by exact (hrest.out w2 hrow2.out)⟩) (by rw [hl1.out, lcells_len, List.length_drop, hl.out]; omega) (lcells_one _) ?_; intro w3 hrow3 hc3))
  have hz0 : Box (c = T → ¬ 0 < n - T) := ⟨fun h => by omega⟩
  go_wp2_with (refine clearPc _ (.tmp 110) _ (n - T) (c - T) g (T * 2) (splice (splice L0 (i * 2) (lcells [x])) ((i + 1) * 2) (lcells (ls.drop j))) rfl rfl rfl hrow3.out (fun h => if_neg (fun e => hz0.out e h)) (fun _ => by rw [hl2.out]; omega) ?_; intro w4 hrow4 hc4)
  all_goals
    go_ret
    have hfin := rep_mid hct'.out hL0.out hl.out hi hj hnc hT.out (x := x)
    have hlen := rep_list (ls := ls) (i := i) (j := j) (x := x) (by omega) (by rw [hl.out]; omega)
    rw [hl.out, ← hT.out] at hlen
    have hret : (i + 1 + (n - j)) = T := hT.out.symm
    rw [hret]
    have hch := ((chg_undrew hc2.out).trans (chg_undrew hc3.out) (fun _ _ h => h)).trans hc4.out (fun _ _ h => h)
    refine ⟨_, c, rep_ret (by first | rfl | (symm; assumption)), ?_, hch.mono (fun k _ hk => by rw [hk]; rfl), fun k hk => .inl hk⟩
    rw [hlen]
    exact OwnP.make_ hrow4.out hgb (by omega) hcm hfin.1 hfin.2 hlen

set_option maxHeartbeats 2000000 in
set_option maxRecDepth 100000 in
theorem replace_ins {w : World} {base n c i vb : Nat} {A : Option Addr} {ls : List Lp} {x : Lp} (ho : OwnP w base A n c ls) (hv : PcIn w vb x) (hvb : blkOf A ≠ some vb) (hn : n ≤ 4294967294) (hbase : base ≤ w.heap.size) (hi : i ≤ n) :
    Calls Try.prog 59 #[.slice A n c, .int .i64 (i : Int), .int .i64 (i : Int), .slice (some ⟨vb, 0, none⟩) 1 1] w fun e w' => ∃ A' c', e = .returned (.slice A' (n + 1) c') ∧ Put1 w base A (ls.take i ++ x :: ls.drop i) A' c' w' := by
  have hcap := own_cap ho
  have hc := box (insert_any ho hv hvb hn hbase hi)
  have h1 : (i : Int) ≤ (c : Int) := by omega
  have h2 : (0 : Int) ≤ (i : Int) := by omega
  clear ho hv hvb
  by_cases hci : c = i
  · subst hci
    obtain rfl : n = c := by omega
    go_enter Try.func59, Try.ntmps59
    go_wp2_with fail
    (with_reducible refine Calls.mono hc.out ?_)
    rintro e w1 ⟨A1, c1, rfl, hP⟩
    replace hP := box hP
    go_wp2
    go_ret
    exact ⟨A1, c1, rfl, hP.out⟩
  · have h3 : ¬ (c = i) := hci
    clear hci
    go_enter Try.func59, Try.ntmps59
    go_wp2_with fail
    (with_reducible refine Calls.mono hc.out ?_)
    rintro e w1 ⟨A1, c1, rfl, hP⟩
    replace hP := box hP
    go_wp2
    go_ret
    exact ⟨A1, c1, rfl, hP.out⟩

theorem replace_any {w : World} {base n c i j vb : Nat} {A : Option Addr} {ls : List Lp} {x : Lp} (ho : OwnP w base A n c ls) (hv : PcIn w vb x) (hvb : blkOf A ≠ some vb) (hn : n ≤ 4294967294) (hbase : base ≤ w.heap.size) (hi : i ≤ j) (hj : j ≤ n) :
    Calls Try.prog 59 #[.slice A n c, .int .i64 (i : Int), .int .i64 (j : Int), .slice (some ⟨vb, 0, none⟩) 1 1] w fun e w' => ∃ A' c', e = .returned (.slice A' (ls.take i ++ x :: ls.drop j).length c') ∧ Put1 w base A (ls.take i ++ x :: ls.drop j) A' c' w' := by
  have hl := ho.len
  have hlen := rep_list (ls := ls) (i := i) (j := j) (x := x) hi (by omega)
  rw [hlen, hl]
  by_cases h1 : i = j
  · subst h1
    rw [show i + 1 + (n - i) = n + 1 by omega]
    exact replace_ins ho hv hvb hn hbase hj
  · by_cases h2 : j = n
    · subst h2
      have e : ls.take i ++ x :: ls.drop j = ls.take i ++ [x] := by rw [List.drop_of_length_le (by omega)]
      rw [e, show i + 1 + (j - j) = i + 1 by omega]
      exact replace_tail ho hv hn (by omega)
    · exact replace_mid ho hv hvb hn (by omega) (by omega)
end Go.Proofs.Ytajfamjdfhjdeaa
