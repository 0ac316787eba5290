/- Files that are read; files of memory. -/
import Derived.Test.YtajfamjdfhjdeaaGet
import Derived.Test.YtajfamjdfhjdeaaOnly
namespace Go.Proofs.Ytajfamjdfhjdeaa
open Go.RowKit

/-- What a plain file of bytes tells of a read. -/
def plainRd (zs : List Int) (at_ n : Int) : Int × List Int :=
  if at_ < 0 ∨ n < 0 then (2, []) else if 65536 < n then (3, []) else (0, (zs.drop at_.toNat).take n.toNat)

/-- (T, v) is a file that tells size sz and reads as rd says, from this world on, as long as nothing that is there turns. -/
def Reads (w : World) (T : TypeId) (v : Value) (sz : Int) (rd : Int → Int → Int × List Int) : Prop :=
  ∃ S R : FuncId, (∀ fuel W, (method (fuel + 1) T v "Size").run Try.prog W = .ok (S, v) W) ∧ (∀ fuel W, (method (fuel + 1) T v "ReadAt").run Try.prog W = .ok (R, v) W) ∧
    (∀ args W, (callFunc S args).run Try.prog W = .ok (.enter S args) W) ∧ (∀ args W, (callFunc R args).run Try.prog W = .ok (.enter R args) W) ∧
    (∀ W, Below w.heap.size w W → Calls Try.prog S #[v] W fun e w' => e = .returned (.int .i64 sz) ∧ Below W.heap.size W w') ∧
    (∀ W at_ n, Below w.heap.size w W → Calls Try.prog R #[v, .int .i64 at_, .int .i64 n] W fun e w' =>
      ∃ A k c, e = .returned (.tuple #[.slice A k c, .int .i64 (rd at_ n).1]) ∧ Byt w' w'.heap.size A k (rd at_ n).2 ∧ k ≤ c ∧ c ≤ 9223372036854775807 ∧ k ≤ 65536 ∧ Below W.heap.size W w')
theorem Reads.grown {w w' : World} {T : TypeId} {v : Value} {sz : Int} {rd : Int → Int → Int × List Int} (h : Reads w T v sz rd) (hb : Below w.heap.size w w') : Reads w' T v sz rd := by
  obtain ⟨S, R, h1, h2, h3, h4, h5, h6⟩ := h
  exact ⟨S, R, h1, h2, h3, h4, fun W hW => h5 W (grown_trans hb hW), fun W a n hW => h6 W a n (grown_trans hb hW)⟩
/-- A handle to such a file. -/
def Open (w : World) (H m : Nat) (sz : Int) (rd : Int → Int → Int × List Int) : Prop := ∃ P T v, Hand w H P m T v ∧ Reads w T v sz rd
theorem Open.grown {w w' : World} {H m : Nat} {sz : Int} {rd : Int → Int → Int × List Int} (h : Open w H m sz rd) (hb : Below w.heap.size w w') : Open w' H m sz rd := by
  obtain ⟨P, T, v, h1, h2⟩ := h
  exact ⟨P, T, v, h1.grown hb, h2.grown hb⟩

/-- A file of memory at block F, over the span at g. -/
def MemAt (w : World) (F g : Nat) (ps : List Pc) (N : Int) : Prop := w.heap[F]? = some (.cells #[.pointer (some ⟨g, 0, none⟩)] 117) ∧ Span w w.heap.size g ps N
theorem Span.grown {w w' : World} {g : Nat} {ps : List Pc} {N : Int} (h : Span w w.heap.size g ps N) (hb : Below w.heap.size w w') : Span w' w'.heap.size g ps N := by
  have hs := hb.size
  obtain ⟨⟨A, c, h1, h2, h3, h4⟩, h5, h6, h7, h8, h9⟩ := h.past hb
  refine ⟨⟨A, c, h1, h2, h3, fun hn => ?_⟩, by omega, h6, h7, h8, h9⟩
  obtain ⟨b, o, e, hbB, hp⟩ := h4 hn
  exact ⟨b, o, e, by omega, fun i p hi => (hp i p hi).keep (fun q _ => rfl) hbB hs⟩
theorem MemAt.grown {w w' : World} {F g : Nat} {ps : List Pc} {N : Int} (h : MemAt w F g ps N) (hb : Below w.heap.size w w') : MemAt w' F g ps N :=
  ⟨(hb.block F (lt_of_heap h.1)).trans h.1, h.2.grown hb⟩

theorem memSize_any {w : World} {F g : Nat} {ps : List Pc} {N : Int} (h : MemAt w F g ps N) :
    Calls Try.prog 114 #[.pointer (some ⟨F, 0, none⟩)] w fun e w' => e = .returned (.int .i64 N) ∧ w' = w := by
  have c0 : w.cell? ⟨F, 0, none⟩ = some (.pointer (some ⟨g, 0, none⟩)) := cell_of_heap h.1 rfl
  have hs := box (spanSize_any h.2)
  clear h
  go_enter Try.func114, Try.ntmps114
  go_wp2_with fail
  refine hs.out.mono ?_
  rintro e w' ⟨rfl, rfl⟩
  go_wp2
  go_ret
  exact ⟨rfl, rfl⟩

def memRd (ps : List Pc) (N at_ n : Int) : Int × List Int := if at_ < 0 ∨ n < 0 then (2, []) else if 65536 < n then (3, []) else (0, getOf ps N at_ n)
def flat (ps : List Pc) (N : Int) : List Int := stretch ps 0 N.toNat
theorem memRd_plain (ps : List Pc) (N at_ n : Int) : memRd ps N at_ n = plainRd (flat ps N) at_ n := by
  unfold memRd plainRd
  split
  · rfl
  · split
    · rfl
    · congr 1
      unfold getOf flat
      apply List.ext_getElem?
      intro i
      by_cases hi : (i : Int) < n ∧ at_ + i < N
      · rw [if_neg (by omega), stretch_get _ _ _ _ (by omega), List.getElem?_take_of_lt (by omega), List.getElem?_drop, stretch_get _ _ _ _ (by omega)]
        congr 2
        omega
      · have h2 : (List.take n.toNat (List.drop at_.toNat (stretch ps 0 N.toNat)))[i]? = none := List.getElem?_eq_none (by rw [List.length_take, List.length_drop, stretch_len]; omega)
        rw [h2]
        split
        · rfl
        · exact List.getElem?_eq_none (by rw [stretch_len]; omega)

theorem memRead_any {w : World} {F g : Nat} {ps : List Pc} {N at_ n : Int} (h : MemAt w F g ps N) :
    Calls Try.prog 113 #[.pointer (some ⟨F, 0, none⟩), .int .i64 at_, .int .i64 n] w fun e w' =>
      ∃ A k c, e = .returned (.tuple #[.slice A k c, .int .i64 (memRd ps N at_ n).1]) ∧ Byt w' w'.heap.size A k (memRd ps N at_ n).2 ∧ k ≤ c ∧ c ≤ 9223372036854775807 ∧ k ≤ 65536 ∧ Below w.heap.size w w' := by
  have c0 : w.cell? ⟨F, 0, none⟩ = some (.pointer (some ⟨g, 0, none⟩)) := cell_of_heap h.1 rfl
  have hB := box h
  unfold memRd
  by_cases h1 : at_ < 0 ∨ n < 0
  · rw [if_pos h1]
    clear h
    by_cases h2 : at_ < 0
    · go_enter Try.func113, Try.ntmps113
      go_wp2
      go_ret2
      exact ⟨none, 0, 0, rfl, Byt.none_, Nat.le_refl _, by omega, by omega, Below.refl _ _⟩
    · have h3 : n < 0 := by omega
      clear h1
      go_enter Try.func113, Try.ntmps113
      go_wp2
      go_ret2
      exact ⟨none, 0, 0, rfl, Byt.none_, Nat.le_refl _, by omega, by omega, Below.refl _ _⟩
  · rw [if_neg h1]
    have a0 : 0 ≤ at_ := by omega
    have a1 : 0 ≤ n := by omega
    clear h1
    by_cases h2 : 65536 < n
    · rw [if_pos h2]
      clear h
      go_enter Try.func113, Try.ntmps113
      go_wp2
      go_ret2
      exact ⟨none, 0, 0, rfl, Byt.none_, Nat.le_refl _, by omega, by omega, Below.refl _ _⟩
    · rw [if_neg h2]
      by_cases h3 : N ≤ at_
      · have hg : getOf ps N at_ n = [] := if_pos h3
        have hk := box (get_far (n := n) h.2 a0 a1 h3)
        rw [hg]
        clear h hg h3
        go_enter Try.func113, Try.ntmps113
        go_wp2_with fail
        refine hk.out.mono ?_
        rintro e w' ⟨rfl, rfl⟩
        go_wp2
        go_ret2
        exact ⟨none, 0, 0, rfl, Byt.none_, Nat.le_refl _, by omega, by omega, Below.refl _ _⟩
      · obtain ⟨m, hm⟩ : ∃ m : Nat, min n (N - at_) = (m : Int) := ⟨(min n (N - at_)).toNat, by omega⟩
        have hg : getOf ps N at_ n = stretch ps at_ m := by
          unfold getOf
          rw [if_neg h3, hm, Int.toNat_natCast]
        have hk := box (get_near h.2 (Nat.le_refl _) a0 a1 (by omega) (by omega) m hm)
        rw [hg]
        have hm2 : m ≤ 65536 := by omega
        have hbs := box (stretch_bs (ps := ps) h.2.chain.bs at_ m)
        clear h hg h3 hm
        go_enter Try.func113, Try.ntmps113
        go_wp2_with fail
        refine hk.out.mono ?_
        rintro e w' ⟨rfl, h5, h6⟩
        have H5 := box h5
        have H6 := box h6
        clear h5 h6
        go_wp2
        go_ret2
        refine ⟨_, m, m, rfl, ?_, Nat.le_refl _, by omega, hm2, H6.out⟩
        exact Byt.of_cells (stretch_len _ _ _) hbs.out (lt_of_heap H5.out) fun j hj => by
          rw [Nat.zero_add]
          refine cell_of_heap H5.out ?_
          have := u8s_get (stretch ps at_ m) j (by rw [stretch_len]; exact hj)
          simpa using this

theorem memRow_size (fuel : Nat) (b : Nat) (W : World) : (method (fuel + 1) 115 (.pointer (some ⟨b, 0, none⟩)) "Size").run Try.prog W = .ok (114, .pointer (some ⟨b, 0, none⟩)) W := by kernel_rfl
theorem memRow_read (fuel : Nat) (b : Nat) (W : World) : (method (fuel + 1) 115 (.pointer (some ⟨b, 0, none⟩)) "ReadAt").run Try.prog W = .ok (113, .pointer (some ⟨b, 0, none⟩)) W := by kernel_rfl
theorem MemAt.reads {w : World} {F g : Nat} {ps : List Pc} {N : Int} (h : MemAt w F g ps N) : Reads w 115 (.pointer (some ⟨F, 0, none⟩)) N (plainRd (flat ps N)) := by
  refine ⟨114, 113, fun fuel W => memRow_size fuel F W, fun fuel W => memRow_read fuel F W, fun _ _ => by kernel_rfl, fun _ _ => by kernel_rfl, fun W hW => ?_, fun W a n hW => ?_⟩
  · exact (memSize_any (h.grown hW)).mono fun e w' ⟨h1, h2⟩ => ⟨h1, by rw [h2]; exact Below.refl _ _⟩
  · rw [← memRd_plain]
    exact memRead_any (h.grown hW)

set_option maxHeartbeats 1000000 in
theorem of_any {w : World} {g can : Nat} {ps : List Pc} {N : Int} (h : Span w w.heap.size g ps N) (hc : can ≤ 15) :
    Calls Try.prog 30 #[.pointer (some ⟨g, 0, none⟩), .int .u8 (can : Int)] w fun e w' =>
      ∃ H P F, e = .returned (.tuple #[.pointer (some ⟨H, 0, none⟩), .int .i64 0]) ∧ NewHand w.heap.size w' H P can 115 (.pointer (some ⟨F, 0, none⟩)) ∧ MemAt w' F g ps N ∧ w.heap.size ≤ F ∧ Below w.heap.size w w' := by
  have hc1 : (can : Int) ≤ 15 := by omega
  have hS := box h
  have b1 := Below.alloc (Below.refl w.heap.size w) (Nat.le_refl _) (.cells #[.pointer (some ⟨g, 0, none⟩)] 117)
  have hM : MemAt (w.alloc (.cells #[.pointer (some ⟨g, 0, none⟩)] 117)) w.heap.size g ps N := ⟨heap_alloc_new _ _, h.grown b1⟩
  have hmk := box (fun W => make_any 115 (.pointer (some ⟨w.heap.size, 0, none⟩)) W (m := 15) (by omega))
  have hon := box (fun W H P (hH : Hand W H P 15 115 (.pointer (some ⟨w.heap.size, 0, none⟩))) => only_any hH (c := can) (by omega))
  replace b1 := box b1
  replace hM := box hM
  clear h
  go_enter Try.func30, Try.ntmps30
  go_wp2_with fail
  refine (hmk.out _).mono ?_
  rintro e w1 ⟨rfl, hw1⟩
  have HW1 := box hw1
  clear hw1
  go_wp2_with fail
  have hn := handAt_at (size_alloc w (.cells #[.pointer (some ⟨g, 0, none⟩)] 117)) (show 15 < 16 by omega) 115 (.pointer (some ⟨w.heap.size, 0, none⟩)) (Nat.le_succ w.heap.size)
  rw [← HW1.out] at hn
  have hb := box (handAt_below (w.alloc (.cells #[.pointer (some ⟨g, 0, none⟩)] 117)) 15 (.iface 115 (.pointer (some ⟨w.heap.size, 0, none⟩))) (Nat.le_refl _))
  rw [← HW1.out] at hb
  refine (hon.out _ _ _ hn.hand).mono ?_
  rintro e w2 ⟨H, P, rfl, hN, hb2⟩
  clear hn
  have HN := box hN
  have HB := box hb2
  clear hN hb2
  go_wp2
  go_ret2
  have e15 : 15 &&& can = can := by
    rcases (show can = 0 ∨ can = 1 ∨ can = 2 ∨ can = 3 ∨ can = 4 ∨ can = 5 ∨ can = 6 ∨ can = 7 ∨ can = 8 ∨ can = 9 ∨ can = 10 ∨ can = 11 ∨ can = 12 ∨ can = 13 ∨ can = 14 ∨ can = 15 by omega) with rfl | rfl | rfl | rfl | rfl | rfl | rfl | rfl | rfl | rfl | rfl | rfl | rfl | rfl | rfl | rfl <;> rfl
  have h3 := HN.out
  rw [e15] at h3
  have hall := grown_trans hb.out HB.out
  have h1 := b1.out.trans (hall.mono (by simp))
  have hsz : w.heap.size ≤ w1.heap.size := by have := hb.out.size; simp at this; omega
  exact ⟨H, P, w.heap.size, rfl, ⟨h3.hand, by have := h3.hH; omega, by have := h3.hP; omega, h3.ne, h3.ltH, h3.ltP⟩, hM.out.grown hall, Nat.le_refl _, h1⟩

/-- A new handle to a file of memory, that reads so. -/
theorem open_mem {w : World} {H P F g m : Nat} {ps : List Pc} {N : Int} (h : Hand w H P m 115 (.pointer (some ⟨F, 0, none⟩))) (hM : MemAt w F g ps N) : Open w H m N (plainRd (flat ps N)) :=
  ⟨P, _, _, h, hM.reads⟩

theorem flat_new (zs : List Int) : flat (newPs zs) (zs.length : Int) = zs := by
  unfold flat newPs
  apply List.ext_getElem?
  intro i
  rw [Int.toNat_natCast]
  by_cases hi : i < zs.length
  · rw [if_neg (by omega), stretch_get _ _ _ _ hi]
    show some (lay1 (0 + (i : Int)) 0 (0, zs)) = _
    unfold lay1
    have e : pEnd (0, zs) = 0 + (zs.length : Int) := rfl
    rw [if_pos ⟨by show (0 : Int) ≤ _; omega, by rw [e]; omega⟩]
    show some (zs.getD ((0 + (i : Int)) - 0).toNat 0) = _
    rw [show ((0 + (i : Int)) - 0).toNat = i by omega, List.getD, List.getElem?_eq_getElem hi]
    rfl
  · rw [List.getElem?_eq_none (by rw [stretch_len]; omega), List.getElem?_eq_none (by omega)]

theorem new_any {w : World} {A : Option Addr} {n c B can : Nat} {zs : List Int} (h : Byt w B A n zs) (hn : n ≤ 4194304) (hnc : n ≤ c) (hc : can ≤ 15) :
    Calls Try.prog 11 #[.slice A n c, .int .u8 (can : Int)] w fun e w' =>
      ∃ H, e = .returned (.tuple #[.pointer (some ⟨H, 0, none⟩), .int .i64 0]) ∧ w.heap.size ≤ H ∧ Open w' H can (n : Int) (plainRd zs) ∧ Below w.heap.size w w' := by
  have hc1 : (can : Int) ≤ 15 := by omega
  have hn1 : (n : Int) ≤ 4194304 := by omega
  have hs := box (spanNew_any h hn hnc)
  have hof := box (fun W g ps N (hS : Span W W.heap.size g ps N) => of_any hS hc)
  have hl := box h.len
  clear h
  go_enter Try.func11, Try.ntmps11
  go_wp2_with fail
  refine hs.out.mono ?_
  rintro e w1 ⟨g, rfl, hg, hS, hb⟩
  have HS := box hS
  have HB := box hb
  clear hS hb hs hg
  go_wp2_with fail
  refine (hof.out _ _ _ _ HS.out).mono ?_
  rintro e w2 ⟨H, P, F, rfl, hN, hM, hF, hb⟩
  have HN := box hN
  have HM := box hM
  have HB2 := box hb
  clear hN hM hb hof hF
  go_wp2
  go_ret2
  have ho := open_mem HN.out.hand HM.out
  have hf := flat_new zs
  rw [hl.out] at hf
  rw [hf] at ho
  exact ⟨H, rfl, by have := HN.out.hH; have := HB.out.size; omega, ho, grown_trans HB.out HB2.out⟩
end Go.Proofs.Ytajfamjdfhjdeaa
