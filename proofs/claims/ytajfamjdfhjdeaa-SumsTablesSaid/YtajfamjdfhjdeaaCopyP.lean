/- copy, clear, append of zeros: on rows of pieces. -/
import Derived.Test.YtajfamjdfhjdeaaClearL
import Derived.Test.YtajfamjdfhjdeaaCopy8
import Derived.Lib.AppendZerosOnto
import Derived.Lib.SliceRun
import Derived.Lib.Overlaps
import Derived.Deep.AppendSrc
namespace Go.Proofs.Ytajfamjdfhjdeaa
open Go.RowKit

theorem pc_size : ∃ i, Try.prog.info? 122 = some i ∧ i.size = 2 ∧ i.bytes = 32 ∧ i.zero = some (.agg #[.int .i64 0, .slice none 0 0]) := by
  obtain ⟨i0, hi0, hz⟩ := Option.map_eq_some_iff.1 pc_info
  simp only [Prod.mk.injEq] at hz
  exact ⟨i0, hi0, hz.2.1, hz.2.2, hz.1⟩

theorem run_copy_pc (w : World) (ty : TypeId) (dp sp : Option Addr) (dLen dCap sLen sCap g off : Nat) (cur cs : List Value) (hg : w.heap[g]? = some (.cells cur.toArray 122 (0, 0))) (hn : cs.length = Nat.min sLen dLen * 2)
    (hpos : 0 < cs.length → dp = some ⟨g, off, none⟩ ∧ ∃ ad, sp = some ad ∧ ∀ j v, cs[j]? = some v → w.cell? (ad.add j) = some v)
    (hfit : off + cs.length ≤ cur.length) (h1 : ∀ v ∈ cs, v.oneCell' = true) :
    ∃ w', (Builtin.copy_ #[118, 118] ty #[.slice dp dLen dCap, .slice sp sLen sCap]).run Try.prog w = .ok (goInt (Nat.min sLen dLen)) w' ∧ w'.heap[g]? = some (.cells (splice cur off cs).toArray 122 (0, 0)) ∧ Chg (fun k => k = g) w w' := by
  obtain ⟨i0, hi0, hs, _, _⟩ := pc_size
  have hu := Try.underlying118
  by_cases h0 : cs.length = 0
  · obtain rfl : cs = [] := List.eq_nil_of_length_eq_zero h0
    have hm : Nat.min sLen dLen = 0 := by simp at hn; omega
    refine ⟨w, ?_, by simpa [splice] using hg, Chg.refl _ _⟩
    have hl : ∀ a : Addr, (loadCells a 0).run Try.prog w = .ok #[] w := fun a => run_loadCells_list (P := Try.prog) w a [] (by simp)
    cases sp <;> cases dp <;> simp [Builtin.copy_, run_underlying hu, Builtin.lenOf, Builtin.firstCells, sizeOf, typeInfo, hi0, hm, hl, storeCells]
  · obtain ⟨rfl, ad, rfl, hsrc⟩ := hpos (by omega)
    have hl := run_loadCells_list (P := Try.prog) w ad cs hsrc
    have hst := run_storeCells_at Try.prog g off 122 cs 0 cur.toArray w hg (by simpa using hfit) h1
    refine ⟨_, ?_, setRow_heap w g _ (splice cur off cs).toArray _ _ hg, chg_setRow w g _⟩
    simp only [Nat.add_zero] at hst
    simp [Builtin.copy_, run_underlying hu, Builtin.lenOf, Builtin.firstCells, sizeOf, typeInfo, hi0, hs, ← hn, hl, hst, splice]

theorem copyPc (w : World) {ops : Array Oper} {rest : List Oper} {o : Oper} {a : Act} {Q : Exit → Act → World → Prop} (d s : Operand) (dp sp : Option Addr) (dLen dCap sLen sCap g off : Nat) (cur cs : List Value) (hgd : o.guard = none)
    (ho : o.op = .call { callee := .builtin .copy, args := #[d, s], argTypes := #[118, 118] })
    (hd : a.eval d = .slice dp dLen dCap) (hs : a.eval s = .slice sp sLen sCap)
    (hg : w.heap[g]? = some (.cells cur.toArray 122 (0, 0))) (hn : cs.length = Nat.min sLen dLen * 2)
    (hpos : 0 < cs.length → dp = some ⟨g, off, none⟩ ∧ ∃ ad, sp = some ad ∧ ∀ j v, cs[j]? = some v → w.cell? (ad.add j) = some v)
    (hfit : off + cs.length ≤ cur.length) (h1 : ∀ v ∈ cs, v.oneCell' = true)
    (h : ∀ w', Box (w'.heap[g]? = some (.cells (splice cur off cs).toArray 122 (0, 0))) → Box (Chg (fun k => k = g) w w') → wpList Try.prog ops Q rest (a.put o.dst (goInt (Nat.min sLen dLen))) w') : wpList Try.prog ops Q (o :: rest) a w := by
  obtain ⟨w', hrun, h2, h3⟩ := run_copy_pc w o.type dp sp dLen dCap sLen sCap g off cur cs hg hn hpos hfit h1
  refine wpList_plain hgd fun K hK => ?_
  unfold Oper.wp
  simp [execOp, ho, resolve, invoke, builtin, hd, hs, hrun, Result.andThen]
  exact hK _ _ (h w' ⟨h2⟩ ⟨h3⟩)

theorem step_copyPc {ops : Array Oper} {o : Oper} {a : Act} {w : World} {K : Act → World → Prop} {Q : Exit → Act → World → Prop} {E : Prop} (d s : Operand) (dp sp : Option Addr) (dLen dCap sLen sCap g off : Nat) (cur cs : List Value) (hgd : o.guard = none)
    (ho : o.op = .call { callee := .builtin .copy, args := #[d, s], argTypes := #[118, 118] })
    (hd : a.eval d = .slice dp dLen dCap) (hs : a.eval s = .slice sp sLen sCap)
    (hg : w.heap[g]? = some (.cells cur.toArray 122 (0, 0))) (hn : cs.length = Nat.min sLen dLen * 2)
    (hpos : 0 < cs.length → dp = some ⟨g, off, none⟩ ∧ ∃ ad, sp = some ad ∧ ∀ j v, cs[j]? = some v → w.cell? (ad.add j) = some v)
    (hfit : off + cs.length ≤ cur.length) (h1 : ∀ v ∈ cs, v.oneCell' = true)
    (h : ∀ w', Box (w'.heap[g]? = some (.cells (splice cur off cs).toArray 122 (0, 0))) → Box (Chg (fun k => k = g) w w') → K (a.put o.dst (goInt (Nat.min sLen dLen))) w') :
    if Region.wanted o (yielded ops a.tmps) = true then Oper.wp Try.prog o a w K Q else E := by
  have hw : Region.wanted o (yielded ops a.tmps) = true := by simp [Region.wanted, hgd]
  rw [if_pos hw]
  obtain ⟨w', hrun, h2, h3⟩ := run_copy_pc w o.type dp sp dLen dCap sLen sCap g off cur cs hg hn hpos hfit h1
  unfold Oper.wp
  simp [execOp, ho, resolve, invoke, builtin, hd, hs, hrun, Result.andThen]
  exact h w' ⟨h2⟩ ⟨h3⟩

/-- The cells of n zero pieces. -/
def zpc (n : Nat) : List Value := (Builtin.zeroCells #[.int .i64 0, .slice none 0 0] n).toList
theorem zpc_len (n : Nat) : (zpc n).length = n * 2 := by simp [zpc, Builtin.zeroCells]
theorem zpc_one (n : Nat) : ∀ v ∈ zpc n, v.oneCell' = true := by
  intro v hv
  unfold zpc Builtin.zeroCells at hv
  simp only [Array.toList_map, List.mem_map] at hv
  obtain ⟨i, _, rfl⟩ := hv
  have : i % 2 = 0 ∨ i % 2 = 1 := by omega
  show (#[Value.int .i64 0, Value.slice none 0 0][i % 2]!).oneCell' = true
  rcases this with h | h <;> rw [h] <;> rfl
theorem zeroV (w : World) : (zeroValue 122).run Try.prog w = .ok (.agg #[.int .i64 0, .slice none 0 0]) w := by kernel_rfl

theorem run_clear_pc (w : World) (ty : TypeId) (A : Option Addr) (n c g off : Nat) (cur : List Value) (hg : w.heap[g]? = some (.cells cur.toArray 122 (0, 0))) (hpos : 0 < n → A = some ⟨g, off, none⟩) (hfit : 0 < n → off + n * 2 ≤ cur.length) :
    ∃ w', (Builtin.clear_ #[118] ty #[.slice A n c]).run Try.prog w = .ok (.tuple #[]) w' ∧ w'.heap[g]? = some (.cells (if n = 0 then cur else splice cur off (zpc n)).toArray 122 (0, 0)) ∧ Chg (fun k => k = g) w w' := by
  have hu := Try.underlying118
  rcases n with _ | n
  · refine ⟨w, ?_, by simpa using hg, Chg.refl _ _⟩
    cases A <;> simp [Builtin.clear_, run_underlying hu]
  · obtain rfl := hpos (by omega)
    have hst := run_storeCells_at Try.prog g off 122 (zpc (n + 1)) 0 cur.toArray w hg (by rw [zpc_len]; have := hfit (by omega); simpa using this) (zpc_one _)
    refine ⟨_, ?_, setRow_heap w g _ (splice cur off (zpc (n + 1))).toArray _ _ hg, chg_setRow w g _⟩
    simp only [Nat.add_zero] at hst
    have hz : (Builtin.zeroCells (Value.agg #[Value.int .i64 0, Value.slice none 0 0]).cells (n + 1)).toList = zpc (n + 1) := rfl
    simp [Builtin.clear_, run_underlying hu, hz, hst, splice]

theorem clearPc (w : World) {ops : Array Oper} {rest : List Oper} {o : Oper} {a : Act} {Q : Exit → Act → World → Prop} (s : Operand) (A : Option Addr) (n c g off : Nat) (cur : List Value) (hgd : o.guard = none)
    (ho : o.op = .call { callee := .builtin .clear, args := #[s], argTypes := #[118] }) (hs : a.eval s = .slice A n c)
    (hg : w.heap[g]? = some (.cells cur.toArray 122 (0, 0))) (hpos : 0 < n → A = some ⟨g, off, none⟩) (hfit : 0 < n → off + n * 2 ≤ cur.length)
    (h : ∀ w', Box (w'.heap[g]? = some (.cells (if n = 0 then cur else splice cur off (zpc n)).toArray 122 (0, 0))) → Box (Chg (fun k => k = g) w w') → wpList Try.prog ops Q rest (a.put o.dst (.tuple #[])) w') : wpList Try.prog ops Q (o :: rest) a w := by
  obtain ⟨w', hrun, h2, h3⟩ := run_clear_pc w o.type A n c g off cur hg hpos hfit
  refine wpList_plain hgd fun K hK => ?_
  unfold Oper.wp
  simp [execOp, ho, resolve, invoke, builtin, hs, hrun, Result.andThen]
  exact hK _ _ (h w' ⟨h2⟩ ⟨h3⟩)

/-- 'append(s[:i], make(S, k)...)' where there is no room: a new row. -/
theorem run_growZ (w : World) (ty : TypeId) (A : Option Addr) (i c k : Nat) (olds : List Value) (kk : Int) (hk : kk = (k : Int)) (hr : Src w w.heap.size 2 A i olds) (h0 : 0 < k) (hg : c < i + k) (hb : i + k ≤ 4294967296) :
    ∃ w' G, (Builtin.append_ #[118, 3] ty #[.slice A i c, .int .i64 kk]).run Try.prog w = .ok (.slice (some ⟨w.heap.size, 0, none⟩) (i + k) G) w' ∧
      w'.heap[w.heap.size]? = some (.cells (olds ++ zpc k ++ zpc (G - (i + k))).toArray 122 (0, 0)) ∧ i + k ≤ G ∧ G ≤ 9223372036854775807 ∧ Below w.heap.size w w' := by
  obtain ⟨i0, hi0, hs2, hby, hz⟩ := pc_size
  subst hk
  have hold : (Builtin.firstCells i0.size i (.slice A i c)).run Try.prog w.drew = .ok olds.toArray w.drew := by
    rw [hs2]
    rcases Nat.eq_zero_or_pos i with h0 | h0
    · subst h0
      have : olds = [] := List.eq_nil_of_length_eq_zero (by simpa using hr.1)
      subst this
      cases A with
      | none => simp [Builtin.firstCells]
      | some ad =>
        have := run_loadCells_list (P := Try.prog) w.drew ad [] (by simp)
        simpa [Builtin.firstCells] using this
    · obtain ⟨b, o, rfl, _, hc⟩ := hr.2 h0
      exact run_firstCells_some w.drew 2 i ⟨b, o, none⟩ i c olds hr.1 (fun j v hj => by
        rw [add_at]
        exact hc j v hj)
  have hrun := Lib.run_append_grow_zeros (P := Try.prog) w 118 3 ty 122 i0 _ .i64 .i64 Try.underlying118 Try.underlying3 hi0 hz A i c olds hold k h0 (by omega) hg (by omega) (by rw [hby]; omega) (by rw [hby]; exact growslice_fits hg (by omega))
  have hG := grownCap_ge w (i + k) c 122
  have hG2 := grownCap_le_maxLen w (i + k) c 122 (by unfold maxLen; omega)
  unfold maxLen at hG2
  have harr : olds.toArray ++ Builtin.zeroCells (Value.agg #[Value.int .i64 0, Value.slice none 0 0]).cells k ++ Builtin.zeroCells (Value.agg #[Value.int .i64 0, Value.slice none 0 0]).cells (grownCap w (i + k) c 122 - (i + k)) = (olds ++ zpc k ++ zpc (grownCap w (i + k) c 122 - (i + k))).toArray := by
    apply Array.ext'
    simp [zpc, Value.cells]
  rw [harr] at hrun
  exact ⟨_, _, hrun, heap_alloc_new w.drew _, hG, hG2, Below.alloc (Below.drew (Below.refl _ _)) (Nat.le_refl _) _⟩

/-- slices.overlaps of two rows that lie in two blocks. -/
theorem overlaps_no (w : World) (vb g off la ca lb cb : Nat) (v1 cur : Array Value) (hv : w.heap[vb]? = some (.cells v1 122 (0, 0))) (hg : w.heap[g]? = some (.cells cur 122 (0, 0))) (hne : vb ≠ g) (hc : 0 < cur.size) :
    (callFunc 80 #[.slice (some ⟨vb, 0, none⟩) la ca, .slice (some ⟨g, off, none⟩) lb cb]).run Try.prog w = .ok (.value (.bool false)) w := by
  rw [run_callFunc_extern Try.func80 (by kernel_rfl) (by kernel_rfl) (by kernel_rfl) (e := Extern.SlicesOverlaps.overlaps #[118, 118] #[4]) (by kernel_rfl),
    Lib.run_overlaps_apart w 118 4 122 Try.underlying118 2 (fun w => by kernel_rfl) ⟨vb, 0, none⟩ ⟨g, off, none⟩ la ca lb cb hne 122 122 v1.size cur.size (by simp [World.shape?, hv]) (by simp [World.shape?, hg]) (by omega) (by simp [World.frozen?, hv]) (by simp [World.frozen?, hv])]
  rfl
end Go.Proofs.Ytajfamjdfhjdeaa
