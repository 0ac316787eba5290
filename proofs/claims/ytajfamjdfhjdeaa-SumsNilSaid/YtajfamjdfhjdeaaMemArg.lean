/- A file that came in as an argument, in our words. -/
import Derived.Test.YtajfamjdfhjdeaaDuo
import Derived.Deep.Slices
import Derived.Deep.Fields
import Derived.Lib.SmallJoins
import Derived.SizedLaws
import Derived.ProofKit
namespace Go.Proofs.Ytajfamjdfhjdeaa
open Go.ChangeShapes Go.WideShapes Go.ChangeAt Go.RowKit Go.Deep

/-- A row that came in, in our words. -/
theorem byt_came {w : World} {a : Option Addr} {len cap : Nat} {zs : List Int}
    (h : (a = none ∧ len = 0 ∧ cap = 0 ∧ zs = []) ∨ ∃ x, a = some x ∧ len ≤ cap ∧ cap ≤ maxLen ∧ zs.length = cap ∧ (∀ i, i < zs.length → w.cell? (x.add i) = some (.int .u8 (zs.getD i 0))) ∧ ∀ n ∈ zs, (Lit.int .u8 n).wf = true) :
    ∃ xs, Byt w w.heap.size a len xs ∧ len ≤ cap ∧ cap ≤ 9223372036854775807 := by
  rcases h with ⟨rfl, rfl, rfl, rfl⟩ | ⟨x, rfl, hl, hm, hz, hcell, hwz⟩
  · exact ⟨[], Byt.none_, Nat.le_refl _, by omega⟩
  · refine ⟨zs.take len, ?_, hl, by simp only [maxLen] at hm; omega⟩
    have hbs : Bs (zs.take len) := Bs.take (fun y hy => by
      have h := hwz y hy
      have h1 : IntKind.u8.min = 0 := rfl
      have h2 : IntKind.u8.max = 255 := rfl
      simp only [Lit.wf, Bool.and_eq_true, decide_eq_true_eq] at h
      omega) len
    by_cases h0 : len = 0
    · subst h0
      rw [List.take_zero]
      exact Byt.none_
    · obtain ⟨b, off, spot⟩ := x
      have hc := hcell 0 (by omega)
      have hspot : spot = none := by simpa [Addr.add] using World.cell?_spot hc
      subst hspot
      have hlt : b < w.heap.size := by
        have := World.block_lt_of_cell? _ _ hc
        rwa [add_at] at this
      refine Byt.of_cells (by rw [List.length_take]; omega) hbs hlt fun j hj => ?_
      have := hcell j (by omega)
      rw [add_at] at this
      rw [this]
      simp [List.getD, hj]

section
variable {H : Type} {enc : TypeId × Value → H} {W : World} {n : Nat}

theorem op_cells : Try.prog.cellsOf 36 = 4 := by kernel_rfl
theorem op_bytes : 1 ≤ Try.prog.bytesOf 36 := by
  have : Try.prog.bytesOf 36 = 48 := by kernel_rfl
  omega
theorem u8_bytes : Try.prog.bytesOf 5 = 1 := by kernel_rfl
theorem one_cells : Try.prog.cellsOf 34 = 1 ∧ Try.prog.cellsOf 2 = 1 ∧ Try.prog.cellsOf 3 = 1 ∧ Try.prog.cellsOf 22 = 1 := ⟨by kernel_rfl, by kernel_rfl, by kernel_rfl, by kernel_rfl⟩
theorem u8_cells : Try.prog.cellsOf 5 = 1 := by kernel_rfl

theorem reach_le {k : Nat} (h : k ≤ reachBytes) : k ≤ 140737488355328 := Nat.le_trans h (by decide)

/-- Bytes that came in. -/
theorem bytes_open {v : Value} {y : DataW H × List MemPlace} (h : DataW.trod enc Try.prog W 0 (fun _ => true) true n 22 [v] = some y) (hw : ∀ m ∈ y.1.weights Try.prog 22, m ≤ reachBytes) :
    ∃ A l c zs, v = .slice A l c ∧ Byt W W.heap.size A l zs ∧ l ≤ c ∧ c ≤ 9223372036854775807 ∧ l ≤ 140737488355328 := by
  rcases open_ints Try.underlying22 Try.underlying5 u8_cells h with ⟨hcs, _⟩ | ⟨x, l, c, zs, hcs, _, hl, hm, hz, hy, hcell, hwz⟩
  · simp only [List.cons.injEq, and_true] at hcs
    exact ⟨none, 0, 0, [], hcs, Byt.none_, Nat.le_refl _, by omega, by omega⟩
  · simp only [List.cons.injEq, and_true] at hcs
    have hz' : zs.length = c := by simpa using hz
    obtain ⟨xs, hb, h1, h2⟩ := byt_came (w := W) (a := some x) (len := l) (cap := c) (zs := zs) (.inr ⟨x, rfl, hl, hm, hz', hcell, hwz⟩)
    refine ⟨some x, l, c, xs, hcs, hb, h1, h2, ?_⟩
    have h3 := hw (zs.length * 1) (by
      rw [hy]
      simp only [DataW.weights, Try.underlying22, u8_bytes, List.mem_cons]
      left
      simp only [lits, List.length_map, List.length_take, List.length_drop]
      omega)
    have := reach_le h3
    omega

set_option maxRecDepth 100000 in
/-- An op that came in. -/
theorem op_open {b o i : Nat} {D : DataW H} {Pl : List MemPlace} {cs : List Value} (hc : W.cells? 0 ((⟨b, o, none⟩ : Addr).add (i * 4)) 4 = some cs) (h : DataW.trod enc Try.prog W 0 (fun _ => true) true n 36 cs = some (D, Pl)) (hw : ∀ m ∈ D.weights Try.prog 36, m ≤ reachBytes) :
    ∃ x : OpV, OpAt W W.heap.size b o i x ∧ x.l ≤ 140737488355328 := by
  obtain ⟨_, hlen, hat⟩ := World.cells?_some hc
  obtain ⟨ys, k, _, hy, _, hyl, hf⟩ := DataW.trod_struct Try.underlying36 h
  obtain ⟨o1, o2, o3, o4⟩ := one_cells
  simp only [Prod.mk.injEq] at hy
  match cs, hlen with
  | [c0, c1, c2, c3], _ =>
    match ys, hyl with
    | [y0, y1, y2, y3], _ =>
      have f0 := hf 0 { name := "Do", type := 34, offset := 0, embedded := false, tag := "", pkgPath := "", byteOffset := 0 } rfl
      have f1 := hf 1 { name := "At", type := 2, offset := 1, embedded := false, tag := "", pkgPath := "", byteOffset := 8 } rfl
      have f2 := hf 2 { name := "N", type := 3, offset := 2, embedded := false, tag := "", pkgPath := "", byteOffset := 16 } rfl
      have f3 := hf 3 { name := "B", type := 22, offset := 3, embedded := false, tag := "", pkgPath := "", byteOffset := 24 } rfl
      rw [o1] at f0
      rw [o2] at f1
      rw [o3] at f2
      rw [o4] at f3
      replace f0 : DataW.trod enc Try.prog W 0 (fun _ => true) true k 34 [c0] = some y0 := f0
      replace f1 : DataW.trod enc Try.prog W 0 (fun _ => true) true k 2 [c1] = some y1 := f1
      replace f2 : DataW.trod enc Try.prog W 0 (fun _ => true) true k 3 [c2] = some y2 := f2
      replace f3 : DataW.trod enc Try.prog W 0 (fun _ => true) true k 22 [c3] = some y3 := f3
      obtain ⟨d, e0, _, _⟩ := DataW.trod_int Try.underlying34 f0
      obtain ⟨at_, e1, _, _⟩ := DataW.trod_int Try.underlying2 f1
      obtain ⟨m, e2, _, _⟩ := DataW.trod_int Try.underlying3 f2
      simp only [List.cons.injEq, and_true] at e0 e1 e2
      obtain ⟨A, l, c, zs, e3, hb, hl, hm, hr⟩ := bytes_open f3 (fun q hq => hw q (by
        rw [hy.1]
        simp only [DataW.weights, Try.underlying36]
        exact DataW.weights_mem_each (j := 3) rfl rfl q hq))
      subst e0 e1 e2 e3
      have a0 := hat 0 (by omega)
      have a1 := hat 1 (by omega)
      have a2 := hat 2 (by omega)
      have a3 := hat 3 (by omega)
      simp only [add_at, List.getElem?_cons_zero, List.getElem?_cons_succ, Nat.add_zero] at a0 a1 a2 a3
      exact ⟨⟨d, at_, m, A, l, c, zs⟩, ⟨a0, a1, a2, a3, hl, hm, hb⟩, hr⟩

theorem list_of {α : Type} {P : Nat → α → Prop} : ∀ (k : Nat), (∀ i, i < k → ∃ x, P i x) → ∃ xs : List α, xs.length = k ∧ ∀ i x, xs[i]? = some x → P i x
  | 0, _ => ⟨[], rfl, fun i x h => by simp at h⟩
  | k + 1, h => by
    obtain ⟨xs, hl, hx⟩ := list_of k fun i hi => h i (by omega)
    obtain ⟨y, hy⟩ := h k (by omega)
    refine ⟨xs ++ [y], by simp [hl], fun i x hi => ?_⟩
    by_cases hk : i < xs.length
    · rw [List.getElem?_append_left hk] at hi
      exact hx i x hi
    · rw [List.getElem?_append_right (by omega)] at hi
      have h1 := (List.getElem?_eq_some_iff.1 hi).1
      simp at h1
      have e : i - xs.length = 0 := by omega
      rw [e] at hi
      cases hi
      rw [show i = k by omega]
      exact hy

theorem weights_all {e : TypeId} {P : Program} : ∀ {l : List (DataW H)} {d : DataW H}, d ∈ l → ∀ m ∈ d.weights P e, m ∈ DataW.weightsAll P e l
  | d' :: r, d, hd, m, hm => by
    simp only [DataW.weightsAll, List.mem_append]
    rcases List.mem_cons.1 hd with rfl | h
    · exact .inl hm
    · exact .inr (weights_all h m hm)

/-- Ops that came in. -/
theorem ops_open {v : Value} {y : DataW H × List MemPlace} (h : DataW.trod enc Try.prog W 0 (fun _ => true) true n 41 [v] = some y) (hw : ∀ m ∈ y.1.weights Try.prog 41, m ≤ reachBytes) :
    ∃ (A : Option Addr) (c : Nat) (xs : List OpV), v = .slice A xs.length c ∧ OpsAt W W.heap.size A xs ∧ xs.length ≤ c ∧ c ≤ 9223372036854775807 ∧ xs.length ≤ 140737488355328 ∧ ∀ x ∈ xs, x.l ≤ 140737488355328 := by
  rcases open_slice Try.underlying41 h with ⟨hcs, _⟩ | ⟨a, len, cap, m, k, D, Pl, hcs, _, hl, hm, hmm, hy, hi⟩
  · simp only [List.cons.injEq, and_true] at hcs
    exact ⟨none, 0, [], hcs, fun h => absurd h (Nat.lt_irrefl 0), Nat.le_refl _, by omega, by simp, fun x hx => by cases hx⟩
  · simp only [List.cons.injEq, and_true] at hcs
    have hmc : m = cap := by simpa using hmm
    subst hmc
    rw [op_cells] at hi
    have hwl := hw ((len + (m - len)) * Try.prog.bytesOf 36) (by
      rw [hy]
      simp only [DataW.weights, Try.underlying41, List.mem_cons, List.length_map, List.length_range]
      exact .inl trivial)
    have hlen : len ≤ 140737488355328 := by
      have h1 := reach_le hwl
      have h2 := Nat.le_mul_of_pos_right (len + (m - len)) op_bytes
      omega
    have hwi : ∀ i, i < len → ∀ q ∈ (D i).weights Try.prog 36, q ≤ reachBytes := fun i hil q hq => hw q (by
      rw [hy]
      simp only [DataW.weights, Try.underlying41, List.mem_cons, List.mem_append]
      exact .inr (.inl (weights_all (List.mem_map.2 ⟨i, List.mem_range.2 hil, rfl⟩) q hq)))
    by_cases h0 : 0 < len
    · obtain ⟨cs0, hc0, _⟩ := hi 0 (by omega)
      obtain ⟨_, hlen0, hat0⟩ := World.cells?_some hc0
      obtain ⟨b, o, spot⟩ := a
      have hspot : spot = none := by
        have h1 := hat0 0 (by omega)
        rw [List.getElem?_eq_getElem (by omega)] at h1
        simpa [Addr.add] using World.cell?_spot h1
      subst hspot
      have hb : b < W.heap.size := by
        have h1 := hat0 0 (by omega)
        rw [List.getElem?_eq_getElem (by omega)] at h1
        have h2 := World.block_lt_of_cell? _ _ h1
        simpa [add_at] using h2
      obtain ⟨xs, hxl, hx⟩ := list_of (P := fun i x => OpAt W W.heap.size b o i x ∧ x.l ≤ 140737488355328) len fun i hil => by
        obtain ⟨cs, hc, ht⟩ := hi i (by omega)
        exact op_open hc ht (hwi i hil)
      subst hxl
      refine ⟨some ⟨b, o, none⟩, m, xs, hcs, fun _ => ⟨b, o, rfl, hb, fun i x hi => (hx i x hi).1⟩, hl, by simp only [maxLen] at hm; omega, hlen, fun x hx' => ?_⟩
      obtain ⟨i, hi⟩ := List.mem_iff_getElem?.1 hx'
      exact (hx i x hi).2
    · obtain rfl : len = 0 := by omega
      exact ⟨some a, m, [], hcs, fun h => absurd h (Nat.lt_irrefl 0), Nat.zero_le _, by simp only [maxLen] at hm; omega, by simp, fun x hx => by cases hx⟩

theorem mem_one : oneCellFields Try.prog #[{ name := "B", type := 22, offset := 0, embedded := false, tag := "", pkgPath := "", byteOffset := 0 }, { name := "Ops", type := 41, offset := 1, embedded := false, tag := "", pkgPath := "", byteOffset := 24 }, { name := "Can", type := 5, offset := 2, embedded := false, tag := "", pkgPath := "", byteOffset := 48 }] = true := by kernel_rfl
theorem mem_cells : Try.prog.cellsOf 43 = 3 := by kernel_rfl
set_option maxRecDepth 100000 in
/-- A file that came in. -/
theorem mem_open {r : Reach} {b0 : Nat} {v0 : Value} {d : DataW H} {p : List MemPlace} (hv : Value.okWide Try.prog W r b0 43 v0) (h : DataW.Trod enc Try.prog W 0 (fun _ => true) true 43 v0 d p) (hw : ∀ m ∈ d.weights Try.prog 43, m ≤ reachBytes) :
    ∃ v : MemV, v0 = .agg #[.slice v.A v.l v.c, .slice v.A2 v.xs.length v.c2, .int .u8 (v.can : Int)] ∧ MemIn W W.heap.size v ∧ v.fits := by
  obtain ⟨u0, u1, u2, y0, y1, y2, k, rfl, rfl, _, h0, h1, h2⟩ := Go.Joins.open_agg3 Try.underlying43 mem_one mem_cells hv h
  obtain ⟨A, l, c, zs, rfl, hb, hl, hm, hr⟩ := bytes_open h0 (fun q hq => hw q (by
    simp only [DataW.weights, Try.underlying43]
    exact DataW.weights_mem_each (j := 0) rfl rfl q hq))
  obtain ⟨A2, c2, xs, rfl, ho, hl2, hm2, hr2, hr3⟩ := ops_open h1 (fun q hq => hw q (by
    simp only [DataW.weights, Try.underlying43]
    exact DataW.weights_mem_each (j := 1) rfl rfl q hq))
  obtain ⟨cn, e2, _, hcw⟩ := DataW.trod_int Try.underlying5 h2
  simp only [List.cons.injEq, and_true] at e2
  have hcn : 0 ≤ cn ∧ cn < 256 := by
    have h1 : IntKind.u8.min = 0 := rfl
    have h2 : IntKind.u8.max = 255 := rfl
    simp only [Lit.wf, Bool.and_eq_true, decide_eq_true_eq] at hcw
    omega
  refine ⟨⟨A, l, c, zs, A2, c2, xs, cn.toNat⟩, ?_, ⟨hl, hm, hb, hl2, hm2, ho, by show cn.toNat < 256; omega⟩, ⟨hr, hr2, hr3⟩⟩
  rw [e2, show ((cn.toNat : Nat) : Int) = cn by omega]
end
end Go.Proofs.Ytajfamjdfhjdeaa
