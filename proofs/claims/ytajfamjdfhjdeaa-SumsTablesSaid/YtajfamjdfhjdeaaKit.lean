/- Words of our own for slices of bytes: what a slice reads as, what the call owns, and append over both. Conditions: none; plain lemmas over any program. -/
import Derived.WalkKit
import Derived.Below
import Derived.Laws.OwnMore
import Derived.Maps.AppendAt
import Derived.Deep.AppendLies
import Derived.Deep.Draws
import Derived.Lib.Hide
import Derived.Shelf.Bytes.SlEqualAll
namespace Go.Proofs.Ytajfamjdfhjdeaa
open Go.RowKit

/-- A fact laid aside: a structure, so that neither simp nor whnf looks into it. -/
structure Box (p : Prop) : Prop where
  out : p
theorem box {p : Prop} (h : p) : Box p := ⟨h⟩

theorem ret_int {k : IntKind} {a b : Int} (h : a = b) : Ending.returned (.int k a) = .returned (.int k b) := by rw [h]
theorem ret2_int {k l : IntKind} {a b c d : Int} (h : a = b) (g : c = d) : Ending.returned (.tuple #[.int k a, .int l c]) = .returned (.tuple #[.int k b, .int l d]) := by rw [h, g]
theorem ret_bool {a b : Bool} (h : a = b) : Ending.returned (.bool a) = .returned (.bool b) := by rw [h]

theorem add_at (b o j : Nat) : (⟨b, o, none⟩ : Addr).add j = ⟨b, o + j, none⟩ := by unfold Addr.add; split <;> simp_all

/-- The cells of bytes. -/
def u8s (zs : List Int) : List Value := zs.map (Value.int .u8)
theorem u8s_append (a b : List Int) : u8s (a ++ b) = u8s a ++ u8s b := List.map_append
theorem u8s_length (a : List Int) : (u8s a).length = a.length := List.length_map _
theorem u8s_one (a : List Int) : ∀ u ∈ u8s a, u.oneCell' = true := by
  intro u hu
  simp only [u8s, List.mem_map] at hu
  obtain ⟨_, _, rfl⟩ := hu
  rfl
theorem u8s_get (a : List Int) (j : Nat) (hj : j < a.length) : (u8s a)[j]? = some (.int .u8 (a.getD j 0)) := by
  simp [u8s, List.getD, hj]
/-- Each is a byte. -/
def Bs (zs : List Int) : Prop := ∀ x ∈ zs, 0 ≤ x ∧ x < 256
theorem Bs.nil : Bs [] := fun _ h => by cases h
theorem Bs.app {a b : List Int} (h : Bs a) (g : Bs b) : Bs (a ++ b) := fun x hx => (List.mem_append.1 hx).elim (h x) (g x)
theorem Bs.take {a : List Int} (h : Bs a) (n : Nat) : Bs (a.take n) := fun x hx => h x (List.mem_of_mem_take hx)
theorem Bs.drop {a : List Int} (h : Bs a) (n : Nat) : Bs (a.drop n) := fun x hx => h x (List.mem_of_mem_drop hx)
theorem Bs.get {a : List Int} (h : Bs a) (j : Nat) : 0 ≤ a.getD j 0 ∧ a.getD j 0 < 256 := by
  by_cases hj : j < a.length
  · have := h (a[j]) (List.getElem_mem hj)
    simpa [List.getD, hj] using this
  · have e : a[j]? = none := List.getElem?_eq_none (by omega)
    simp only [List.getD, e, Option.getD_none]
    omega
theorem Bs.cons {x : Int} {a : List Int} (h : 0 ≤ x ∧ x < 256) (g : Bs a) : Bs (x :: a) := fun y hy => by
  rcases List.mem_cons.1 hy with rfl | hy
  · exact h
  · exact g y hy

/-- A slice (address A, n elements of 'size' cells each) reads as the cells vs, and lies below block B. -/
def Src (w : World) (B size : Nat) (A : Option Addr) (n : Nat) (vs : List Value) : Prop :=
  vs.length = n * size ∧ (0 < n → ∃ b o, A = some ⟨b, o, none⟩ ∧ b < B ∧ ∀ j u, vs[j]? = some u → w.cell? ⟨b, o + j, none⟩ = some u)
/-- A slice of bytes reads as zs. -/
structure Byt (w : World) (B : Nat) (A : Option Addr) (n : Nat) (zs : List Int) : Prop where
  len : zs.length = n
  bs : Bs zs
  src : Src w B 1 A n (u8s zs)

section
variable {w w' : World} {B B' size n : Nat} {A : Option Addr} {vs : List Value} {zs : List Int}
theorem Src.keep (h : Src w B size A n vs) (hk : ∀ q : Addr, q.block < B → w'.cell? q = w.cell? q) : Src w' B size A n vs :=
  ⟨h.1, fun hn => by
    obtain ⟨b, o, e, hb, hc⟩ := h.2 hn
    exact ⟨b, o, e, hb, fun j u hu => (hk _ hb).trans (hc j u hu)⟩⟩
theorem Src.more (h : Src w B size A n vs) (hB : B ≤ B') : Src w B' size A n vs :=
  ⟨h.1, fun hn => by
    obtain ⟨b, o, e, hb, hc⟩ := h.2 hn
    exact ⟨b, o, e, by omega, hc⟩⟩
/-- A block just laid. -/
theorem Src.new (w : World) (cs : Array Value) (e : TypeId) (n size : Nat) (h : cs.size = n * size) : Src (w.alloc (.cells cs e)) (w.heap.size + 1) size (some ⟨w.heap.size, 0, none⟩) n cs.toList :=
  ⟨by simpa using h, fun _ => ⟨_, _, rfl, by omega, fun j u hu => by
    have := World.news_of_block (heap_alloc_new w (.cells cs e)) j u hu
    rwa [add_at] at this⟩⟩
theorem Src.none_ : Src w B size A 0 [] := ⟨by simp, fun h => absurd h (by omega)⟩
theorem Byt.keep (h : Byt w B A n zs) (hk : ∀ q : Addr, q.block < B → w'.cell? q = w.cell? q) : Byt w' B A n zs := ⟨h.len, h.bs, h.src.keep hk⟩
theorem Byt.more (h : Byt w B A n zs) (hB : B ≤ B') : Byt w B' A n zs := ⟨h.len, h.bs, h.src.more hB⟩
theorem Byt.below (h : Byt w B A n zs) (hb : Below B w w') : Byt w' B A n zs := h.keep fun _ hp => hb.cell hp
theorem Byt.drewN (h : Byt w B A n zs) (k : Nat) : Byt (w.drewN k) B A n zs := h.keep fun _ _ => by simp
theorem Byt.at_ (h : Byt w B A n zs) (hn : 0 < n) : ∃ b o, A = some ⟨b, o, none⟩ ∧ b < B ∧ ∀ j, j < n → w.cell? ⟨b, o + j, none⟩ = some (.int .u8 (zs.getD j 0)) := by
  obtain ⟨b, o, e, hb, hc⟩ := h.src.2 hn
  exact ⟨b, o, e, hb, fun j hj => hc j _ (u8s_get zs j (by have := h.len; omega))⟩
theorem Byt.lib (h : Byt w B A n zs) : Lib.BytesIn w A n zs := fun hn => by
  obtain ⟨b, o, e, _, hc⟩ := h.at_ hn
  exact ⟨b, o, e, hc⟩
theorem Byt.of_cells {b o : Nat} (hl : zs.length = n) (hz : Bs zs) (hb : b < B) (hc : ∀ j, j < n → w.cell? ⟨b, o + j, none⟩ = some (.int .u8 (zs.getD j 0))) : Byt w B (some ⟨b, o, none⟩) n zs :=
  ⟨hl, hz, by rw [u8s_length, hl]; omega, fun _ => ⟨b, o, rfl, hb, fun j u hu => by
    by_cases hj : j < zs.length
    · rw [u8s_get zs j hj] at hu
      rw [← hu]
      exact hc j (by omega)
    · rw [List.getElem?_eq_none (by rw [u8s_length]; omega)] at hu
      cases hu⟩⟩
theorem Byt.src_take {k : Nat} (h : Byt w B A n zs) (hk : k ≤ n) : Src w B 1 A k (u8s (zs.take k)) := by
  have hl := h.len
  refine ⟨by rw [u8s_length, List.length_take]; omega, fun hn => ?_⟩
  obtain ⟨b, o, rfl, hb, hc⟩ := h.at_ (by omega)
  refine ⟨b, o, rfl, hb, fun j u hu => ?_⟩
  by_cases hj : j < k
  · rw [u8s_get _ j (by rw [List.length_take]; omega)] at hu
    rw [← hu, hc j (by omega)]
    simp [List.getD, hj]
  · rw [List.getElem?_eq_none (by rw [u8s_length, List.length_take]; omega)] at hu
    cases hu
theorem Byt.none_ : Byt w B A 0 [] := ⟨rfl, Bs.nil, Src.none_⟩
theorem Byt.empty (h : Byt w B A 0 zs) : zs = [] := List.eq_nil_of_length_eq_zero h.len
theorem Byt.take {k : Nat} (h : Byt w B A n zs) (hk : k ≤ n) : Byt w B A k (zs.take k) := by
  have hl := h.len
  by_cases hn : 0 < n
  · obtain ⟨b, o, rfl, hb, hc⟩ := h.at_ hn
    exact Byt.of_cells (by simp; omega) (h.bs.take k) hb fun j hj => by
      rw [hc j (by omega)]
      simp [List.getD, hj]
  · obtain rfl : n = 0 := by omega
    obtain rfl : k = 0 := by omega
    rw [List.take_zero]
    exact Byt.none_
/-- A cut from k on, at its address written out. -/
theorem Byt.drop {b o k : Nat} (h : Byt w B (some ⟨b, o, none⟩) n zs) (hk : k ≤ n) : Byt w B (some ⟨b, o + k, none⟩) (n - k) (zs.drop k) := by
  have hl := h.len
  by_cases hn : 0 < n
  · obtain ⟨b', o', e, hb, hc⟩ := h.at_ hn
    cases e
    exact Byt.of_cells (by simp; omega) (h.bs.drop k) hb fun j hj => by
      rw [Nat.add_assoc, hc (k + j) (by omega)]
      simp [List.getD]
  · obtain rfl : n = 0 := by omega
    obtain rfl : k = 0 := by omega
    simpa using h
/-- A cut of no byte, whatever its address. -/
theorem Byt.drop_all (h : Byt w B A n zs) (A' : Option Addr) : Byt w B A' (n - n) (zs.drop n) := by
  have hl := h.len
  rw [List.drop_eq_nil_of_le (by omega), Nat.sub_self]
  exact Byt.none_
/-- As the walk has it: 's[k:]' keeps its address where no room is left. -/
theorem Byt.cut {k cap : Nat} (h : Byt w B A n zs) (hk : k ≤ n) (hc : n ≤ cap) : Byt w B (if cap = k then A else A.map (·.add k)) (n - k) (zs.drop k) := by
  have hl := h.len
  by_cases hkn : k = n
  · subst hkn
    exact h.drop_all _
  · rw [if_neg (by omega)]
    obtain ⟨b, o, rfl, hb, _⟩ := h.at_ (by omega)
    simp only [Option.map_some, add_at]
    exact h.drop hk
/-- What the call owns reads so. -/
theorem Byt.of_own {base : Nat} {e : TypeId} {c : Nat} (h : w.ownsRow base e 1 (.slice A n c) n (u8s zs)) (hz : Bs zs) : Byt w w.heap.size A n zs := by
  refine ⟨by have := h.1; rw [u8s_length] at this; omega, hz, h.1, fun hn => ?_⟩
  obtain ⟨g, cap, hv, _, hlt⟩ := h.form hn
  have hA : A = some ⟨g, 0, none⟩ := by injection hv
  subst hA
  refine ⟨g, 0, rfl, hlt, fun j u hu => ?_⟩
  have := h.cells (g := g) rfl j u hu
  rwa [add_at] at this
end

/-- 'make([]byte, n)'. -/
theorem run_make_bytes {P : Program} {t e : TypeId} {i : TypeInfo} (ht : P.underlying t = some (.slice e)) (hi : P.info? e = some i) (hz : i.zero = some (.int .u8 0)) (h1 : i.size = 1) (hb : i.bytes = 1)
    (kl kc : IntKind) (n : Nat) (hn : n ≤ 281474976710656) (w : World) :
    (Instr.makeSlice t (.int kl (n : Int)) (.int kc (n : Int))).run P w = .ok (.slice (some ⟨w.heap.size, 0, none⟩) n n) (w.alloc (.cells (u8s (List.replicate n 0)).toArray e)) := by
  have hr := run_make (P := P) w t e i (.int .u8 0) ht hi hz kl kc n n (by omega) (by omega) (by rw [hb]; omega) (by omega)
  simp only [Int.toNat_natCast] at hr
  rw [hr, h1, Nat.mul_one]
  congr 3
  apply Array.ext'
  show (madeCells #[.int .u8 0] n).toList = _
  rw [toList_madeCells_one]
  simp [u8s]
/-- A slice literal, just laid. -/
theorem Byt.new (w : World) (e : TypeId) (zs : List Int) (cs : Array Value) (hc : cs = (u8s zs).toArray) (hz : Bs zs) (n : Nat) (hn : n = zs.length) : Byt (w.alloc (.cells cs e)) (w.heap.size + 1) (some ⟨w.heap.size, 0, none⟩) n zs := by
  subst hc
  subst hn
  refine ⟨rfl, hz, ?_⟩
  have := Src.new w (u8s zs).toArray e zs.length 1 (by simp [u8s_length])
  simpa using this
/-! ### append, from whatever source (nil, empty or not), onto what the call owns -/
section
variable {P : Program} (w : World)
theorem run_app_nil (base : Nat) (t ty e : TypeId) (i : TypeInfo) (size : Nat) (ht : P.underlying t = some (.slice e)) (hi : P.info? e = some i)
    (v : Value) (n : Nat) (xs : List Value) (hown : w.ownsRow base e size v n xs) (c : Nat) : (Builtin.append_ #[t, t] ty #[v, .slice none 0 c]).run P w = .ok v w := by
  rcases hown.2 with ⟨rfl, rfl⟩ | ⟨g, cap, cur, rfl, _, _, hnc, _⟩
  · simp [Builtin.append_, run_underlying ht, sizeOf, typeInfo, hi, Builtin.lenOf, Builtin.firstCells]
  · simp [Builtin.append_, run_underlying ht, sizeOf, typeInfo, hi, Builtin.lenOf, Builtin.firstCells, hnc, storeCells]

theorem own_form {w : World} {base : Nat} {e : TypeId} {size : Nat} {v : Value} {n : Nat} {xs : List Value} (h : w.ownsRow base e size v n xs) : ∃ A c, v = .slice A n c := by
  rcases h.2 with ⟨rfl, rfl⟩ | ⟨g, cap, cur, rfl, _⟩
  · exact ⟨none, 0, rfl⟩
  · exact ⟨_, _, rfl⟩

/-- What append leaves: the value, and where it lies. -/
def AppLeft (w : World) (base : Nat) (e : TypeId) (size : Nat) (v : Value) (n m : Nat) (xs news : List Value) (A' : Option Addr) (c' : Nat) (w' : World) : Prop :=
  w'.ownsRow base e size (.slice A' (n + m) c') (n + m) (xs ++ news) ∧ w.grownBy w' v.ownBlock ∧
    ((Value.slice A' (n + m) c').ownBlock = v.ownBlock ∨ (Value.slice A' (n + m) c').ownBlock = some w.heap.size)

theorem run_app (base : Nat) (t ty e : TypeId) (i : TypeInfo) (z : Value) (size bytes : Nat) (ht : P.underlying t = some (.slice e)) (hi : P.info? e = some i) (hz : i.zero = some z)
    (hsize : i.size = size) (hby : i.bytes = bytes) (hzs : z.cells.size = size) (hsz : 0 < size)
    (v : Value) (n : Nat) (xs : List Value) (hown : w.ownsRow base e size v n xs)
    (B : Nat) (A : Option Addr) (m c : Nat) (news : List Value) (hr : Src w B size A m news) (h1 : ∀ u ∈ news, u.oneCell' = true)
    (h63 : n + m ≤ maxLen) (hbytes : (n + m) * bytes ≤ 140737488355328) (hbase : base ≤ w.heap.size) :
    ∃ A' c' w', (Builtin.append_ #[t, t] ty #[v, .slice A m c]).run P w = .ok (.slice A' (n + m) c') w' ∧ AppLeft w base e size v n m xs news A' c' w' := by
  rcases A with _ | ad
  · have hm : m = 0 := by
      rcases Nat.eq_zero_or_pos m with h0 | h0
      · exact h0
      · obtain ⟨b, o, h, _⟩ := hr.2 h0
        cases h
    subst hm
    have hn : news = [] := List.eq_nil_of_length_eq_zero (by simpa using hr.1)
    subst hn
    obtain ⟨A', c', rfl⟩ := own_form hown
    exact ⟨A', c', w, run_app_nil w base t ty e i size ht hi _ n xs hown c, by simpa using hown, World.grownBy.refl w _, .inl rfl⟩
  · have hcells : ∀ j u, news[j]? = some u → w.cell? (ad.add j) = some u := by
      intro j u hu
      rcases Nat.eq_zero_or_pos m with h0 | h0
      · subst h0
        have hn : news = [] := List.eq_nil_of_length_eq_zero (by simpa using hr.1)
        subst hn
        simp at hu
      · obtain ⟨b, o, h, _, hc⟩ := hr.2 h0
        cases h
        rw [add_at]
        exact hc j u hu
    obtain ⟨v', w', hrun, h2, h3, _, h5⟩ := run_append_own_at (P := P) w base t ty e i z size bytes ht hi hz hsize hby hzs hsz v n xs hown ad m c news hr.1 hcells h1 h63 hbytes hbase
    obtain ⟨A', c', rfl⟩ := own_form h2
    exact ⟨A', c', w', hrun, h2, h3, h5⟩

theorem wp_app {o : Oper} {a : Act} {K : Act → World → Prop} {Q : Exit → Act → World → Prop} (s x : Operand) (t : TypeId)
    (ho : o.op = .call { callee := .builtin .append, args := #[s, x], argTypes := #[t, t] })
    (base : Nat) (e : TypeId) (i : TypeInfo) (z : Value) (size bytes : Nat) (ht : P.underlying t = some (.slice e)) (hi : P.info? e = some i) (hz : i.zero = some z)
    (hsize : i.size = size) (hby : i.bytes = bytes) (hzs : z.cells.size = size) (hsz : 0 < size)
    (v : Value) (n : Nat) (xs : List Value) (hs : a.eval s = v) (hown : w.ownsRow base e size v n xs)
    (B : Nat) (A : Option Addr) (m c : Nat) (news : List Value) (hx : a.eval x = .slice A m c) (hr : Src w B size A m news) (h1 : ∀ u ∈ news, u.oneCell' = true)
    (h63 : n + m ≤ maxLen) (hbytes : (n + m) * bytes ≤ 140737488355328) (hbase : base ≤ w.heap.size)
    (h : ∀ A' c' w', AppLeft w base e size v n m xs news A' c' w' → K (a.put o.dst (.slice A' (n + m) c')) w') : o.wp P a w K Q := by
  obtain ⟨A', c', w', hrun, h2⟩ := run_app (P := P) w base t o.type e i z size bytes ht hi hz hsize hby hzs hsz v n xs hown B A m c news hr h1 h63 hbytes hbase
  unfold Oper.wp execOp
  simp only [ho, resolve, invoke, builtin, Sem.run_bind, Sem.run_pure, Result.andThen_ok, List.map_toArray, List.map_cons, List.map_nil, hs, hx, hrun]
  exact h A' c' w' h2

theorem wpList_app {ops : Array Oper} {rest : List Oper} {o : Oper} {a : Act} {Q : Exit → Act → World → Prop} (hgd : o.guard = none) (s x : Operand) (t : TypeId)
    (ho : o.op = .call { callee := .builtin .append, args := #[s, x], argTypes := #[t, t] })
    (base : Nat) (e : TypeId) (i : TypeInfo) (z : Value) (size bytes : Nat) (ht : P.underlying t = some (.slice e)) (hi : P.info? e = some i) (hz : i.zero = some z)
    (hsize : i.size = size) (hby : i.bytes = bytes) (hzs : z.cells.size = size) (hsz : 0 < size)
    (v : Value) (n : Nat) (xs : List Value) (hs : a.eval s = v) (hown : w.ownsRow base e size v n xs)
    (B : Nat) (A : Option Addr) (m c : Nat) (news : List Value) (hx : a.eval x = .slice A m c) (hr : Src w B size A m news) (h1 : ∀ u ∈ news, u.oneCell' = true)
    (h63 : n + m ≤ maxLen) (hbytes : (n + m) * bytes ≤ 140737488355328) (hbase : base ≤ w.heap.size)
    (h : ∀ A' c' w', AppLeft w base e size v n m xs news A' c' w' → wpList P ops Q rest (a.put o.dst (.slice A' (n + m) c')) w') : wpList P ops Q (o :: rest) a w :=
  wpList_plain hgd fun _ hK => wp_app w s x t ho base e i z size bytes ht hi hz hsize hby hzs hsz v n xs hs hown B A m c news hx hr h1 h63 hbytes hbase fun A' c' w' h2 => hK _ _ (h A' c' w' h2)

theorem step_app {ops : Array Oper} {o : Oper} {a : Act} {K : Act → World → Prop} {Q : Exit → Act → World → Prop} {E : Prop} (hgd : o.guard = none) (s x : Operand) (t : TypeId)
    (ho : o.op = .call { callee := .builtin .append, args := #[s, x], argTypes := #[t, t] })
    (base : Nat) (e : TypeId) (i : TypeInfo) (z : Value) (size bytes : Nat) (ht : P.underlying t = some (.slice e)) (hi : P.info? e = some i) (hz : i.zero = some z)
    (hsize : i.size = size) (hby : i.bytes = bytes) (hzs : z.cells.size = size) (hsz : 0 < size)
    (v : Value) (n : Nat) (xs : List Value) (hs : a.eval s = v) (hown : w.ownsRow base e size v n xs)
    (B : Nat) (A : Option Addr) (m c : Nat) (news : List Value) (hx : a.eval x = .slice A m c) (hr : Src w B size A m news) (h1 : ∀ u ∈ news, u.oneCell' = true)
    (h63 : n + m ≤ maxLen) (hbytes : (n + m) * bytes ≤ 140737488355328) (hbase : base ≤ w.heap.size)
    (h : ∀ A' c' w', AppLeft w base e size v n m xs news A' c' w' → K (a.put o.dst (.slice A' (n + m) c')) w') :
    if Region.wanted o (yielded ops a.tmps) = true then Oper.wp P o a w K Q else E := by
  have hw : Region.wanted o (yielded ops a.tmps) = true := by simp [Region.wanted, hgd]
  rw [if_pos hw]
  exact wp_app w s x t ho base e i z size bytes ht hi hz hsize hby hzs hsz v n xs hs hown B A m c news hx hr h1 h63 hbytes hbase h
end
theorem below_drewN {B : Nat} {a w : World} (h : Below B a w) (n : Nat) : Below B a (w.drewN n) := ⟨h.os, h.tape, h.output, h.size, h.block⟩
theorem own_drewN {w : World} {base : Nat} {e : TypeId} {size : Nat} {v : Value} {n : Nat} {xs : List Value} (h : w.ownsRow base e size v n xs) (k : Nat) : (w.drewN k).ownsRow base e size v n xs := h
/-- 'Below' behind an append onto a row from base on. -/
theorem Below.app {B base : Nat} {a w w' : World} {e : TypeId} {size : Nat} {v : Value} {n m : Nat} {xs news : List Value} {A' : Option Addr} {c' : Nat} (h : Below B a w) (hl : AppLeft w base e size v n m xs news A' c' w')
    (hown : w.ownsRow base e size v n xs) (hB : B ≤ base) (hb : base ≤ w.heap.size) : Below B a w' :=
  h.grown hl.2.1 (by omega) fun k hk => by have := (hown.lt k hk).1; omega
end Go.Proofs.Ytajfamjdfhjdeaa
