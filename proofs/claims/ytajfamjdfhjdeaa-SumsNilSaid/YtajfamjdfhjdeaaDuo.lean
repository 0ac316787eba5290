/- The program's bytes and the reference's side by side: each call turns its own alone. mantlelaw04.Great, asked with no ops of its own: false tells that all is small. -/
import Derived.Test.YtajfamjdfhjdeaaRefNew
import Derived.Deep.LoopGhost
namespace Go.Proofs.Ytajfamjdfhjdeaa
open Go.RowKit

/-- Both, in blocks from B on that they do not share: the program's tells ps, N; the reference's qs, M. -/
def Duo (B : Nat) (w : World) (S R : Nat) (ps : List Pc) (N : Int) (qs : List Pc) (M : Int) : Prop :=
  ∃ F ls G ms, SpanO w F S ls N ∧ RSpan w G R ms M ∧ lpcs ls = ps ∧ lpcs ms = qs ∧ (∀ k, F k → B ≤ k) ∧ (∀ k, G k → B ≤ k) ∧ (∀ k, F k → ¬ G k)

theorem SpanO.keep {w w' : World} {F : Nat → Prop} {g : Nat} {ls : List Lp} {N : Int} (h : SpanO w F g ls N) (hs : w.heap.size ≤ w'.heap.size) (hk : ∀ k, F k → w'.heap[k]? = w.heap[k]?) : SpanO w' F g ls N := by
  obtain ⟨A, c, ht, hO, hF⟩ := h.top
  exact ⟨⟨A, c, (hk g h.fg).trans ht, OwnP.keep hO fun k hb => hk k (hF k hb), hF⟩, h.fg, fun k hg => Nat.lt_of_lt_of_le (h.lt k hg) hs, fun p hp => (h.ok p hp).keep (fun _ hk => hk) (fun k _ hg _ => hk k hg), h.apart, h.chain, h.ends, h.n0, h.n1, h.held⟩

section
variable {B S R : Nat} {w w' : World} {ps qs : List Pc} {N M : Int}
theorem Duo.grown (h : Duo B w S R ps N qs M) (hb : Below w.heap.size w w') : Duo B w' S R ps N qs M := by
  obtain ⟨F, ls, G, ms, h1, h2, h3⟩ := h
  exact ⟨F, ls, G, ms, h1.same hb, h2.same hb, h3⟩
theorem Duo.keepB (h : Duo B w S R ps N qs M) (hs : w.heap.size ≤ w'.heap.size) (hk : ∀ k, B ≤ k → k < w.heap.size → w'.heap[k]? = w.heap[k]?) : Duo B w' S R ps N qs M := by
  obtain ⟨F, ls, G, ms, h1, h2, h3, h4, h5, h6, h7⟩ := h
  exact ⟨F, ls, G, ms, h1.keep hs fun k hf => hk k (h5 k hf) (h1.lt k hf), h2.keep hs fun k hg => hk k (h6 k hg) (h2.lt k hg), h3, h4, h5, h6, h7⟩
theorem Duo.low {B' : Nat} (h : Duo B w S R ps N qs M) (hB : B' ≤ B) : Duo B' w S R ps N qs M := by
  obtain ⟨F, ls, G, ms, h1, h2, h3, h4, h5, h6, h7⟩ := h
  exact ⟨F, ls, G, ms, h1, h2, h3, h4, fun k hk => Nat.le_trans hB (h5 k hk), fun k hk => Nat.le_trans hB (h6 k hk), h7⟩
theorem Duo.span (h : Duo B w S R ps N qs M) : Span w w.heap.size S ps N := by
  obtain ⟨F, ls, G, ms, h1, h2, rfl, _⟩ := h
  exact h1.span
theorem Duo.of_left {F G : Nat → Prop} {ls ms : List Lp} {ps' : List Pc} {N' : Int} (_ : SpanO w F S ls N) (h2 : RSpan w G R ms M) (hF : ∀ k, F k → B ≤ k) (hG : ∀ k, G k → B ≤ k) (hd : ∀ k, F k → ¬ G k) (hB : B ≤ w.heap.size) (ha : After w F S ps' N' w') :
    Duo B w' S R ps' N' (lpcs ms) M ∧ Below B w w' := by
  obtain ⟨F', ls', hS, hps, hC, hF'⟩ := ha
  refine ⟨⟨F', ls', G, ms, hS, h2.keep hC.size fun k hk => hC.block k (h2.lt k hk) fun hf => hd k hf hk, hps, rfl, fun k hk => ?_, hG, fun k hk hg => ?_⟩, hC.below hF hB⟩
  · rcases hF' k hk with h | h
    · exact hF k h
    · omega
  · rcases hF' k hk with h | h
    · exact hd k h hg
    · have := h2.lt k hg; omega
theorem Duo.of_right {F G : Nat → Prop} {ls ms : List Lp} {qs' : List Pc} {M' : Int} (h1 : SpanO w F S ls N) (h2 : RSpan w G R ms M) (hF : ∀ k, F k → B ≤ k) (hG : ∀ k, G k → B ≤ k) (hd : ∀ k, F k → ¬ G k) (hB : B ≤ w.heap.size) (ha : AfterR w G R qs' M' w') :
    Duo B w' S R (lpcs ls) N qs' M' ∧ Below B w w' := by
  obtain ⟨G', ms', hS, hqs, hC, hG'⟩ := ha
  refine ⟨⟨F, ls, G', ms', h1.keep hC.size fun k hk => hC.block k (h1.lt k hk) fun hf => hd k hk (by rw [hf]; exact h2.fg), hS, rfl, hqs, hF, fun k hk => ?_, fun k hk hg => ?_⟩, hC.below (fun k hk => by rw [hk]; exact hG R h2.fg) hB⟩
  · rcases hG' k hk with h | h
    · exact hG k h
    · omega
  · rcases hG' k hg with h | h
    · exact hd k hk h
    · have := h1.lt k hk; omega

/-- The blocks from a on that are there. -/
def Kept (a : Nat) (w w' : World) : Prop := ∀ k, a ≤ k → k < w.heap.size → w'.heap[k]? = w.heap[k]?
theorem After.kept {F : Nat → Prop} {g a : Nat} (h : After w F g ps N w') (hF : ∀ k, F k → k < a) : Kept a w w' := fun k h1 h2 => by
  obtain ⟨_, _, _, _, hC, _⟩ := h
  exact hC.block k h2 fun hf => by have := hF k hf; omega
theorem AfterR.chg {G : Nat → Prop} {g : Nat} (h : AfterR w G g ps N w') : Chg (fun k => k = g) w w' := by
  obtain ⟨_, _, _, _, hC, _⟩ := h
  exact hC
theorem Duo.ltR (h : Duo B w S R ps N qs M) : R < w.heap.size := by
  obtain ⟨F, ls, G, ms, h1, h2, _⟩ := h
  exact h2.lt R h2.fg
theorem AfterR.kept {G : Nat → Prop} {g a : Nat} (h : AfterR w G g ps N w') (hF : g < a) : Kept a w w' := fun k h1 h2 => by
  obtain ⟨_, _, _, _, hC, _⟩ := h
  exact hC.block k h2 fun hf => by omega

theorem Duo.put {w0 : World} {n c : Nat} {A : Option Addr} {at_ : Int} {bs : List Int} (h : Duo B w0 S R ps N qs M) (hg : Below w0.heap.size w0 w) (hB : B ≤ w.heap.size) (hb : Byt w w.heap.size A n bs) (hn : n ≤ 1048576) :
    Calls Try.prog 39 #[.pointer (some ⟨S, 0, none⟩), .int .i64 at_, .slice A n c] w fun r w' => r = .returned (.int .i64 (putOf ps N at_ bs).1) ∧ Duo B w' S R (putOf ps N at_ bs).2.1 (putOf ps N at_ bs).2.2 qs M ∧ Below B w w' ∧ Kept w0.heap.size w w' := by
  obtain ⟨F, ls, G, ms, h1, h2, rfl, rfl, hF, hG, hd⟩ := h
  exact (sput_any (c := c) (h1.same hg) hb hn).mono fun r w' ⟨e, ha⟩ => ⟨e, (Duo.of_left (h1.same hg) (h2.same hg) hF hG hd hB ha).1, (Duo.of_left (h1.same hg) (h2.same hg) hF hG hd hB ha).2, ha.kept h1.lt⟩
theorem Duo.rput {w0 : World} {n c : Nat} {A : Option Addr} {at_ : Int} {bs : List Int} (h : Duo B w0 S R ps N qs M) (hg : Below w0.heap.size w0 w) (hB : B ≤ w.heap.size) (hb : Byt w w.heap.size A n bs) (hn : n ≤ 1048576) :
    Calls Try.prog 40 #[.pointer (some ⟨R, 0, none⟩), .int .i64 at_, .slice A n c] w fun r w' => r = .returned (.int .i64 (putOf qs M at_ bs).1) ∧ Duo B w' S R ps N (putOf qs M at_ bs).2.1 (putOf qs M at_ bs).2.2 ∧ Below B w w' ∧ Chg (fun k => k = R) w w' := by
  obtain ⟨F, ls, G, ms, h1, h2, rfl, rfl, hF, hG, hd⟩ := h
  exact (rput_any (c := c) (h2.same hg) hb hn).mono fun r w' ⟨e, ha⟩ => ⟨e, (Duo.of_right (h1.same hg) (h2.same hg) hF hG hd hB ha).1, (Duo.of_right (h1.same hg) (h2.same hg) hF hG hd hB ha).2, ha.chg⟩
theorem Duo.cut {w0 : World} {size : Int} (h : Duo B w0 S R ps N qs M) (hg : Below w0.heap.size w0 w) (hB : B ≤ w.heap.size)  :
    Calls Try.prog 41 #[.pointer (some ⟨S, 0, none⟩), .int .i64 size] w fun r w' => r = .returned (.int .i64 (cutOf ps N size).1) ∧ Duo B w' S R (cutOf ps N size).2.1 (cutOf ps N size).2.2 qs M ∧ Below B w w' ∧ Kept w0.heap.size w w' := by
  obtain ⟨F, ls, G, ms, h1, h2, rfl, rfl, hF, hG, hd⟩ := h
  exact (cut_any (h1.same hg)).mono fun r w' ⟨e, ha⟩ => ⟨e, (Duo.of_left (h1.same hg) (h2.same hg) hF hG hd hB ha).1, (Duo.of_left (h1.same hg) (h2.same hg) hF hG hd hB ha).2, ha.kept h1.lt⟩
theorem Duo.rcut {w0 : World} {size : Int} (h : Duo B w0 S R ps N qs M) (hg : Below w0.heap.size w0 w) (hB : B ≤ w.heap.size)  :
    Calls Try.prog 42 #[.pointer (some ⟨R, 0, none⟩), .int .i64 size] w fun r w' => r = .returned (.int .i64 (cutOf qs M size).1) ∧ Duo B w' S R ps N (cutOf qs M size).2.1 (cutOf qs M size).2.2 ∧ Below B w w' ∧ Chg (fun k => k = R) w w' := by
  obtain ⟨F, ls, G, ms, h1, h2, rfl, rfl, hF, hG, hd⟩ := h
  exact (rcut_any (h2.same hg)).mono fun r w' ⟨e, ha⟩ => ⟨e, (Duo.of_right (h1.same hg) (h2.same hg) hF hG hd hB ha).1, (Duo.of_right (h1.same hg) (h2.same hg) hF hG hd hB ha).2, ha.chg⟩
theorem Duo.punch {w0 : World} {at_ n : Int} (h : Duo B w0 S R ps N qs M) (hg : Below w0.heap.size w0 w) (hB : B ≤ w.heap.size)  :
    Calls Try.prog 43 #[.pointer (some ⟨S, 0, none⟩), .int .i64 at_, .int .i64 n] w fun r w' => r = .returned (.int .i64 (punchOf ps N at_ n).1) ∧ Duo B w' S R (punchOf ps N at_ n).2.1 (punchOf ps N at_ n).2.2 qs M ∧ Below B w w' ∧ Kept w0.heap.size w w' := by
  obtain ⟨F, ls, G, ms, h1, h2, rfl, rfl, hF, hG, hd⟩ := h
  exact (punch_any (h1.same hg)).mono fun r w' ⟨e, ha⟩ => ⟨e, (Duo.of_left (h1.same hg) (h2.same hg) hF hG hd hB ha).1, (Duo.of_left (h1.same hg) (h2.same hg) hF hG hd hB ha).2, ha.kept h1.lt⟩
theorem Duo.rpunch {w0 : World} {at_ n : Int} (h : Duo B w0 S R ps N qs M) (hg : Below w0.heap.size w0 w) (hB : B ≤ w.heap.size)  :
    Calls Try.prog 44 #[.pointer (some ⟨R, 0, none⟩), .int .i64 at_, .int .i64 n] w fun r w' => r = .returned (.int .i64 (punchOf qs M at_ n).1) ∧ Duo B w' S R ps N (punchOf qs M at_ n).2.1 (punchOf qs M at_ n).2.2 ∧ Below B w w' ∧ Chg (fun k => k = R) w w' := by
  obtain ⟨F, ls, G, ms, h1, h2, rfl, rfl, hF, hG, hd⟩ := h
  exact (rpunch_any (h2.same hg)).mono fun r w' ⟨e, ha⟩ => ⟨e, (Duo.of_right (h1.same hg) (h2.same hg) hF hG hd hB ha).1, (Duo.of_right (h1.same hg) (h2.same hg) hF hG hd hB ha).2, ha.chg⟩
end

/-! ### the arguments -/
structure OpV where
  d : Int
  at_ : Int
  n : Int
  A : Option Addr
  l : Nat
  c : Nat
  zs : List Int
/-- Op i of a row of ops that begins at (b, o). -/
structure OpAt (w : World) (B b o i : Nat) (x : OpV) : Prop where
  c0 : w.cell? ⟨b, o + i * 4, none⟩ = some (.int .i8 x.d)
  c1 : w.cell? ⟨b, o + i * 4 + 1, none⟩ = some (.int .i64 x.at_)
  c2 : w.cell? ⟨b, o + i * 4 + 2, none⟩ = some (.int .i64 x.n)
  c3 : w.cell? ⟨b, o + i * 4 + 3, none⟩ = some (.slice x.A x.l x.c)
  cap : x.l ≤ x.c
  max : x.c ≤ 9223372036854775807
  byt : Byt w B x.A x.l x.zs
def OpsAt (w : World) (B : Nat) (A : Option Addr) (xs : List OpV) : Prop := 0 < xs.length → ∃ b o, A = some ⟨b, o, none⟩ ∧ b < B ∧ ∀ i x, xs[i]? = some x → OpAt w B b o i x
structure MemV where
  A : Option Addr
  l : Nat
  c : Nat
  zs : List Int
  A2 : Option Addr
  c2 : Nat
  xs : List OpV
  can : Nat
def MemV.val (v : MemV) : Array Value := #[.slice v.A v.l v.c, .slice v.A2 v.xs.length v.c2, .int .u8 (v.can : Int)]
structure MemIn (w : World) (B : Nat) (v : MemV) : Prop where
  cap : v.l ≤ v.c
  max : v.c ≤ 9223372036854775807
  byt : Byt w B v.A v.l v.zs
  cap2 : v.xs.length ≤ v.c2
  max2 : v.c2 ≤ 9223372036854775807
  ops : OpsAt w B v.A2 v.xs
  can : v.can < 256
theorem OpsAt.below {w w' : World} {B : Nat} {A : Option Addr} {xs : List OpV} (h : OpsAt w B A xs) (hb : Below B w w') : OpsAt w' B A xs := fun hn => by
  obtain ⟨b, o, e, hbB, hx⟩ := h hn
  refine ⟨b, o, e, hbB, fun i x hi => ?_⟩
  have g := hx i x hi
  exact ⟨(hb.cell hbB).trans g.c0, (hb.cell hbB).trans g.c1, (hb.cell hbB).trans g.c2, (hb.cell hbB).trans g.c3, g.cap, g.max, g.byt.below hb⟩
theorem MemIn.below {w w' : World} {B : Nat} {v : MemV} (h : MemIn w B v) (hb : Below B w w') : MemIn w' B v := ⟨h.cap, h.max, h.byt.below hb, h.cap2, h.max2, h.ops.below hb, h.can⟩
end Go.Proofs.Ytajfamjdfhjdeaa

namespace Go.Proofs.Ytajfamjdfhjdeaa
open Go.RowKit
attribute [local go_sem ↓] Go.wp_at_zero Go.wp_at_succ

def MemV.sum (v : MemV) (j : Nat) : Nat := ((v.xs.take j).map (·.l)).sum
/-- How much there is of a file. -/
def MemV.sz (v : MemV) : Nat := v.l + v.xs.length + v.sum v.xs.length
theorem MemV.sum_succ {v : MemV} {j : Nat} {x : OpV} (h : v.xs[j]? = some x) : v.sum (j + 1) = v.sum j + x.l := by
  unfold MemV.sum
  rw [List.take_add_one, h]
  simp
theorem le_sum_of_mem {a : Nat} : ∀ {l : List Nat}, a ∈ l → a ≤ l.sum
  | b :: l, h => by
    rcases List.mem_cons.1 h with rfl | h
    · simp
    · have := le_sum_of_mem h
      simp
      omega
theorem MemV.mem_sz {v : MemV} {x : OpV} (h : x ∈ v.xs) : x.l ≤ v.sz := by
  have : x.l ≤ v.sum v.xs.length := by
    unfold MemV.sum
    rw [List.take_length]
    exact le_sum_of_mem (List.mem_map_of_mem h)
  unfold MemV.sz
  omega
/-- File i of a row of files that begins at (b, o). -/
structure MemAtI (w : World) (B b o i : Nat) (v : MemV) : Prop where
  c0 : w.cell? ⟨b, o + i * 3, none⟩ = some (.slice v.A v.l v.c)
  c1 : w.cell? ⟨b, o + i * 3 + 1, none⟩ = some (.slice v.A2 v.xs.length v.c2)
  mem : MemIn w B v
/-- No length is beyond reach. -/
def MemV.fits (v : MemV) : Prop := v.l ≤ 140737488355328 ∧ v.xs.length ≤ 140737488355328 ∧ ∀ x ∈ v.xs, x.l ≤ 140737488355328

/-- What Great tells: 'false' where all is small. -/
def GreatSays (vs : List MemV) (e : Ending) : Prop := ∃ r : Bool, e = .returned (.bool r) ∧ (r = false → ∀ v ∈ vs, v.sz ≤ 131072)

set_option maxHeartbeats 4000000 in
set_option maxRecDepth 100000 in
theorem great_any {w : World} {b o B c : Nat} {nn : Int} {vs : List MemV} (h : ∀ i v, vs[i]? = some v → MemAtI w B b o i v) (hB : B ≤ w.heap.size) (hb : b < B) (hf : ∀ v ∈ vs, v.fits) (hn : 0 ≤ nn) (hv : vs.length ≤ 1000) :
    Calls Try.prog 15 #[.int .i64 nn, .slice (some ⟨b, o, none⟩) vs.length c, .slice none 0 0] w fun e w' => GreatSays vs e ∧ Below w.heap.size w w' := by
  have hH := box h
  have hF := box hf
  clear h hf
  go_enter Try.func15, Try.ntmps15
  go_wp2
  go_loopg [7, 8] 0 (fun kx s7 s8 wr => s7 = .int .i64 0 ∧ s8 = .int .i64 0 ∧ w = wr)
  case atStart => exact ⟨rfl, rfl, rfl⟩
  case round =>
    obtain ⟨rfl, rfl, rfl⟩ := hrel
    go_wp2
    go_loopg [7, 9] vs.length (fun kx s7 s9 wx => ∃ i kk : Nat, i ≤ vs.length ∧ vs.length - i ≤ kx ∧ s9 = .int .i64 (i : Int) ∧ s7 = .int .i64 (kk : Int) ∧ kk ≤ 562949953421312 ∧ Box (kk ≤ 131072 → ∀ j v, j < i → vs[j]? = some v → v.sz ≤ kk) ∧ Box (Below w.heap.size w wx))
    case atStart => exact ⟨0, 0, Nat.zero_le _, by omega, rfl, rfl, by omega, ⟨fun _ j v hj => absurd hj (Nat.not_lt_zero _)⟩, ⟨Below.refl _ _⟩⟩
    case round =>
      obtain ⟨i, kk, hi, hik, rfl, rfl, hkk, hI, hbr⟩ := hrel
      by_cases hlt : i < vs.length
      · obtain ⟨v, hvi⟩ : ∃ v, vs[i]? = some v := ⟨_, List.getElem?_eq_getElem hlt⟩
        have hm := hH.out i v hvi
        have hvm := List.mem_of_getElem? hvi
        obtain ⟨hf1, hf2, hf3⟩ := hF.out v hvm
        have y0 := (hbr.out.cell (p := ⟨b, o + i * 3, none⟩) (by show b < _; omega)).trans hm.c0
        have y1 := (hbr.out.cell (p := ⟨b, o + i * 3 + 1, none⟩) (by show b < _; omega)).trans hm.c1
        have hops := box hm.mem.ops
        have hvb := hm.mem.cap2
        have hvmx := hm.mem.max2
        have i0' : (0 : Int) ≤ (i : Int) := by omega
        have i1' : (i : Int) < (vs.length : Int) := by omega
        replace hf3 := box hf3
        replace hvi := box hvi
        clear hm hvm
        by_cases hk : kk ≤ 131072
        · have hk' : (kk : Int) ≤ 131072 := by omega
          go_wp2
          go_region
          have hbd : Box (Below w.heap.size w wr.drew) := ⟨(hbr.out).drew⟩
          have hy1 : wr.drew.cell? ⟨b, o + i * 3 + 1, none⟩ = some (.slice v.A2 v.xs.length v.c2) := by simpa using y1
          generalize wr.drew = W at *
          go_wp2
          go_loopg [7, 10] v.xs.length (fun kx s7 s10 wx => ∃ j k2 : Nat, j ≤ v.xs.length ∧ v.xs.length - j ≤ kx ∧ s10 = .int .i64 (j : Int) ∧ s7 = .int .i64 (k2 : Int) ∧ k2 ≤ 562949953421312 ∧ Box (k2 = kk + v.l + v.xs.length + v.sum j) ∧ W = wx)
          case atStart => exact ⟨0, kk + v.l + v.xs.length, Nat.zero_le _, by omega, rfl, by go_num, by omega, ⟨rfl⟩, rfl⟩
          case round =>
            obtain ⟨j, k2, hj, hjk, rfl, rfl, hk2, hJ, rfl⟩ := hrel
            have z1 := hy1
            by_cases hjl : j < v.xs.length
            · obtain ⟨b', o', hA, hb', hx'⟩ := hops.out (by omega)
              obtain ⟨x, hx⟩ : ∃ x, v.xs[j]? = some x := ⟨_, List.getElem?_eq_getElem hjl⟩
              have hxl := hf3.out x (List.mem_of_getElem? hx)
              have z3 := (hbd.out.cell (p := ⟨b', o' + j * 4 + 3, none⟩) (by show b' < _; omega)).trans (hx' j x hx).c3
              have hsn := MemV.sum_succ hx
              rw [hA] at z1
              have j0' : (0 : Int) ≤ (j : Int) := by omega
              have j1' : (j : Int) < (v.xs.length : Int) := by omega
              replace hsn := box hsn
              clear hx' hx
              by_cases hk3 : k2 ≤ 131072
              · have hk3' : (k2 : Int) ≤ 131072 := by omega
                go_wp2
                go_roundg (v.xs.length - (j + 1))
                case measure => omega
                case rel => exact ⟨j + 1, k2 + x.l, by omega, Nat.le_refl _, by go_num, by go_num, by omega, ⟨by rw [hsn.out, hJ.out]; omega⟩, rfl⟩
              · have hk3' : ¬ (k2 : Int) ≤ 131072 := by omega
                go_wp2
                go_roundg (vs.length - (i + 1))
                case measure => omega
                case rel => exact ⟨i + 1, k2, by omega, Nat.le_refl _, by go_num, rfl, hk2, ⟨fun h => absurd h hk3⟩, hbd⟩
            · obtain rfl : j = v.xs.length := by omega
              go_wp2
              go_roundg (vs.length - (i + 1))
              case measure => omega
              case rel =>
                refine ⟨i + 1, k2, by omega, Nat.le_refl _, by go_num, rfl, hk2, ⟨fun h j' v' hj' hv' => ?_⟩, hbd⟩
                have e1 : k2 = kk + v.sz := by rw [hJ.out]; unfold MemV.sz; omega
                by_cases he : j' = i
                · subst he
                  rw [hvi.out] at hv'
                  cases hv'
                  omega
                · have := hI.out hk j' v' (by omega) hv'
                  omega
        · have hk' : ¬ (kk : Int) ≤ 131072 := by omega
          have hk2 : (131072 : Int) < (kk : Int) := by omega
          go_wp2
          go_ret
          exact ⟨⟨true, rfl, fun h => (by cases h)⟩, hbr.out⟩
      · obtain rfl : i = vs.length := by omega
        go_wp2
        go_ret
        refine ⟨⟨decide (131072 < (kk : Int)), rfl, fun h v hv => ?_⟩, hbr.out⟩
        have h1 := of_decide_eq_false h
        obtain ⟨j, hj⟩ := List.mem_iff_getElem?.1 hv
        have h2 := hI.out (by omega) j v (List.getElem?_eq_some_iff.1 hj).1 hj
        omega
end Go.Proofs.Ytajfamjdfhjdeaa
