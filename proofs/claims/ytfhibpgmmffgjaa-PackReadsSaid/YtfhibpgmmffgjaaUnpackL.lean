/- The plain law of pack.Unpack. -/
import Derived.Test.YtfhibpgmmffgjaaKit
import Derived.Laws.CopyOwn
import Derived.Laws.BitsAllLaws
import Derived.Laws.BitsLemmas
namespace Go.Proofs.Ytfhibpgmmffgjaa
/-- m numbers more, each the one d places ahead. -/
def copyF (d : Nat) : Nat → List Int → List Int
  | 0, out => out
  | m + 1, out => copyF d m (out ++ [out.getD (out.length - d) 0])
theorem copyF_len (d : Nat) : ∀ (m : Nat) (out : List Int), (copyF d m out).length = out.length + m
  | 0, _ => rfl
  | m + 1, out => by rw [copyF, copyF_len d m]; simp; omega
theorem copyF_bs (d : Nat) : ∀ (m : Nat) (out : List Int), Bs out → Bs (copyF d m out)
  | 0, _, h => h
  | m + 1, _, h => copyF_bs d m _ (h.app (Bs.cons (h.get _) Bs.nil))
/-- The pieces: n bytes in all are told; 'none': they are no packed ones. -/
def unpackF (n : Nat) : Nat → List Int → List Int → Option (List Int)
  | 0, _, _ => none
  | _ + 1, [], out => if out.length = n then some out else none
  | f + 1, c :: r, out =>
    if c < 128 then
      (if r.length < c.toNat + 1 ∨ n - out.length < c.toNat + 1 then none else unpackF n f (r.drop (c.toNat + 1)) (out ++ r.take (c.toNat + 1)))
    else
      (if r.length < 1 ∨ r.getD 0 0 = 0 ∨ out.length < (r.getD 0 0).toNat ∨ n - out.length < c.toNat - 125 then none else unpackF n f (r.drop 1) (copyF (r.getD 0 0).toNat (c.toNat - 125) out))
theorem unpackF_enough (n : Nat) : ∀ (f g : Nat) (rest out : List Int), rest.length < f → rest.length < g → unpackF n f rest out = unpackF n g rest out
  | 0, _, _, _, hf, _ => absurd hf (by omega)
  | _ + 1, 0, _, _, _, hg => absurd hg (by omega)
  | f + 1, g + 1, [], out, _, _ => rfl
  | f + 1, g + 1, c :: r, out, hf, hg => by
    have h1 := fun k o => unpackF_enough n f g (r.drop k) o (by simp at *; omega) (by simp at *; omega)
    unfold unpackF
    rw [h1, h1]
/-- The number that four bytes say. -/
def hdr (zs : List Int) : Nat := (zs.getD 0 0).toNat * 16777216 + (zs.getD 1 0).toNat * 65536 + (zs.getD 2 0).toNat * 256 + (zs.getD 3 0).toNat
/-- What Unpack answers: an error's number, and bytes. -/
def unpackS (zs : List Int) : Int × List Int :=
  if zs.length < 4 then (110, [])
  else if 65536 < hdr zs then (3, [])
  else match unpackF (hdr zs) zs.length (zs.drop 4) [] with
    | none => (110, [])
    | some out => (0, out)
theorem unpackF_len (n : Nat) : ∀ (f : Nat) (rest out res : List Int), unpackF n f rest out = some res → res.length = n
  | 0, _, _, _, h => by cases h
  | f + 1, [], _, res, h => by
    unfold unpackF at h
    split at h
    · cases h; assumption
    · cases h
  | f + 1, c :: r, out, res, h => by
    unfold unpackF at h
    split at h
    · split at h
      · cases h
      · exact unpackF_len n f _ _ _ h
    · split at h
      · cases h
      · exact unpackF_len n f _ _ _ h
theorem unpackF_bs (n : Nat) : ∀ (f : Nat) (rest out res : List Int), Bs rest → Bs out → unpackF n f rest out = some res → Bs res
  | 0, _, _, _, _, _, h => by cases h
  | f + 1, [], out, res, _, ho, h => by
    unfold unpackF at h
    split at h
    · cases h; exact ho
    · cases h
  | f + 1, c :: r, out, res, hr, ho, h => by
    have hr' : Bs r := fun x hx => hr x (List.mem_cons_of_mem _ hx)
    unfold unpackF at h
    split at h
    · split at h
      · cases h
      · exact unpackF_bs n f _ _ _ (hr'.drop _) (ho.app (hr'.take _)) h
    · split at h
      · cases h
      · exact unpackF_bs n f _ _ _ (hr'.drop _) (copyF_bs _ _ _ ho) h
theorem unpackS_bs (zs : List Int) (h : Bs zs) : Bs (unpackS zs).2 := by
  unfold unpackS
  split
  · exact Bs.nil
  · split
    · exact Bs.nil
    · split
      · exact Bs.nil
      · rename_i out ho
        exact unpackF_bs _ _ _ _ _ (h.drop 4) Bs.nil ho

/-! ### What the walk meets -/
/-- A row of n numbers: what was told, and noughts behind. -/
def rowN (n : Nat) (told : List Int) : List Int := told ++ List.replicate (n - told.length) 0
theorem rowN_len {n : Nat} {told : List Int} (h : told.length ≤ n) : (rowN n told).length = n := by
  unfold rowN; simp; omega
theorem rowN_get {n : Nat} {told : List Int} {j : Nat} (h : j < told.length) : (rowN n told).getD j 0 = told.getD j 0 := by
  unfold rowN
  simp [List.getD, List.getElem?_append_left h]
theorem rowN_full {told : List Int} : rowN told.length told = told := by
  unfold rowN; simp
theorem rowN_splice {n : Nat} {told xs : List Int} (h : told.length + xs.length ≤ n) : splice (u8s (rowN n told)) told.length (u8s xs) = u8s (rowN n (told ++ xs)) := by
  unfold splice rowN
  rw [u8s_length, u8s_append]
  have e1 : (u8s told ++ u8s (List.replicate (n - told.length) 0)).take told.length = u8s told := by
    rw [List.take_append_of_le_length (by rw [u8s_length]; omega), List.take_of_length_le (by rw [u8s_length]; omega)]
  have e2 : (u8s told ++ u8s (List.replicate (n - told.length) 0)).drop (told.length + xs.length) = u8s (List.replicate (n - (told ++ xs).length) 0) := by
    rw [List.drop_append]
    rw [List.drop_eq_nil_of_le (by rw [u8s_length]; omega), u8s_length, List.nil_append]
    unfold u8s
    rw [List.map_replicate, List.map_replicate, List.drop_replicate, List.length_append]
    congr 1
    omega
  rw [e1, e2, u8s_append, u8s_append, List.append_assoc]
theorem rowN_set {n : Nat} {told : List Int} {v : Int} (h : told.length < n) : (u8s (rowN n told)).toArray.setIfInBounds told.length (.int .u8 v) = (u8s (rowN n (told ++ [v]))).toArray := by
  have e := rowN_splice (n := n) (told := told) (xs := [v]) (by simp; omega)
  rw [← e]
  apply Array.ext'
  simp only [splice, u8s, List.map_cons, List.map_nil, List.length_cons, List.length_nil, List.setIfInBounds_toArray]
  rw [List.set_eq_take_append_cons_drop, if_pos (by simp [rowN]; omega)]
  simp
/-- The number that the four bytes say, as the walk has it. -/
theorem i64_or_nat' (a b : Nat) (ha : a < 9223372036854775808) (hb : b < 9223372036854775808) : bits .or .i64 (a : Int) (b : Int) = ((a ||| b : Nat) : Int) := by
  have hx : a ||| b < 2 ^ 63 := Nat.or_lt_two_pow (by omega) (by omega)
  have e : ∀ x : Nat, x < 9223372036854775808 → (BitVec.ofInt 64 (x : Int)).toNat = x := fun x h => by
    rw [BitVec.ofInt_natCast, BitVec.toNat_ofNat]; exact Nat.mod_eq_of_lt (by omega)
  show IntKind.i64.wrap ((BitVec.ofInt 64 (a : Int) ||| BitVec.ofInt 64 (b : Int)).toNat : Int) = _
  rw [BitVec.toNat_or, e a ha, e b hb, IntKind.wrap_i64]
  omega
theorem or_four (x0 x1 x2 x3 : Int) (p0 : 0 ≤ x0) (q0 : x0 < 256) (p1 : 0 ≤ x1) (q1 : x1 < 256) (p2 : 0 ≤ x2) (q2 : x2 < 256) (p3 : 0 ≤ x3) (q3 : x3 < 256) :
    bits .or .i64 (bits .or .i64 (bits .or .i64 (x0 * 16777216) (x1 * 65536)) (x2 * 256)) x3 = ((x0.toNat * 16777216 + x1.toNat * 65536 + x2.toNat * 256 + x3.toNat : Nat) : Int) := by
  obtain ⟨a, rfl⟩ := Int.eq_ofNat_of_zero_le p0
  obtain ⟨b, rfl⟩ := Int.eq_ofNat_of_zero_le p1
  obtain ⟨c, rfl⟩ := Int.eq_ofNat_of_zero_le p2
  obtain ⟨d, rfl⟩ := Int.eq_ofNat_of_zero_le p3
  have e1 : a * 16777216 ||| b * 65536 = a * 16777216 + b * 65536 := by
    have := Nat.two_pow_add_eq_or_of_lt (i := 24) (b := b * 65536) (by omega) a
    rw [show a * 16777216 = 2 ^ 24 * a by omega, ← this]
  have e2 : (a * 16777216 + b * 65536) ||| c * 256 = a * 16777216 + b * 65536 + c * 256 := by
    have := Nat.two_pow_add_eq_or_of_lt (i := 16) (b := c * 256) (by omega) (a * 256 + b)
    rw [show a * 16777216 + b * 65536 = 2 ^ 16 * (a * 256 + b) by omega, ← this]
  have e3 : (a * 16777216 + b * 65536 + c * 256) ||| d = a * 16777216 + b * 65536 + c * 256 + d := by
    have := Nat.two_pow_add_eq_or_of_lt (i := 8) (b := d) (by omega) (a * 65536 + b * 256 + c)
    rw [show a * 16777216 + b * 65536 + c * 256 = 2 ^ 8 * (a * 65536 + b * 256 + c) by omega, ← this]
  rw [show (a : Int) * 16777216 = ((a * 16777216 : Nat) : Int) by omega, show (b : Int) * 65536 = ((b * 65536 : Nat) : Int) by omega, show (c : Int) * 256 = ((c * 256 : Nat) : Int) by omega]
  rw [i64_or_nat' _ _ (by omega) (by omega), e1, i64_or_nat' _ _ (by omega) (by omega), e2, i64_or_nat' _ _ (by omega) (by omega), e3]
  simp only [Int.toNat_natCast]
open Go.RowKit
/-- The state of Unpack's loop: what is left of the bytes, what was told. R: what comes out at last. -/
def UState (B : Nat) (e : TypeId) (w wr : World) (n : Nat) (told rest : List Int) (p : Option Addr) (g : Nat) (R : Option (List Int)) : Prop :=
  Byt wr B p g rest ∧ wr.heap[B]? = some (.cells (u8s (rowN n told)).toArray e (0, 0)) ∧ Below B w wr ∧ told.length ≤ n ∧ unpackF n (g + 1) rest told = R
theorem unpackF_at {n g : Nat} {rest told : List Int} (h : rest.length ≤ g) : unpackF n (g + 1) rest told = unpackF n (rest.length + 1) rest told :=
  unpackF_enough n _ _ rest told (by omega) (by omega)
theorem u_end {n : Nat} {told : List Int} : unpackF n 1 [] told = if told.length = n then some told else none := rfl
/-- A run. -/
theorem u_run {n k g : Nat} {r told : List Int} {R : Option (List Int)} (hk : k < 128) (h : unpackF n (g + 2) ((k : Int) :: r) told = R) (hr : r.length = g) :
    ((g < k + 1 ∨ n - told.length < k + 1) → R = none) ∧ (k + 1 ≤ g → k + 1 ≤ n - told.length → unpackF n (g - (k + 1) + 1) (r.drop (k + 1)) (told ++ r.take (k + 1)) = R) := by
  have e : unpackF n (g + 2) ((k : Int) :: r) told = if (k : Int) < 128 then
      (if r.length < (k : Int).toNat + 1 ∨ n - told.length < (k : Int).toNat + 1 then none else unpackF n (g + 1) (r.drop ((k : Int).toNat + 1)) (told ++ r.take ((k : Int).toNat + 1)))
    else (if r.length < 1 ∨ r.getD 0 0 = 0 ∨ told.length < (r.getD 0 0).toNat ∨ n - told.length < (k : Int).toNat - 125 then none else unpackF n (g + 1) (r.drop 1) (copyF (r.getD 0 0).toNat ((k : Int).toNat - 125) told)) := rfl
  rw [e, if_pos (by omega), Int.toNat_natCast] at h
  constructor
  · intro hh
    rw [if_pos (by omega)] at h
    exact h.symm
  · intro h1 h2
    rw [if_neg (by omega)] at h
    rw [← h]
    exact unpackF_enough n _ _ _ _ (by simp; omega) (by simp; omega)
/-- A match. -/
theorem u_match {n k g : Nat} {r told : List Int} {R : Option (List Int)} (hk : 128 ≤ k) (h : unpackF n (g + 2) ((k : Int) :: r) told = R) (hr : r.length = g) :
    (g < 1 → R = none) ∧ (∀ d : Nat, r.getD 0 0 = (d : Int) → ((d = 0 ∨ told.length < d ∨ n - told.length < k - 125) → R = none) ∧
      (1 ≤ g → 1 ≤ d → d ≤ told.length → k - 125 ≤ n - told.length → unpackF n (g - 1 + 1) (r.drop 1) (copyF d (k - 125) told) = R)) := by
  have e : unpackF n (g + 2) ((k : Int) :: r) told = if (k : Int) < 128 then
      (if r.length < (k : Int).toNat + 1 ∨ n - told.length < (k : Int).toNat + 1 then none else unpackF n (g + 1) (r.drop ((k : Int).toNat + 1)) (told ++ r.take ((k : Int).toNat + 1)))
    else (if r.length < 1 ∨ r.getD 0 0 = 0 ∨ told.length < (r.getD 0 0).toNat ∨ n - told.length < (k : Int).toNat - 125 then none else unpackF n (g + 1) (r.drop 1) (copyF (r.getD 0 0).toNat ((k : Int).toNat - 125) told)) := rfl
  rw [e, if_neg (by omega), Int.toNat_natCast] at h
  constructor
  · intro hh
    rw [if_pos (by omega)] at h
    exact h.symm
  · intro d hd
    rw [hd, Int.toNat_natCast] at h
    constructor
    · intro hh
      rw [if_pos (by omega)] at h
      exact h.symm
    · intro h1 h2 h3 h4
      rw [if_neg (by omega)] at h
      rw [← h]
      exact unpackF_enough n _ _ _ _ (by simp; omega) (by simp; omega)
theorem u_cell {B : Nat} {e : TypeId} {w : World} {n : Nat} {told : List Int} (h : w.heap[B]? = some (.cells (u8s (rowN n told)).toArray e (0, 0))) (ht : told.length ≤ n) (j : Nat) (hj : j < n) :
    w.cell? ⟨B, j, none⟩ = some (.int .u8 ((rowN n told).getD j 0)) := by
  rw [cell_of_row w B j _ e (0, 0) h, List.getElem?_toArray]
  exact u8s_get _ j (by rw [rowN_len ht]; exact hj)
theorem lt_of_row {B : Nat} {w : World} {o : Obj} (h : w.heap[B]? = some o) : B < w.heap.size := (Array.getElem?_eq_some_iff.1 h).1
theorem u_free {B : Nat} {e : TypeId} {w : World} {cs : Array Value} (h : w.heap[B]? = some (.cells cs e (0, 0))) (j : Nat) : w.frozen? ⟨B, j, none⟩ = false := by
  simp [World.frozen?, h]
theorem u_store {B : Nat} {e : TypeId} {w : World} {n : Nat} {told : List Int} {v : Int} (h : w.heap[B]? = some (.cells (u8s (rowN n told)).toArray e (0, 0))) (ht : told.length < n) :
    (w.setCell ⟨B, told.length, none⟩ (.int .u8 v)).heap[B]? = some (.cells (u8s (rowN n (told ++ [v]))).toArray e (0, 0)) := by
  simp only [World.setCell, Array.getElem?_modify, if_true, h, Option.map_some, rowN_set ht]
  rfl
theorem u_own {B n : Nat} {e : TypeId} {w : World} {told : List Int} (h : w.heap[B]? = some (.cells (u8s (rowN n told)).toArray e (0, 0))) (hn : n ≤ maxLen) (ht : told.length = n) :
    w.ownsRow B e 1 (.slice (some ⟨B, 0, none⟩) n n) n (u8s told) := by
  subst ht
  rw [rowN_full] at h
  exact ⟨by rw [u8s_length]; omega, .inr ⟨B, told.length, _, rfl, Nat.le_refl _, h, Nat.le_refl _, hn, by simp [u8s_length], by rw [List.take_of_length_le (by rw [u8s_length]; omega)]⟩⟩
/-- What was told answers the whole. -/
theorem unpackS_none {zs : List Int} (h4 : ¬ zs.length < 4) (hh : ¬ 65536 < hdr zs) (h : unpackF (hdr zs) zs.length (zs.drop 4) [] = none) : unpackS zs = (110, []) := by
  unfold unpackS; rw [if_neg h4, if_neg hh, h]
theorem unpackS_some {zs out : List Int} (h4 : ¬ zs.length < 4) (hh : ¬ 65536 < hdr zs) (h : unpackF (hdr zs) zs.length (zs.drop 4) [] = some out) : unpackS zs = (0, out) := by
  unfold unpackS; rw [if_neg h4, if_neg hh, h]
theorem unpackS_long {zs : List Int} (h4 : ¬ zs.length < 4) (hh : 65536 < hdr zs) : unpackS zs = (3, []) := by
  unfold unpackS; rw [if_neg h4, if_pos hh]
theorem unpackS_short {zs : List Int} (h4 : zs.length < 4) : unpackS zs = (110, []) := by
  unfold unpackS; rw [if_pos h4]

end Go.Proofs.Ytfhibpgmmffgjaa
