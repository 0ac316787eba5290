/- Plain law: FNV sums of bytes. One byte that differs makes the sums differ. No program. -/
import Derived.WalkKit
import Derived.Laws.Entries
namespace Go.Proofs.Ytajfamjdfhjdeaa
open Go.RowKit

def fnvStep (s x : Int) : Int := IntKind.u64.wrap (bits .xor .u64 s x * 1099511628211)
def fnv (s : Int) (zs : List Int) : Int := zs.foldl fnvStep s
def fnv0 : Int := 14695981039346656037

theorem fnv_snoc (s : Int) (zs : List Int) (x : Int) : fnv s (zs ++ [x]) = fnvStep (fnv s zs) x := by
  unfold fnv
  rw [List.foldl_append]
  rfl
theorem fnv_append (s : Int) (a b : List Int) : fnv s (a ++ b) = fnv (fnv s a) b := List.foldl_append
theorem wrap_u64 (n : Int) : IntKind.u64.wrap n = n % 18446744073709551616 := by
  have h1 : IntKind.u64.signed = false := rfl
  have h2 : (2 : Int) ^ IntKind.u64.bits = 18446744073709551616 := rfl
  unfold IntKind.wrap
  simp only [h1, h2, Bool.false_and, Bool.false_eq_true, if_false]
theorem fnvStep_bd (s x : Int) : 0 ≤ fnvStep s x ∧ fnvStep s x < 18446744073709551616 := by
  unfold fnvStep
  rw [wrap_u64]
  omega
theorem fnv_bd (zs : List Int) : ∀ s, 0 ≤ s ∧ s < 18446744073709551616 → 0 ≤ fnv s zs ∧ fnv s zs < 18446744073709551616 := by
  induction zs with
  | nil => exact fun s h => h
  | cons x zs ih => exact fun s _ => ih _ (fnvStep_bd s x)

def fnvB (s x : BitVec 64) : BitVec 64 := (s ^^^ x) * 1099511628211#64
theorem mul_inj (a b : BitVec 64) (h : a * 1099511628211#64 = b * 1099511628211#64) : a = b := by
  have h2 := congrArg (· * 14886173955864302971#64) h
  simp only [BitVec.mul_assoc] at h2
  have e : 1099511628211#64 * 14886173955864302971#64 = 1#64 := by decide
  rw [e, BitVec.mul_one, BitVec.mul_one] at h2
  exact h2
theorem xor_cancel (a x : BitVec 64) : (a ^^^ x) ^^^ x = a := by
  rw [BitVec.xor_assoc, BitVec.xor_self, BitVec.xor_zero]
theorem fnvStep_eq (s x : Int) : fnvStep s x = ((fnvB (BitVec.ofInt 64 s) (BitVec.ofInt 64 x)).toNat : Int) := by
  have hb : bits .xor .u64 s x = (((BitVec.ofInt 64 s ^^^ BitVec.ofInt 64 x).toNat : Nat) : Int) := by
    show IntKind.u64.wrap (((BitVec.ofInt 64 s ^^^ BitVec.ofInt 64 x).toNat : Nat) : Int) = _
    rw [wrap_u64]
    have := (BitVec.ofInt 64 s ^^^ BitVec.ofInt 64 x).isLt
    exact Int.emod_eq_of_lt (by omega) (by omega)
  unfold fnvStep fnvB
  rw [hb, wrap_u64, BitVec.toNat_mul]
  have e : (1099511628211#64).toNat = 1099511628211 := by decide
  rw [e]
  omega
theorem ofInt_inj {a b : Int} (ha : 0 ≤ a ∧ a < 18446744073709551616) (hb : 0 ≤ b ∧ b < 18446744073709551616) (h : BitVec.ofInt 64 a = BitVec.ofInt 64 b) : a = b := by
  have h1 := congrArg BitVec.toNat h
  rw [BitVec.toNat_ofInt, BitVec.toNat_ofInt] at h1
  have e : (2 : Int) ^ 64 = 18446744073709551616 := by decide
  have e1 : (((2 ^ 64 : Nat)) : Int) = 18446744073709551616 := by decide
  rw [e1] at h1
  omega
theorem fnvStep_left {s t x : Int} (hs : 0 ≤ s ∧ s < 18446744073709551616) (ht : 0 ≤ t ∧ t < 18446744073709551616) (h : fnvStep s x = fnvStep t x) : s = t := by
  rw [fnvStep_eq, fnvStep_eq] at h
  have h1 := mul_inj _ _ (BitVec.eq_of_toNat_eq (by omega : (fnvB (BitVec.ofInt 64 s) (BitVec.ofInt 64 x)).toNat = (fnvB (BitVec.ofInt 64 t) (BitVec.ofInt 64 x)).toNat))
  have h2 := congrArg (· ^^^ BitVec.ofInt 64 x) h1
  simp only [xor_cancel] at h2
  exact ofInt_inj hs ht h2
theorem fnvStep_right {s x y : Int} (hx : 0 ≤ x ∧ x < 256) (hy : 0 ≤ y ∧ y < 256) (h : fnvStep s x = fnvStep s y) : x = y := by
  rw [fnvStep_eq, fnvStep_eq] at h
  have h1 := mul_inj _ _ (BitVec.eq_of_toNat_eq (by omega : (fnvB (BitVec.ofInt 64 s) (BitVec.ofInt 64 x)).toNat = (fnvB (BitVec.ofInt 64 s) (BitVec.ofInt 64 y)).toNat))
  rw [BitVec.xor_comm _ (BitVec.ofInt 64 x), BitVec.xor_comm _ (BitVec.ofInt 64 y)] at h1
  have h2 := congrArg (· ^^^ BitVec.ofInt 64 s) h1
  simp only [xor_cancel] at h2
  exact ofInt_inj ⟨hx.1, by omega⟩ ⟨hy.1, by omega⟩ h2
theorem fnv_left (zs : List Int) : ∀ {s t : Int}, 0 ≤ s ∧ s < 18446744073709551616 → 0 ≤ t ∧ t < 18446744073709551616 → fnv s zs = fnv t zs → s = t := by
  induction zs with
  | nil => exact fun _ _ h => h
  | cons x zs ih => exact fun hs ht h => fnvStep_left hs ht (ih (fnvStep_bd _ x) (fnvStep_bd _ x) h)

/-- The sums of two lists that part at most at one place are alike just if the lists are. -/
theorem fnv_set {zs : List Int} {k : Nat} {x : Int} (hk : k < zs.length) (hz : 0 ≤ zs.getD k 0 ∧ zs.getD k 0 < 256) (hx : 0 ≤ x ∧ x < 256) : fnv fnv0 zs = fnv fnv0 (zs.set k x) ↔ zs.getD k 0 = x := by
  have h0 : (0 : Int) ≤ fnv0 ∧ fnv0 < 18446744073709551616 := by decide
  have e1 : zs = zs.take k ++ zs.getD k 0 :: zs.drop (k + 1) := by
    have : zs.getD k 0 = zs[k] := by simp [List.getD, hk]
    rw [this, ← List.drop_eq_getElem_cons hk, List.take_append_drop]
  have e2 : zs.set k x = zs.take k ++ x :: zs.drop (k + 1) := by
    rw [List.set_eq_take_append_cons_drop, if_pos hk]
  constructor
  · intro h
    rw [e2] at h
    conv at h => lhs; rw [e1]
    rw [fnv_append, fnv_append] at h
    have h1 := fnv_left (zs.drop (k + 1)) (fnvStep_bd _ _) (fnvStep_bd _ _) (show fnv (fnvStep (fnv fnv0 (zs.take k)) (zs.getD k 0)) (zs.drop (k + 1)) = fnv (fnvStep (fnv fnv0 (zs.take k)) x) (zs.drop (k + 1)) from h)
    exact fnvStep_right hz hx h1
  · intro h
    rw [← h]
    have : zs.set k (zs.getD k 0) = zs := by
      have : zs.getD k 0 = zs[k] := by simp [List.getD, hk]
      rw [this, List.set_getElem_self]
    rw [this]
end Go.Proofs.Ytajfamjdfhjdeaa
