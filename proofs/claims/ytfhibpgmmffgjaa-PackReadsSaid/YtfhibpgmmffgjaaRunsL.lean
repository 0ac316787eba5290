/- The plain law of pack.runs: bytes that stand for themselves, in pieces of at most 128. -/
import Derived.Test.YtfhibpgmmffgjaaKit
namespace Go.Proofs.Ytfhibpgmmffgjaa
def runsF : Nat → List Int → List Int
  | 0, _ => []
  | _ + 1, [] => []
  | f + 1, x :: xs => (((min 128 (x :: xs).length : Nat) : Int) - 1) :: ((x :: xs).take 128 ++ runsF f ((x :: xs).drop 128))
/-- Runs. -/
def runsS (zs : List Int) : List Int := runsF zs.length zs

theorem runsF_enough : ∀ (f g : Nat) (zs : List Int), zs.length ≤ f → zs.length ≤ g → runsF f zs = runsF g zs
  | 0, 0, _, _, _ => rfl
  | 0, g + 1, zs, hf, _ => by
    obtain rfl : zs = [] := List.eq_nil_of_length_eq_zero (by omega)
    rfl
  | f + 1, 0, zs, _, hg => by
    obtain rfl : zs = [] := List.eq_nil_of_length_eq_zero (by omega)
    rfl
  | f + 1, g + 1, [], _, _ => rfl
  | f + 1, g + 1, x :: xs, hf, hg => by
    unfold runsF
    rw [runsF_enough f g ((x :: xs).drop 128) (by simp at *; omega) (by simp at *; omega)]
theorem runsS_nil : runsS [] = [] := rfl
theorem runsS_step (zs : List Int) (h : 0 < zs.length) : runsS zs = (((min 128 zs.length : Nat) : Int) - 1) :: (zs.take 128 ++ runsS (zs.drop 128)) := by
  cases zs with
  | nil => simp at h
  | cons x xs =>
    have e : runsF (x :: xs).length (x :: xs) = (((min 128 (x :: xs).length : Nat) : Int) - 1) :: ((x :: xs).take 128 ++ runsF xs.length ((x :: xs).drop 128)) := rfl
    unfold runsS
    rw [e, runsF_enough xs.length ((x :: xs).drop 128).length ((x :: xs).drop 128) (by simp) (Nat.le_refl _)]
theorem runsS_len (zs : List Int) : (runsS zs).length = zs.length + (zs.length + 127) / 128 := by
  induction h : zs.length using Nat.strongRecOn generalizing zs with
  | _ n ih =>
    by_cases h0 : 0 < zs.length
    · rw [runsS_step zs h0, List.length_cons, List.length_append, ih (zs.drop 128).length (by simp; omega) (zs.drop 128) rfl]
      simp
      omega
    · obtain rfl : zs = [] := List.eq_nil_of_length_eq_zero (by omega)
      subst h
      rfl
theorem runsS_bs (zs : List Int) (hz : Bs zs) : Bs (runsS zs) := by
  induction h : zs.length using Nat.strongRecOn generalizing zs with
  | _ n ih =>
    by_cases h0 : 0 < zs.length
    · rw [runsS_step zs h0]
      exact Bs.cons (by omega) ((hz.take 128).app (ih (zs.drop 128).length (by simp; omega) (zs.drop 128) (hz.drop 128) rfl))
    · obtain rfl : zs = [] := List.eq_nil_of_length_eq_zero (by omega)
      exact Bs.nil
open Go.RowKit
/-- One piece more. -/
theorem runs_step {B n1 m gk c2 c3 b o : Nat} {A1 A2 A3 : Option Addr} {c1 : Nat} {w wr wx w2 w3 : World} {e : TypeId} {xs pre rest zs : List Int} (h2 : Byt wr B (some ⟨b, o, none⟩) gk rest) (h3 : Below B w wr) (hb2 : Below B wr w2)
    (h5 : runsS zs = pre ++ runsS rest) (hm : m = min 128 gk) (hg : gk ≠ 0) (hB : B ≤ wr.heap.size)
    (l2 : AppLeft wx B e 1 (.slice A1 n1 c1) n1 1 (u8s (xs ++ pre)) (u8s [(m : Int) - 1]) A2 c2 w2)
    (l3 : AppLeft w2 B e 1 (.slice A2 (n1 + 1) c2) (n1 + 1) m (u8s (xs ++ pre) ++ u8s [(m : Int) - 1]) (u8s (rest.take m)) A3 c3 w3) :
    w3.ownsRow B e 1 (.slice A3 (n1 + 1 + m) c3) (n1 + 1 + m) (u8s (xs ++ (pre ++ ((m : Int) - 1) :: rest.take m))) ∧ Byt w3 B (some ⟨b, o + m, none⟩) (gk - m) (rest.drop m) ∧ Below B w w3 ∧ B ≤ w3.heap.size ∧
      runsS zs = (pre ++ ((m : Int) - 1) :: rest.take m) ++ runsS (rest.drop m) := by
  have hb3 : Below B wr w3 := Below.app hb2 l3 l2.1 (Nat.le_refl _) (by have := hb2.size; omega)
  have hl := h2.len
  refine ⟨?_, (h2.below hb3).drop (by omega), h3.trans hb3, by have := hb3.size; omega, ?_⟩
  · have := l3.1
    rw [← u8s_append, ← u8s_append] at this
    simpa using this
  · rw [h5, runsS_step rest (by omega)]
    have e1 : min 128 rest.length = m := by omega
    have e2 : rest.take 128 = rest.take m := by
      by_cases h : gk ≤ 128
      · rw [List.take_of_length_le (by omega), List.take_of_length_le (by omega)]
      · rw [show m = 128 by omega]
    have e3 : rest.drop 128 = rest.drop m := by
      by_cases h : gk ≤ 128
      · rw [List.drop_eq_nil_of_le (by omega), List.drop_eq_nil_of_le (by omega)]
      · rw [show m = 128 by omega]
    rw [e1, e2, e3]
    simp
end Go.Proofs.Ytfhibpgmmffgjaa
