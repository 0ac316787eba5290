/- bytes.Equal by its own text. -/
import Derived.Test.YtajfamjdfhjdeaaFacts
import Derived.Test.YtajfamjdfhjdeaaKit
import Derived.WalkKit
import Derived.WalkSpells
namespace Go.Proofs.Ytajfamjdfhjdeaa
open Go.RowKit

theorem strOf_eq {xs ys : List Int} (hx : Bs xs) (hy : Bs ys) : (strOfNums xs = strOfNums ys) ↔ xs = ys := by
  constructor
  · intro h
    have h1 : (xs.map fun n => UInt8.ofNat n.toNat) = (ys.map fun n => UInt8.ofNat n.toNat) := by
      have := congrArg (fun b : ByteArray => b.data.toList) h
      simpa [strOfNums] using this
    clear h
    induction xs generalizing ys with
    | nil => cases ys with
      | nil => rfl
      | cons y ys => simp at h1
    | cons x xs ih => cases ys with
      | nil => simp at h1
      | cons y ys =>
        simp only [List.map_cons, List.cons.injEq] at h1
        obtain ⟨h2, h3⟩ := h1
        have a := hx x (by simp)
        have b := hy y (by simp)
        have e := congrArg UInt8.toNat h2
        simp only [UInt8.toNat_ofNat'] at e
        have : x = y := by omega
        rw [this, ih (fun z hz => hx z (List.mem_cons_of_mem _ hz)) (fun z hz => hy z (List.mem_cons_of_mem _ hz)) h3]
  · rintro rfl; rfl

theorem equal_any (p1 p2 : Option Addr) (n c m d B1 B2 : Nat) (xs ys : List Int) (w : World) (h1 : Byt w B1 p1 n xs) (h2 : Byt w B2 p2 m ys) :
    Calls Try.prog 110 #[.slice p1 n c, .slice p2 m d] w fun e w' => e = .returned (.bool (decide (xs = ys))) ∧ w = w' := by
  have c1 := Lib.BytesIn.convert (P := Try.prog) h1.lib h1.len c 22 5 9 Try.underlying22 Try.underlying5 Try.underlying9
  have c2 := Lib.BytesIn.convert (P := Try.prog) h2.lib h2.len d 22 5 9 Try.underlying22 Try.underlying5 Try.underlying9
  have e1 := strOf_eq h1.bs h2.bs
  obtain ⟨s, hs⟩ : ∃ s, strOfNums xs = s := ⟨_, rfl⟩
  obtain ⟨t, ht⟩ : ∃ t, strOfNums ys = t := ⟨_, rfl⟩
  rw [hs] at c1 e1
  rw [ht] at c2 e1
  have E := box e1
  clear e1 hs ht h1 h2
  go_enter Try.func110, Try.ntmps110
  go_wp2
  go_ret
  refine ⟨ret_bool ?_, rfl⟩
  rw [Bool.eq_iff_iff, beq_iff_eq, decide_eq_true_iff, ← E.out, Lib.toList_data, Lib.toList_data]
  constructor
  · intro h
    cases s; cases t
    simp only [ByteArray.mk.injEq]
    exact Array.ext' h
  · rintro rfl; rfl
#print axioms equal_any
end Go.Proofs.Ytajfamjdfhjdeaa
