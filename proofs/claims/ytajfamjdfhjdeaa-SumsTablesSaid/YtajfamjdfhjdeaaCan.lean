/- (*face.Handle).File, (*face.Handle).Can. -/
import Derived.Test.YtajfamjdfhjdeaaOnly
import Derived.Test.YtajfamjdfhjdeaaApp8
namespace Go.Proofs.Ytajfamjdfhjdeaa
open Go.RowKit

theorem file_any {w : World} {H P m : Nat} {T : TypeId} {v : Value} (h : Hand w H P m T v) :
    Calls Try.prog 32 #[.pointer (some ⟨H, 0, none⟩)] w fun e w' => e = .returned (fileOf P m) ∧ w' = w := by
  obtain ⟨c0, c1, c2, c3, c4, c5⟩ := h.cells
  clear c0 c1 c2 c3 c4 h
  go_enter Try.func32, Try.ntmps32
  go_wp2_with fail
  go_ret
  exact ⟨rfl, rfl⟩

theorem of_bits {m : Nat} (h : m < 16) : m = (m.testBit 0).toNat + 2 * (m.testBit 1).toNat + 4 * (m.testBit 2).toNat + 8 * (m.testBit 3).toNat := by
  rcases lt16 h with rfl | rfl | rfl | rfl | rfl | rfl | rfl | rfl | rfl | rfl | rfl | rfl | rfl | rfl | rfl | rfl <;> rfl

set_option maxHeartbeats 4000000 in
theorem can_any {w : World} {H P m : Nat} {T : TypeId} {v : Value} (h : Hand w H P m T v) :
    Calls Try.prog 36 #[.pointer (some ⟨H, 0, none⟩)] w fun e w' => e = .returned (.int .u8 (m : Int)) ∧ w' = w := by
  have t0 := fun x => asks h.lt (show 0 < 4 by omega) x
  have t1 := fun x => asks h.lt (show 1 < 4 by omega) x
  have t2 := fun x => asks h.lt (show 2 < 4 by omega) x
  have t3 := fun x => asks h.lt (show 3 < 4 by omega) x
  have hm := box (of_bits h.lt)
  have hf := box (file_any h)
  clear h
  unfold fileOf at hf
  unfold ifaceT at t0 t1 t2 t3
  generalize pT m = pt at t0 t1 t2 t3 hf
  cases hb0 : m.testBit 0 <;> cases hb1 : m.testBit 1 <;> cases hb2 : m.testBit 2 <;> cases hb3 : m.testBit 3 <;>
    simp only [hb0, hb1, hb2, hb3, if_true, if_false, Bool.false_eq_true] at t0 t1 t2 t3 hm <;>
    clear hb0 hb1 hb2 hb3 <;>
    (go_enter Try.func36, Try.ntmps36
     go_wp2_with fail
     refine hf.out.mono ?_
     rintro e w' ⟨rfl, rfl⟩
     clear hf
     go_wp2_with fail
     go_ret
     refine ⟨?_, rfl⟩
     rw [hm.out]
     rfl)

theorem fresh_any {w : World} {A : Option Addr} {n c B : Nat} {zs : List Int} (h : Byt w B A n zs) (hn : n ≤ 4294967296) :
    Calls Try.prog 37 #[.slice A n c] w fun e w' => ∃ A' c', e = .returned (.slice A' n c') ∧ Own8 w' w.heap.size A' n c' zs ∧ Below w.heap.size w w' := by
  have HS := box h.src
  clear h
  go_enter Try.func37, Try.ntmps37
  go_wp2_with (at_builtin; refine app8 w (.const (.slice none 0 0)) (.tmp 3) w.heap.size (Own8.nil _ _) HS.out rfl rfl rfl rfl (by omega) (Nat.le_refl _) ?_; intro A1 c1 w1 O1 b1 s1)
  go_ret
  rw [Nat.zero_add, List.nil_append] at O1
  exact ⟨_, _, rfl, O1, b1⟩
end Go.Proofs.Ytajfamjdfhjdeaa
