/- face.Make. (Printed by mkmake.py.) -/
import Derived.Test.YtajfamjdfhjdeaaPut
namespace Go.Proofs.Ytajfamjdfhjdeaa
open Go.RowKit

/-- The two blocks that Make lays. -/
def handAt (w : World) (m : Nat) (X : Value) : World :=
  (putAt w m X).alloc (.cells #[X, part? m 0 X, part? m 1 X, part? m 2 X, part? m 3 X, fileOf w.heap.size m] 91)

theorem make0 (T : TypeId) (v : Value) (w : World) :
    Calls Try.prog 34 #[.iface T v, .nilIface, .nilIface, .nilIface, .nilIface] w fun e w' => e = .returned (.pointer (some ⟨w.heap.size + 1, 0, none⟩)) ∧ w' = handAt w 0 (.iface T v) := by
  have hp := fun W => put0 T v W
  go_enter Try.func34, Try.ntmps34
  go_wp2_with fail
  refine (hp _).mono ?_
  rintro e w' ⟨rfl, hw⟩
  clear hp
  have hs : w'.heap.size = w.heap.size + 1 := by rw [hw]; simp [putAt]
  replace hw := box hw
  unfold fileOf
  go_wp2_with fail
  go_ret
  refine ⟨rfl, ?_⟩
  rw [handAt, ← hw.out]
  rfl
theorem make1 (T : TypeId) (v : Value) (w : World) :
    Calls Try.prog 34 #[.iface T v, .iface T v, .nilIface, .nilIface, .nilIface] w fun e w' => e = .returned (.pointer (some ⟨w.heap.size + 1, 0, none⟩)) ∧ w' = handAt w 1 (.iface T v) := by
  have hp := fun W => put1 T v W
  go_enter Try.func34, Try.ntmps34
  go_wp2_with fail
  refine (hp _).mono ?_
  rintro e w' ⟨rfl, hw⟩
  clear hp
  have hs : w'.heap.size = w.heap.size + 1 := by rw [hw]; simp [putAt]
  replace hw := box hw
  unfold fileOf
  go_wp2_with fail
  go_ret
  refine ⟨rfl, ?_⟩
  rw [handAt, ← hw.out]
  rfl
theorem make2 (T : TypeId) (v : Value) (w : World) :
    Calls Try.prog 34 #[.iface T v, .nilIface, .iface T v, .nilIface, .nilIface] w fun e w' => e = .returned (.pointer (some ⟨w.heap.size + 1, 0, none⟩)) ∧ w' = handAt w 2 (.iface T v) := by
  have hp := fun W => put2 T v W
  go_enter Try.func34, Try.ntmps34
  go_wp2_with fail
  refine (hp _).mono ?_
  rintro e w' ⟨rfl, hw⟩
  clear hp
  have hs : w'.heap.size = w.heap.size + 1 := by rw [hw]; simp [putAt]
  replace hw := box hw
  unfold fileOf
  go_wp2_with fail
  go_ret
  refine ⟨rfl, ?_⟩
  rw [handAt, ← hw.out]
  rfl
theorem make3 (T : TypeId) (v : Value) (w : World) :
    Calls Try.prog 34 #[.iface T v, .iface T v, .iface T v, .nilIface, .nilIface] w fun e w' => e = .returned (.pointer (some ⟨w.heap.size + 1, 0, none⟩)) ∧ w' = handAt w 3 (.iface T v) := by
  have hp := fun W => put3 T v W
  go_enter Try.func34, Try.ntmps34
  go_wp2_with fail
  refine (hp _).mono ?_
  rintro e w' ⟨rfl, hw⟩
  clear hp
  have hs : w'.heap.size = w.heap.size + 1 := by rw [hw]; simp [putAt]
  replace hw := box hw
  unfold fileOf
  go_wp2_with fail
  go_ret
  refine ⟨rfl, ?_⟩
  rw [handAt, ← hw.out]
  rfl
theorem make4 (T : TypeId) (v : Value) (w : World) :
    Calls Try.prog 34 #[.iface T v, .nilIface, .nilIface, .iface T v, .nilIface] w fun e w' => e = .returned (.pointer (some ⟨w.heap.size + 1, 0, none⟩)) ∧ w' = handAt w 4 (.iface T v) := by
  have hp := fun W => put4 T v W
  go_enter Try.func34, Try.ntmps34
  go_wp2_with fail
  refine (hp _).mono ?_
  rintro e w' ⟨rfl, hw⟩
  clear hp
  have hs : w'.heap.size = w.heap.size + 1 := by rw [hw]; simp [putAt]
  replace hw := box hw
  unfold fileOf
  go_wp2_with fail
  go_ret
  refine ⟨rfl, ?_⟩
  rw [handAt, ← hw.out]
  rfl
theorem make5 (T : TypeId) (v : Value) (w : World) :
    Calls Try.prog 34 #[.iface T v, .iface T v, .nilIface, .iface T v, .nilIface] w fun e w' => e = .returned (.pointer (some ⟨w.heap.size + 1, 0, none⟩)) ∧ w' = handAt w 5 (.iface T v) := by
  have hp := fun W => put5 T v W
  go_enter Try.func34, Try.ntmps34
  go_wp2_with fail
  refine (hp _).mono ?_
  rintro e w' ⟨rfl, hw⟩
  clear hp
  have hs : w'.heap.size = w.heap.size + 1 := by rw [hw]; simp [putAt]
  replace hw := box hw
  unfold fileOf
  go_wp2_with fail
  go_ret
  refine ⟨rfl, ?_⟩
  rw [handAt, ← hw.out]
  rfl
theorem make6 (T : TypeId) (v : Value) (w : World) :
    Calls Try.prog 34 #[.iface T v, .nilIface, .iface T v, .iface T v, .nilIface] w fun e w' => e = .returned (.pointer (some ⟨w.heap.size + 1, 0, none⟩)) ∧ w' = handAt w 6 (.iface T v) := by
  have hp := fun W => put6 T v W
  go_enter Try.func34, Try.ntmps34
  go_wp2_with fail
  refine (hp _).mono ?_
  rintro e w' ⟨rfl, hw⟩
  clear hp
  have hs : w'.heap.size = w.heap.size + 1 := by rw [hw]; simp [putAt]
  replace hw := box hw
  unfold fileOf
  go_wp2_with fail
  go_ret
  refine ⟨rfl, ?_⟩
  rw [handAt, ← hw.out]
  rfl
theorem make7 (T : TypeId) (v : Value) (w : World) :
    Calls Try.prog 34 #[.iface T v, .iface T v, .iface T v, .iface T v, .nilIface] w fun e w' => e = .returned (.pointer (some ⟨w.heap.size + 1, 0, none⟩)) ∧ w' = handAt w 7 (.iface T v) := by
  have hp := fun W => put7 T v W
  go_enter Try.func34, Try.ntmps34
  go_wp2_with fail
  refine (hp _).mono ?_
  rintro e w' ⟨rfl, hw⟩
  clear hp
  have hs : w'.heap.size = w.heap.size + 1 := by rw [hw]; simp [putAt]
  replace hw := box hw
  unfold fileOf
  go_wp2_with fail
  go_ret
  refine ⟨rfl, ?_⟩
  rw [handAt, ← hw.out]
  rfl
theorem make8 (T : TypeId) (v : Value) (w : World) :
    Calls Try.prog 34 #[.iface T v, .nilIface, .nilIface, .nilIface, .iface T v] w fun e w' => e = .returned (.pointer (some ⟨w.heap.size + 1, 0, none⟩)) ∧ w' = handAt w 8 (.iface T v) := by
  have hp := fun W => put8 T v W
  go_enter Try.func34, Try.ntmps34
  go_wp2_with fail
  refine (hp _).mono ?_
  rintro e w' ⟨rfl, hw⟩
  clear hp
  have hs : w'.heap.size = w.heap.size + 1 := by rw [hw]; simp [putAt]
  replace hw := box hw
  unfold fileOf
  go_wp2_with fail
  go_ret
  refine ⟨rfl, ?_⟩
  rw [handAt, ← hw.out]
  rfl
theorem make9 (T : TypeId) (v : Value) (w : World) :
    Calls Try.prog 34 #[.iface T v, .iface T v, .nilIface, .nilIface, .iface T v] w fun e w' => e = .returned (.pointer (some ⟨w.heap.size + 1, 0, none⟩)) ∧ w' = handAt w 9 (.iface T v) := by
  have hp := fun W => put9 T v W
  go_enter Try.func34, Try.ntmps34
  go_wp2_with fail
  refine (hp _).mono ?_
  rintro e w' ⟨rfl, hw⟩
  clear hp
  have hs : w'.heap.size = w.heap.size + 1 := by rw [hw]; simp [putAt]
  replace hw := box hw
  unfold fileOf
  go_wp2_with fail
  go_ret
  refine ⟨rfl, ?_⟩
  rw [handAt, ← hw.out]
  rfl
theorem make10 (T : TypeId) (v : Value) (w : World) :
    Calls Try.prog 34 #[.iface T v, .nilIface, .iface T v, .nilIface, .iface T v] w fun e w' => e = .returned (.pointer (some ⟨w.heap.size + 1, 0, none⟩)) ∧ w' = handAt w 10 (.iface T v) := by
  have hp := fun W => put10 T v W
  go_enter Try.func34, Try.ntmps34
  go_wp2_with fail
  refine (hp _).mono ?_
  rintro e w' ⟨rfl, hw⟩
  clear hp
  have hs : w'.heap.size = w.heap.size + 1 := by rw [hw]; simp [putAt]
  replace hw := box hw
  unfold fileOf
  go_wp2_with fail
  go_ret
  refine ⟨rfl, ?_⟩
  rw [handAt, ← hw.out]
  rfl
theorem make11 (T : TypeId) (v : Value) (w : World) :
    Calls Try.prog 34 #[.iface T v, .iface T v, .iface T v, .nilIface, .iface T v] w fun e w' => e = .returned (.pointer (some ⟨w.heap.size + 1, 0, none⟩)) ∧ w' = handAt w 11 (.iface T v) := by
  have hp := fun W => put11 T v W
  go_enter Try.func34, Try.ntmps34
  go_wp2_with fail
  refine (hp _).mono ?_
  rintro e w' ⟨rfl, hw⟩
  clear hp
  have hs : w'.heap.size = w.heap.size + 1 := by rw [hw]; simp [putAt]
  replace hw := box hw
  unfold fileOf
  go_wp2_with fail
  go_ret
  refine ⟨rfl, ?_⟩
  rw [handAt, ← hw.out]
  rfl
theorem make12 (T : TypeId) (v : Value) (w : World) :
    Calls Try.prog 34 #[.iface T v, .nilIface, .nilIface, .iface T v, .iface T v] w fun e w' => e = .returned (.pointer (some ⟨w.heap.size + 1, 0, none⟩)) ∧ w' = handAt w 12 (.iface T v) := by
  have hp := fun W => put12 T v W
  go_enter Try.func34, Try.ntmps34
  go_wp2_with fail
  refine (hp _).mono ?_
  rintro e w' ⟨rfl, hw⟩
  clear hp
  have hs : w'.heap.size = w.heap.size + 1 := by rw [hw]; simp [putAt]
  replace hw := box hw
  unfold fileOf
  go_wp2_with fail
  go_ret
  refine ⟨rfl, ?_⟩
  rw [handAt, ← hw.out]
  rfl
theorem make13 (T : TypeId) (v : Value) (w : World) :
    Calls Try.prog 34 #[.iface T v, .iface T v, .nilIface, .iface T v, .iface T v] w fun e w' => e = .returned (.pointer (some ⟨w.heap.size + 1, 0, none⟩)) ∧ w' = handAt w 13 (.iface T v) := by
  have hp := fun W => put13 T v W
  go_enter Try.func34, Try.ntmps34
  go_wp2_with fail
  refine (hp _).mono ?_
  rintro e w' ⟨rfl, hw⟩
  clear hp
  have hs : w'.heap.size = w.heap.size + 1 := by rw [hw]; simp [putAt]
  replace hw := box hw
  unfold fileOf
  go_wp2_with fail
  go_ret
  refine ⟨rfl, ?_⟩
  rw [handAt, ← hw.out]
  rfl
theorem make14 (T : TypeId) (v : Value) (w : World) :
    Calls Try.prog 34 #[.iface T v, .nilIface, .iface T v, .iface T v, .iface T v] w fun e w' => e = .returned (.pointer (some ⟨w.heap.size + 1, 0, none⟩)) ∧ w' = handAt w 14 (.iface T v) := by
  have hp := fun W => put14 T v W
  go_enter Try.func34, Try.ntmps34
  go_wp2_with fail
  refine (hp _).mono ?_
  rintro e w' ⟨rfl, hw⟩
  clear hp
  have hs : w'.heap.size = w.heap.size + 1 := by rw [hw]; simp [putAt]
  replace hw := box hw
  unfold fileOf
  go_wp2_with fail
  go_ret
  refine ⟨rfl, ?_⟩
  rw [handAt, ← hw.out]
  rfl
theorem make15 (T : TypeId) (v : Value) (w : World) :
    Calls Try.prog 34 #[.iface T v, .iface T v, .iface T v, .iface T v, .iface T v] w fun e w' => e = .returned (.pointer (some ⟨w.heap.size + 1, 0, none⟩)) ∧ w' = handAt w 15 (.iface T v) := by
  have hp := fun W => put15 T v W
  go_enter Try.func34, Try.ntmps34
  go_wp2_with fail
  refine (hp _).mono ?_
  rintro e w' ⟨rfl, hw⟩
  clear hp
  have hs : w'.heap.size = w.heap.size + 1 := by rw [hw]; simp [putAt]
  replace hw := box hw
  unfold fileOf
  go_wp2_with fail
  go_ret
  refine ⟨rfl, ?_⟩
  rw [handAt, ← hw.out]
  rfl
theorem make_any (T : TypeId) (v : Value) (w : World) {m : Nat} (hm : m < 16) :
    Calls Try.prog 34 #[.iface T v, part? m 0 (.iface T v), part? m 1 (.iface T v), part? m 2 (.iface T v), part? m 3 (.iface T v)] w fun e w' => e = .returned (.pointer (some ⟨w.heap.size + 1, 0, none⟩)) ∧ w' = handAt w m (.iface T v) := by
  rcases lt16 hm with rfl | rfl | rfl | rfl | rfl | rfl | rfl | rfl | rfl | rfl | rfl | rfl | rfl | rfl | rfl | rfl
  · exact make0 T v w
  · exact make1 T v w
  · exact make2 T v w
  · exact make3 T v w
  · exact make4 T v w
  · exact make5 T v w
  · exact make6 T v w
  · exact make7 T v w
  · exact make8 T v w
  · exact make9 T v w
  · exact make10 T v w
  · exact make11 T v w
  · exact make12 T v w
  · exact make13 T v w
  · exact make14 T v w
  · exact make15 T v w

theorem handAt_hand (w : World) {m : Nat} (hm : m < 16) (T : TypeId) (v : Value) : Hand (handAt w m (.iface T v)) (w.heap.size + 1) w.heap.size m T v := by
  refine ⟨hm, ?_, ?_⟩
  · unfold handAt putAt
    have := heap_alloc_new (w.alloc (.cells (parts m (.iface T v)) (sT m))) (.cells #[.iface T v, part? m 0 (.iface T v), part? m 1 (.iface T v), part? m 2 (.iface T v), part? m 3 (.iface T v), fileOf w.heap.size m] 91)
    rwa [show (w.alloc (.cells (parts m (.iface T v)) (sT m))).heap.size = w.heap.size + 1 by simp] at this
  · unfold handAt putAt
    rw [Below.heap_alloc _ _ _ (by simp)]
    exact heap_alloc_new _ _
theorem handAt_below (w : World) (m : Nat) (X : Value) {B : Nat} (hB : B ≤ w.heap.size) : Below B w (handAt w m X) :=
  Below.alloc (Below.alloc (Below.refl B w) hB _) (by simp; omega) _
theorem handAt_size (w : World) (m : Nat) (X : Value) : (handAt w m X).heap.size = w.heap.size + 2 := by
  unfold handAt putAt
  simp
end Go.Proofs.Ytajfamjdfhjdeaa
