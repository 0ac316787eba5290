/- face.put, face.Make, (*face.Handle).File. (Printed by mkput.py.) -/
import Derived.Test.YtajfamjdfhjdeaaHand
namespace Go.Proofs.Ytajfamjdfhjdeaa
open Go.RowKit

def putAt (w : World) (m : Nat) (X : Value) : World := w.alloc (.cells (parts m X) (sT m))

theorem put0 (T : TypeId) (v : Value) (w : World) :
    Calls Try.prog 53 #[.iface T v, .nilIface, .nilIface, .nilIface, .nilIface] w fun e w' => e = .returned (fileOf w.heap.size 0) ∧ w' = putAt w 0 (.iface T v) := by
  go_enter Try.func53, Try.ntmps53
  go_wp2_with fail
  go_ret
  exact ⟨rfl, rfl⟩
theorem put1 (T : TypeId) (v : Value) (w : World) :
    Calls Try.prog 53 #[.iface T v, .iface T v, .nilIface, .nilIface, .nilIface] w fun e w' => e = .returned (fileOf w.heap.size 1) ∧ w' = putAt w 1 (.iface T v) := by
  go_enter Try.func53, Try.ntmps53
  go_wp2_with fail
  go_ret
  exact ⟨rfl, rfl⟩
theorem put2 (T : TypeId) (v : Value) (w : World) :
    Calls Try.prog 53 #[.iface T v, .nilIface, .iface T v, .nilIface, .nilIface] w fun e w' => e = .returned (fileOf w.heap.size 2) ∧ w' = putAt w 2 (.iface T v) := by
  go_enter Try.func53, Try.ntmps53
  go_wp2_with fail
  go_ret
  exact ⟨rfl, rfl⟩
theorem put3 (T : TypeId) (v : Value) (w : World) :
    Calls Try.prog 53 #[.iface T v, .iface T v, .iface T v, .nilIface, .nilIface] w fun e w' => e = .returned (fileOf w.heap.size 3) ∧ w' = putAt w 3 (.iface T v) := by
  go_enter Try.func53, Try.ntmps53
  go_wp2_with fail
  go_ret
  exact ⟨rfl, rfl⟩
theorem put4 (T : TypeId) (v : Value) (w : World) :
    Calls Try.prog 53 #[.iface T v, .nilIface, .nilIface, .iface T v, .nilIface] w fun e w' => e = .returned (fileOf w.heap.size 4) ∧ w' = putAt w 4 (.iface T v) := by
  go_enter Try.func53, Try.ntmps53
  go_wp2_with fail
  go_ret
  exact ⟨rfl, rfl⟩
theorem put5 (T : TypeId) (v : Value) (w : World) :
    Calls Try.prog 53 #[.iface T v, .iface T v, .nilIface, .iface T v, .nilIface] w fun e w' => e = .returned (fileOf w.heap.size 5) ∧ w' = putAt w 5 (.iface T v) := by
  go_enter Try.func53, Try.ntmps53
  go_wp2_with fail
  go_ret
  exact ⟨rfl, rfl⟩
theorem put6 (T : TypeId) (v : Value) (w : World) :
    Calls Try.prog 53 #[.iface T v, .nilIface, .iface T v, .iface T v, .nilIface] w fun e w' => e = .returned (fileOf w.heap.size 6) ∧ w' = putAt w 6 (.iface T v) := by
  go_enter Try.func53, Try.ntmps53
  go_wp2_with fail
  go_ret
  exact ⟨rfl, rfl⟩
theorem put7 (T : TypeId) (v : Value) (w : World) :
    Calls Try.prog 53 #[.iface T v, .iface T v, .iface T v, .iface T v, .nilIface] w fun e w' => e = .returned (fileOf w.heap.size 7) ∧ w' = putAt w 7 (.iface T v) := by
  go_enter Try.func53, Try.ntmps53
  go_wp2_with fail
  go_ret
  exact ⟨rfl, rfl⟩
theorem put8 (T : TypeId) (v : Value) (w : World) :
    Calls Try.prog 53 #[.iface T v, .nilIface, .nilIface, .nilIface, .iface T v] w fun e w' => e = .returned (fileOf w.heap.size 8) ∧ w' = putAt w 8 (.iface T v) := by
  go_enter Try.func53, Try.ntmps53
  go_wp2_with fail
  go_ret
  exact ⟨rfl, rfl⟩
theorem put9 (T : TypeId) (v : Value) (w : World) :
    Calls Try.prog 53 #[.iface T v, .iface T v, .nilIface, .nilIface, .iface T v] w fun e w' => e = .returned (fileOf w.heap.size 9) ∧ w' = putAt w 9 (.iface T v) := by
  go_enter Try.func53, Try.ntmps53
  go_wp2_with fail
  go_ret
  exact ⟨rfl, rfl⟩
theorem put10 (T : TypeId) (v : Value) (w : World) :
    Calls Try.prog 53 #[.iface T v, .nilIface, .iface T v, .nilIface, .iface T v] w fun e w' => e = .returned (fileOf w.heap.size 10) ∧ w' = putAt w 10 (.iface T v) := by
  go_enter Try.func53, Try.ntmps53
  go_wp2_with fail
  go_ret
  exact ⟨rfl, rfl⟩
theorem put11 (T : TypeId) (v : Value) (w : World) :
    Calls Try.prog 53 #[.iface T v, .iface T v, .iface T v, .nilIface, .iface T v] w fun e w' => e = .returned (fileOf w.heap.size 11) ∧ w' = putAt w 11 (.iface T v) := by
  go_enter Try.func53, Try.ntmps53
  go_wp2_with fail
  go_ret
  exact ⟨rfl, rfl⟩
theorem put12 (T : TypeId) (v : Value) (w : World) :
    Calls Try.prog 53 #[.iface T v, .nilIface, .nilIface, .iface T v, .iface T v] w fun e w' => e = .returned (fileOf w.heap.size 12) ∧ w' = putAt w 12 (.iface T v) := by
  go_enter Try.func53, Try.ntmps53
  go_wp2_with fail
  go_ret
  exact ⟨rfl, rfl⟩
theorem put13 (T : TypeId) (v : Value) (w : World) :
    Calls Try.prog 53 #[.iface T v, .iface T v, .nilIface, .iface T v, .iface T v] w fun e w' => e = .returned (fileOf w.heap.size 13) ∧ w' = putAt w 13 (.iface T v) := by
  go_enter Try.func53, Try.ntmps53
  go_wp2_with fail
  go_ret
  exact ⟨rfl, rfl⟩
theorem put14 (T : TypeId) (v : Value) (w : World) :
    Calls Try.prog 53 #[.iface T v, .nilIface, .iface T v, .iface T v, .iface T v] w fun e w' => e = .returned (fileOf w.heap.size 14) ∧ w' = putAt w 14 (.iface T v) := by
  go_enter Try.func53, Try.ntmps53
  go_wp2_with fail
  go_ret
  exact ⟨rfl, rfl⟩
theorem put15 (T : TypeId) (v : Value) (w : World) :
    Calls Try.prog 53 #[.iface T v, .iface T v, .iface T v, .iface T v, .iface T v] w fun e w' => e = .returned (fileOf w.heap.size 15) ∧ w' = putAt w 15 (.iface T v) := by
  go_enter Try.func53, Try.ntmps53
  go_wp2_with fail
  go_ret
  exact ⟨rfl, rfl⟩
theorem put_any (T : TypeId) (v : Value) (w : World) {m : Nat} (hm : m < 16) :
    Calls Try.prog 53 #[.iface T v, part? m 0 (.iface T v), part? m 1 (.iface T v), part? m 2 (.iface T v), part? m 3 (.iface T v)] w fun e w' => e = .returned (fileOf w.heap.size m) ∧ w' = putAt w m (.iface T v) := by
  rcases lt16 hm with rfl | rfl | rfl | rfl | rfl | rfl | rfl | rfl | rfl | rfl | rfl | rfl | rfl | rfl | rfl | rfl
  · exact put0 T v w
  · exact put1 T v w
  · exact put2 T v w
  · exact put3 T v w
  · exact put4 T v w
  · exact put5 T v w
  · exact put6 T v w
  · exact put7 T v w
  · exact put8 T v w
  · exact put9 T v w
  · exact put10 T v w
  · exact put11 T v w
  · exact put12 T v w
  · exact put13 T v w
  · exact put14 T v w
  · exact put15 T v w
end Go.Proofs.Ytajfamjdfhjdeaa
