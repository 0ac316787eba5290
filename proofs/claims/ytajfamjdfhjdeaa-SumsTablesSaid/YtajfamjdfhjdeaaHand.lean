/- Handles: their blocks, the method that a call through one comes to, what an assertion tells. -/
import Derived.Test.YtajfamjdfhjdeaaFaceK
namespace Go.Proofs.Ytajfamjdfhjdeaa
open Go.RowKit

/-- The sixteen files: pointers, structs. -/
def pT : Nat → TypeId
  | 0 => 180 | 1 => 135 | 2 => 138 | 3 => 141
  | 4 => 144 | 5 => 147 | 6 => 150 | 7 => 153
  | 8 => 156 | 9 => 159 | 10 => 162 | 11 => 165
  | 12 => 168 | 13 => 171 | 14 => 174 | _ => 177
def sT : Nat → TypeId
  | 0 => 182 | 1 => 137 | 2 => 140 | 3 => 143
  | 4 => 146 | 5 => 149 | 6 => 152 | 7 => 155
  | 8 => 158 | 9 => 161 | 10 => 164 | 11 => 167
  | 12 => 170 | 13 => 173 | 14 => 176 | _ => 179
/-- A part: there or not. -/
def part? (m k : Nat) (x : Value) : Value := if m.testBit k then x else .nilIface
def parts (m : Nat) (x : Value) : Array Value :=
  (x :: ((if m.testBit 0 then [x] else []) ++ (if m.testBit 1 then [x] else []) ++ (if m.testBit 2 then [x] else []) ++ (if m.testBit 3 then [x] else []))).toArray
def fileOf (P m : Nat) : Value := .iface (pT m) (.pointer (some ⟨P, 0, none⟩))

/-- A handle at block H, whose file lies at block P, can m, and leads to (T, v). -/
structure Hand (w : World) (H P m : Nat) (T : TypeId) (v : Value) : Prop where
  lt : m < 16
  top : w.heap[H]? = some (.cells #[.iface T v, part? m 0 (.iface T v), part? m 1 (.iface T v), part? m 2 (.iface T v), part? m 3 (.iface T v), fileOf P m] 91)
  low : w.heap[P]? = some (.cells (parts m (.iface T v)) (sT m))

theorem lt16 {m : Nat} (h : m < 16) : m = 0 ∨ m = 1 ∨ m = 2 ∨ m = 3 ∨ m = 4 ∨ m = 5 ∨ m = 6 ∨ m = 7 ∨ m = 8 ∨ m = 9 ∨ m = 10 ∨ m = 11 ∨ m = 12 ∨ m = 13 ∨ m = 14 ∨ m = 15 := by omega

theorem cell_of_heap {w : World} {b o : Nat} {cs : Array Value} {e : TypeId} {fr : Nat × Nat} {v : Value} (h : w.heap[b]? = some (.cells cs e fr)) (hv : cs[o]? = some v) : w.cell? ⟨b, o, none⟩ = some v := by
  simp [World.cell?, h, hv]


/-- Where the part j lies. -/
def idx (m : Nat) : Nat → Nat
  | 0 => 1
  | 1 => 1 + (m.testBit 0).toNat
  | 2 => 1 + (m.testBit 0).toNat + (m.testBit 1).toNat
  | _ => 1 + (m.testBit 0).toNat + (m.testBit 1).toNat + (m.testBit 2).toNat
def ifaceT : Nat → TypeId
  | 0 => 83 | 1 => 85 | 2 => 87 | _ => 89
def nameOf : Nat → String
  | 0 => "WriteAt" | 1 => "Cut" | 2 => "Next" | _ => "Sync"

noncomputable def rowOf (m : Nat) (name : String) : Option (List FieldStep × Option (FuncId × Bool)) :=
  (Try.prog.info? (pT m)).bind fun i => (i.methods.find? (·.name == name)).map fun x => (x.path.toList, x.func)
noncomputable def fieldOf (m k : Nat) : Option (TypeId × Nat) :=
  (Try.prog.underlying (sT m)).bind fun d => match d with | .struct fs => (fs[k]?).map fun f => (f.type, f.offset) | _ => none

theorem rows_file : (List.range 16).all (fun m => rowOf m "Size" == some ([⟨sT m, 0, true⟩], none) && rowOf m "ReadAt" == some ([⟨sT m, 0, true⟩], none) && fieldOf m 0 == some (73, 0)) = true := by kernel_rfl
theorem rows_part : (List.range 16).all (fun m => (List.range 4).all fun j => if m.testBit j then rowOf m (nameOf j) == some ([⟨sT m, idx m j, true⟩], none) && fieldOf m (idx m j) == some (ifaceT j, idx m j) else true) = true := by kernel_rfl
theorem face_size : (List.range 5).all (fun j => (Try.prog.info? (if j = 4 then 73 else ifaceT j)).map (·.size) == some 1) = true := by kernel_rfl
theorem face_one : (List.range 5).all (fun j => ((Try.prog.underlying (if j = 4 then 73 else ifaceT j)).map fun d => match d with | .struct _ => false | .array _ _ => false | _ => true) == some true) = true := by kernel_rfl
theorem file_size : (Try.prog.info? 73).map (·.size) = some 1 := by kernel_rfl
theorem file_one : ((Try.prog.underlying 73).map fun d => match d with | .struct _ => false | .array _ _ => false | _ => true) = some true := by kernel_rfl
theorem all_range {n : Nat} {p : Nat → Bool} (h : (List.range n).all p = true) {m : Nat} (hm : m < n) : p m = true := List.all_eq_true.1 h m (List.mem_range.2 hm)

theorem parts_get {m j : Nat} (hm : m < 16) (hj : j < 4) (hb : m.testBit j = true) (x : Value) : (parts m x)[idx m j]? = some x := by
  have hj' : j = 0 ∨ j = 1 ∨ j = 2 ∨ j = 3 := by omega
  rcases lt16 hm with rfl | rfl | rfl | rfl | rfl | rfl | rfl | rfl | rfl | rfl | rfl | rfl | rfl | rfl | rfl | rfl <;>
    rcases hj' with rfl | rfl | rfl | rfl <;> first | rfl | (exact absurd hb (by decide))

noncomputable def wantOf (j : Nat) : Array (String × TypeId) :=
  match Try.prog.underlying (ifaceT j) with | some (.interface ms) => ms | _ => #[]
theorem rows_want : (List.range 4).all (fun j => match Try.prog.underlying (ifaceT j) with | some (.interface _) => true | _ => false) = true := by kernel_rfl
theorem zero0 : (Try.prog.info? 83).map (·.zero) = some (some Value.nilIface) := by kernel_rfl
theorem zero1 : (Try.prog.info? 85).map (·.zero) = some (some Value.nilIface) := by kernel_rfl
theorem zero2 : (Try.prog.info? 87).map (·.zero) = some (some Value.nilIface) := by kernel_rfl
theorem zero3 : (Try.prog.info? 89).map (·.zero) = some (some Value.nilIface) := by kernel_rfl
theorem rows_zero : ∀ j, j < 4 → (Try.prog.info? (ifaceT j)).map (·.zero) = some (some Value.nilIface) := by
  intro j hj
  have hj' : j = 0 ∨ j = 1 ∨ j = 2 ∨ j = 3 := by omega
  rcases hj' with rfl | rfl | rfl | rfl
  · exact zero0
  · exact zero1
  · exact zero2
  · exact zero3
theorem rows_asks : (List.range 16).all (fun m => (List.range 4).all fun j => (Try.prog.info? (pT m)).map (fun i => (lacking (wantOf j) i.methods).isEmpty) == some (m.testBit j)) = true := by kernel_rfl
theorem asks {m j : Nat} (hm : m < 16) (hj : j < 4) (x : Value) (xT : TypeId) (w : World) :
    (Instr.typeAssert (.iface (pT m) x) xT (ifaceT j) true).run Try.prog w = .ok (.tuple #[if m.testBit j then .iface (pT m) x else .nilIface, .bool (m.testBit j)]) w := by
  have hr := all_range (all_range rows_asks hm) hj
  have hw := all_range rows_want hj
  simp only [beq_iff_eq] at hr
  split at hw
  · rename_i ms hu
    have hz := rows_zero j hj
    have hwant : wantOf j = ms := by unfold wantOf; rw [hu]
    rw [hwant] at hr
    cases hb : m.testBit j
    · rw [hb] at hr
      exact run_typeAssert_lacksB hu hr hz _ _ _
    · rw [hb] at hr
      exact run_typeAssert_hasB hu hr _ _ _
  · cases hw

section
variable {w : World} {H P m : Nat} {T : TypeId} {v : Value}
theorem low_size (hm : m < 16) (hl : w.cell? ⟨P, 0, none⟩ = some (.iface T v)) (fuel : Nat) : (method (fuel + 1) (pT m) (.pointer (some ⟨P, 0, none⟩)) "Size").run Try.prog w = (method fuel T v "Size").run Try.prog w := by
  have hr := all_range rows_file hm
  simp only [Bool.and_eq_true, beq_iff_eq] at hr
  exact method_emb hr.1.1 hr.2 file_size file_one (by rw [Nat.zero_add]; exact hl)
theorem low_read (hm : m < 16) (hl : w.cell? ⟨P, 0, none⟩ = some (.iface T v)) (fuel : Nat) : (method (fuel + 1) (pT m) (.pointer (some ⟨P, 0, none⟩)) "ReadAt").run Try.prog w = (method fuel T v "ReadAt").run Try.prog w := by
  have hr := all_range rows_file hm
  simp only [Bool.and_eq_true, beq_iff_eq] at hr
  exact method_emb hr.1.2 hr.2 file_size file_one (by rw [Nat.zero_add]; exact hl)
theorem low_part {j : Nat} (hm : m < 16) (hl : w.cell? ⟨P, idx m j, none⟩ = some (.iface T v)) (hj : j < 4) (hb : m.testBit j = true) (fuel : Nat) : (method (fuel + 1) (pT m) (.pointer (some ⟨P, 0, none⟩)) (nameOf j)).run Try.prog w = (method fuel T v (nameOf j)).run Try.prog w := by
  have hr := all_range (all_range rows_part hm) hj
  simp only [hb, if_true, Bool.and_eq_true, beq_iff_eq] at hr
  have h5 : j < 5 := by omega
  have h1 := all_range face_size h5
  have h2 := all_range face_one h5
  have hj4 : j ≠ 4 := by omega
  simp only [hj4, if_false, beq_iff_eq] at h1 h2
  exact method_emb hr.1 hr.2 h1 h2 (by rw [Nat.zero_add]; exact hl)
theorem Hand.low0 (h : Hand w H P m T v) : w.cell? ⟨P, 0, none⟩ = some (.iface T v) := cell_of_heap h.low rfl
theorem Hand.lowj {j : Nat} (h : Hand w H P m T v) (hj : j < 4) (hb : m.testBit j = true) : w.cell? ⟨P, idx m j, none⟩ = some (.iface T v) := cell_of_heap h.low (parts_get h.lt hj hb _)
end
end Go.Proofs.Ytajfamjdfhjdeaa
