/- works answers true: the walk. -/
import Derived.Test.YtfhibpgmmffgjaaPack
import Derived.Test.YtfhibpgmmffgjaaUnpack
import Derived.Test.YtfhibpgmmffgjaaEq
import Derived.Test.YtfhibpgmmffgjaaWorksL
import Derived.Test.YtfhibpgmmffgjaaKit2
namespace Go.Proofs.Ytfhibpgmmffgjaa
open Go.RowKit
theorem unpack_any (p : Option Addr) (len cap : Nat) (zs : List Int) (w : World) (hb : Byt w w.heap.size p len zs) (hlc : len ≤ cap) (hcap : cap ≤ 9223372036854775807) :
    Calls Try.prog 14 #[.slice p len cap] w (UnLeft w zs) := by
  have hl := hb.len
  by_cases h : len < 4
  · refine (unpack_short p len cap w h).mono ?_
    rintro e w' ⟨rfl, rfl⟩
    have e1 := unpackS_short (zs := zs) (by omega)
    refine ⟨Below.refl _ _, .inl ?_⟩
    rw [e1]
    exact ⟨by decide, rfl⟩
  · obtain ⟨b, o, rfl, _, _⟩ := hb.at_ (by omega)
    exact unpack_long b o len cap zs w hb hlc hcap (by omega)

/-- A call's answer, under a name. -/
structure UnIs (w : World) (zs : List Int) (v : Value) (c : Int) (w' : World) : Prop where
  bel : Below w.heap.size w w'
  code : c = (unpackS zs).1
  val : ∃ A k, v = .slice A (unpackS zs).2.length k ∧ w'.ownsRow w.heap.size 5 1 (.slice A (unpackS zs).2.length k) (unpackS zs).2.length (u8s (unpackS zs).2)
theorem unpackS_err {zs : List Int} (h : (unpackS zs).1 ≠ 0) : (unpackS zs).2 = [] := by
  unfold unpackS at *
  split
  · rfl
  · split
    · rfl
    · split
      · rfl
      · simp_all
/-- Unpack's contract in one form. -/
theorem unpack_is (p : Option Addr) (len cap : Nat) (zs : List Int) (w : World) (hb : Byt w w.heap.size p len zs) (hlc : len ≤ cap) (hcap : cap ≤ 9223372036854775807) :
    Calls Try.prog 14 #[.slice p len cap] w fun e w' => ∃ A k, e = .returned (.tuple #[.slice A (unpackS zs).2.length k, .int .i64 (unpackS zs).1]) ∧ Below w.heap.size w w' ∧
      w'.ownsRow w.heap.size 5 1 (.slice A (unpackS zs).2.length k) (unpackS zs).2.length (u8s (unpackS zs).2) := by
  refine (unpack_any p len cap zs w hb hlc hcap).mono ?_
  rintro e w' ⟨hbel, h⟩
  rcases h with ⟨h1, h2⟩ | ⟨h1, A, c, h2, h3⟩
  · have e0 := unpackS_err h1
    refine ⟨none, 0, ?_, hbel, ?_⟩
    · rw [h2, e0]; rfl
    · rw [e0]; exact World.ownsRow_nil _ _ _ _
  · refine ⟨A, c, ?_, hbel, h3⟩
    rw [h2, h1]

set_option maxHeartbeats 1000000 in
set_option maxRecDepth 100000 in
theorem works_any (w : World) : Calls Try.prog 9 #[] w fun e w' => e = .returned (.bool true) ∧ Below w.heap.size w w' := by
  have kc := fun (w : World) (C : Array Value) (n c : Nat) => Lib.run_convert_bytes_const (P := Try.prog) w 22 5 C n c Try.underlying22 Try.underlying5
  go_enter Try.func9, Try.ntmps9
  go_wp2_with fail
  have c1 := pack_any (some ⟨w.heap.size, 0, none⟩) 4 4 [97, 97, 97, 97] _ (Byt.lit w 5 (4, 5) [97, 97, 97, 97] #[.int .u8 97, .int .u8 97, .int .u8 97, .int .u8 97] 4 rfl (by unfold Bs; decide) rfl) (by omega) (by omega) (by omega)
  rw [pack_ex] at c1
  refine c1.mono ?_
  rintro e w1 ⟨A1, k1, rfl, own1, bel1⟩
  clear c1
  have hs1 := bel1.size
  simp only [World.size_alloc] at hs1
  have b1 : Below w.heap.size w w1 := ((Below.refl _ _).alloc (Nat.le_refl _) _).trans (bel1.mono (by simp))
  have OWN1 := box own1
  clear own1 bel1
  go_wp2_with fail
  have c2 := unpack_is (some ⟨w1.heap.size, 0, none⟩) 9 9 [0, 0, 0, 5, 1, 97, 98, 128, 2] _ (Byt.lit w1 5 (0, 0) [0, 0, 0, 5, 1, 97, 98, 128, 2] #[.int .u8 0, .int .u8 0, .int .u8 0, .int .u8 5, .int .u8 1, .int .u8 97, .int .u8 98, .int .u8 128, .int .u8 2] 9 rfl (by unfold Bs; decide) rfl) (by omega) (by omega)
  rw [unpack_ex] at c2
  refine c2.mono ?_
  rintro e w2 ⟨A2, k2, rfl, bel2, own2⟩
  clear c2
  have hs2 := bel2.size
  simp only [World.size_alloc] at hs2
  have b2 : Below w1.heap.size w1 w2 := ((Below.refl _ _).alloc (Nat.le_refl _) _).trans (bel2.mono (by simp))
  have OWN2 := box own2
  clear own2 bel2
  go_wp2_with fail
  have c3 := unpack_is (some ⟨w2.heap.size, 0, none⟩) 3 3 [0, 0, 0] _ (Byt.lit w2 5 (0, 0) [0, 0, 0] #[.int .u8 0, .int .u8 0, .int .u8 0] 3 rfl (by unfold Bs; decide) rfl) (by omega) (by omega)
  rw [unpack_ex3] at c3
  refine c3.mono ?_
  rintro e w3 ⟨A3, k3, rfl, bel3, own3⟩
  clear c3
  have hs3 := bel3.size
  simp only [World.size_alloc] at hs3
  have b3 : Below w2.heap.size w2 w3 := ((Below.refl _ _).alloc (Nat.le_refl _) _).trans (bel3.mono (by simp))
  clear own3 bel3
  go_wp2_with fail
  obtain ⟨W, hW⟩ : ∃ W, W = w3.alloc (.cells #[.int .u8 0, .int .u8 0, .int .u8 0, .int .u8 4, .int .u8 0, .int .u8 97, .int .u8 128, .int .u8 1] 5) := ⟨_, rfl⟩
  have b4 : Below w3.heap.size w3 W := by rw [hW]; exact (Below.refl _ _).alloc (Nat.le_refl _) _
  have y1 : Byt W w1.heap.size A1 8 [0, 0, 0, 4, 0, 97, 128, 1] :=
    (((Byt.of_own OWN1.out (by unfold Bs; decide)).below b2).below (b3.mono (by omega))).below (b4.mono (by omega))
  have y2 : Byt W w2.heap.size A2 5 [97, 98, 97, 98, 97] :=
    ((Byt.of_own OWN2.out (by unfold Bs; decide)).below b3).below (b4.mono (by omega))
  have y3 : Byt W W.heap.size (some ⟨w3.heap.size, 0, none⟩) 8 [0, 0, 0, 4, 0, 97, 128, 1] := by
    rw [hW]
    exact Byt.lit w3 5 (0, 0) [0, 0, 0, 4, 0, 97, 128, 1] #[.int .u8 0, .int .u8 0, .int .u8 0, .int .u8 4, .int .u8 0, .int .u8 97, .int .u8 128, .int .u8 1] 8 rfl (by unfold Bs; decide) rfl
  have cs := Lib.BytesIn.convert (P := Try.prog) y2.lib y2.len k2 22 5 9 Try.underlying22 Try.underlying5 Try.underlying9
  have es : strOfNums [97, 98, 97, 98, 97] = ⟨#[97, 98, 97, 98, 97]⟩ := by decide +kernel
  rw [es] at cs
  have c4 := equal_any A1 (some ⟨w3.heap.size, 0, none⟩) 8 k1 8 8 _ _ _ _ W y1 y3
  rw [show decide (([0, 0, 0, 4, 0, 97, 128, 1] : List Int) = [0, 0, 0, 4, 0, 97, 128, 1]) = true by decide] at c4
  rw [← hW]
  have bel : Below w.heap.size w W := ((b1.trans (b2.mono (by have := b1.size; omega))).trans (b3.mono (by omega))).trans (b4.mono (by omega))
  have BEL := box bel
  clear hW y1 y2 y3 es bel b1 b2 b3 b4
  refine c4.mono ?_
  rintro e W' ⟨rfl, rfl⟩
  clear c4
  go_wp2_with fail
  go_ret
  exact ⟨rfl, BEL.out⟩
#print axioms works_any
end Go.Proofs.Ytfhibpgmmffgjaa
