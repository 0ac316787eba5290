/- slices.Clone of bytes. -/
import Derived.Test.YtajfamjdfhjdeaaApp8
import Derived.Test.YtajfamjdfhjdeaaFoot
namespace Go.Proofs.Ytajfamjdfhjdeaa
open Go.RowKit

/-- What reads lies below the heap's end. -/
theorem Byt.top {w : World} {A : Option Addr} {n B : Nat} {zs : List Int} (h : Byt w B A n zs) : Byt w w.heap.size A n zs :=
  ⟨h.len, h.bs, h.src.1, fun hn => by
    obtain ⟨b, o, e, _, hc⟩ := h.src.2 hn
    have h0 := hc 0 _ (u8s_get zs 0 (by have := h.len; omega))
    exact ⟨b, o, e, World.block_lt_of_cell? w _ h0, hc⟩⟩
theorem Byt.grown {w w' : World} {A : Option Addr} {n B : Nat} {zs : List Int} (h : Byt w B A n zs) (hb : Below w.heap.size w w') : Byt w' w.heap.size A n zs := h.top.below hb

/-- A copy, owned from the heap's size on; nil stays nil. -/
theorem clone8_any {w : World} {A : Option Addr} {n c B : Nat} {zs : List Int} (h : Byt w B A n zs) (hn : n ≤ 4294967296) :
    Calls Try.prog 52 #[.slice A n c] w fun e w' => ∃ A' c', e = .returned (.slice A' n c') ∧ Own8 w' w.heap.size A' n c' zs ∧ Below w.heap.size w w' := by
  have b0 : Below w.heap.size w (w.alloc (.cells #[] 5)) := Below.alloc (Below.refl _ _) (Nat.le_refl _) _
  have HS := box (h.grown b0)
  replace b0 := box b0
  rcases A with _ | ad
  · have h0 : n = 0 := by
      rcases Nat.eq_zero_or_pos n with g | g
      · exact g
      · obtain ⟨b, o, e, _⟩ := h.src.2 g
        cases e
    subst h0
    have hz : zs = [] := h.empty
    subst hz
    clear h HS b0
    have hq : ∀ W, (binOp .eql 22 (.slice none 0 c) (.slice none 0 0)).run Try.prog W = .ok (.bool true) W := fun _ => by kernel_rfl
    go_enter Try.func52, Try.ntmps52
    set_option maxRecDepth 8000 in
    go_wp2_with fail
    go_ret
    exact ⟨_, _, rfl, Own8.nil _ _, Below.refl _ _⟩
  · clear h
    have OL : Own8 (w.alloc (.cells #[] 5)) w.heap.size (some ⟨w.heap.size, 0, none⟩) 0 0 [] := World.ownsRow_lit w #[] 0 (Nat.le_refl _) (by decide) rfl
    replace OL := box OL
    have hq : ∀ W, (binOp .eql 22 (.slice (some ad) n c) (.slice none 0 0)).run Try.prog W = .ok (.bool false) W := fun _ => by kernel_rfl
    go_enter Try.func52, Try.ntmps52
    set_option maxRecDepth 8000 in
    go_wp2_with (at_builtin; refine app8 _ (.tmp 5) (.tmp 6) w.heap.size OL.out HS.out.src rfl rfl rfl rfl (by omega) (by simp) ?_; intro A1 c1 w1 O1 b1 s1)
    go_ret
    rw [Nat.zero_add] at O1
    exact ⟨_, _, rfl, O1, b0.out.trans b1⟩
end Go.Proofs.Ytajfamjdfhjdeaa
