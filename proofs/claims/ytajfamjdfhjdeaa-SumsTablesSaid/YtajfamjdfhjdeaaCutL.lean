/- Plain law: pieces cut, laid. No program. -/
import Derived.Test.YtajfamjdfhjdeaaSpanL
namespace Go.Proofs.Ytajfamjdfhjdeaa
open Go.RowKit

def cutL (fr : Int) (p : Pc) : List Pc := if p.1 < fr then [(p.1, p.2.take (fr - p.1).toNat)] else []
def cutR (to : Int) (p : Pc) : List Pc := if to < pEnd p then [(max p.1 to, p.2.drop (to - p.1).toNat)] else []
def cutA (fr : Int) (p : Pc) : List Pc := if pEnd p ≤ fr then [p] else cutL fr p
def cutB (fr to : Int) (p : Pc) : List Pc := if pEnd p ≤ fr then [] else cutR to p
/-- What lies ahead of the stretch; behind it. -/
def aheadS (fr : Int) (ps : List Pc) : List Pc := ps.flatMap (cutA fr)
def behindS (fr to : Int) (ps : List Pc) : List Pc := ps.flatMap (cutB fr to)
def heldS (ps : List Pc) : Nat := (ps.map fun p => p.2.length).sum

theorem heldS_append (a b : List Pc) : heldS (a ++ b) = heldS a + heldS b := by simp [heldS]
theorem heldS_cons (p : Pc) (a : List Pc) : heldS (p :: a) = p.2.length + heldS a := by simp [heldS]
theorem pEnd_eq (p : Pc) : pEnd p = p.1 + (p.2.length : Int) := rfl

theorem Chain.app : ∀ {A : List Pc} {lo m : Int} {B : List Pc}, Chain lo A → Ends m A → Chain (m + 1) B → lo ≤ m + 1 → Chain lo (A ++ B)
  | [], _, _, _, _, _, hB, h => hB.mono h
  | p :: A, lo, m, B, hA, he, hB, h => by
    have h1 := he p List.mem_cons_self
    exact ⟨hA.1, hA.2.1, hA.2.2.1, Chain.app hA.2.2.2 (fun q hq => he q (List.mem_cons_of_mem _ hq)) hB (by omega)⟩
theorem Chain.left : ∀ {A B : List Pc} {lo : Int}, Chain lo (A ++ B) → Chain lo A
  | [], _, _, _ => trivial
  | _ :: _, _, _, h => ⟨h.1, h.2.1, h.2.2.1, Chain.left h.2.2.2⟩
theorem Chain.right {A B : List Pc} {lo : Int} (h : Chain lo (A ++ B)) : Chain lo B := by
  have := h.drop A.length
  rwa [List.drop_left] at this

theorem ahead_far {fr : Int} : ∀ {ps : List Pc} {lo : Int}, Chain lo ps → fr ≤ lo → aheadS fr ps = []
  | [], _, _, _ => rfl
  | p :: ps, lo, h, hl => by
    have h1 := h.1
    have h2 := h.2.1
    have e := pEnd_eq p
    unfold aheadS
    rw [List.flatMap_cons]
    have : cutA fr p = [] := by
      unfold cutA cutL
      rw [if_neg (by omega), if_neg (by omega)]
    rw [this, List.nil_append]
    exact ahead_far h.2.2.2 (by omega)
theorem ahead_ends {fr : Int} : ∀ {ps : List Pc} {lo : Int}, Chain lo ps → Ends fr (aheadS fr ps)
  | [], _, _ => fun _ h => by cases h
  | p :: ps, lo, h => by
    have e := pEnd_eq p
    intro q hq
    unfold aheadS at hq
    rw [List.flatMap_cons, List.mem_append] at hq
    rcases hq with hq | hq
    · unfold cutA cutL at hq
      split at hq
      · rw [List.mem_singleton.1 hq]; assumption
      · split at hq
        · rw [List.mem_singleton.1 hq]
          show p.1 + ((p.2.take (fr - p.1).toNat).length : Int) ≤ fr
          rw [List.length_take]
          omega
        · cases hq
    · exact ahead_ends h.2.2.2 q hq
theorem ahead_chain {fr : Int} : ∀ {ps : List Pc} {lo : Int}, Chain lo ps → Chain lo (aheadS fr ps)
  | [], _, _ => trivial
  | p :: ps, lo, h => by
    have e := pEnd_eq p
    have h2 := h.2.1
    unfold aheadS
    rw [List.flatMap_cons]
    unfold cutA cutL
    by_cases h1 : pEnd p ≤ fr
    · rw [if_pos h1]
      exact ⟨h.1, h.2.1, h.2.2.1, ahead_chain h.2.2.2⟩
    · rw [if_neg h1]
      have hr : List.flatMap (cutA fr) ps = [] := ahead_far h.2.2.2 (by omega)
      unfold cutA cutL at hr
      rw [hr, List.append_nil]
      split
      · exact ⟨h.1, by show 0 < (p.2.take _).length; rw [List.length_take]; omega, h.2.2.1.take _, trivial⟩
      · trivial
theorem behind_chain {fr to : Int} : ∀ {ps : List Pc} {lo : Int}, Chain lo ps → Chain (max lo to) (behindS fr to ps)
  | [], _, _ => trivial
  | p :: ps, lo, h => by
    have e := pEnd_eq p
    have h1 := h.1
    have h2 := h.2.1
    have ih := behind_chain (fr := fr) (to := to) h.2.2.2
    unfold behindS at ih ⊢
    rw [List.flatMap_cons]
    unfold cutB cutR at ih ⊢
    by_cases hf : pEnd p ≤ fr
    · rw [if_pos hf, List.nil_append]
      exact ih.mono (by omega)
    · rw [if_neg hf]
      by_cases ht : to < pEnd p
      · rw [if_pos ht]
        have hl : (p.2.drop (to - p.1).toNat).length = p.2.length - (to - p.1).toNat := List.length_drop
        refine ⟨by show max lo to ≤ max p.1 to; omega, by show 0 < (p.2.drop _).length; omega, h.2.2.1.drop _, ih.mono ?_⟩
        show max p.1 to + ((p.2.drop (to - p.1).toNat).length : Int) + 1 ≤ _
        omega
      · rw [if_neg ht, List.nil_append]
        exact ih.mono (by omega)
theorem behind_ends {fr to N : Int} {ps : List Pc} (h : Ends N ps) : Ends N (behindS fr to ps) := by
  intro q hq
  unfold behindS at hq
  obtain ⟨p, hp, hq⟩ := List.mem_flatMap.1 hq
  have h1 := h p hp
  have e := pEnd_eq p
  unfold cutB cutR at hq
  split at hq
  · cases hq
  · split at hq
    · rw [List.mem_singleton.1 hq]
      show max p.1 to + ((p.2.drop (to - p.1).toNat).length : Int) ≤ N
      rw [List.length_drop]
      omega
    · cases hq
/-- Nothing is left behind the end. -/
theorem behind_none {fr to : Int} {ps : List Pc} (h : Ends to ps) : behindS fr to ps = [] := by
  apply List.flatMap_eq_nil_iff.2
  intro p hp
  have := h p hp
  unfold cutB cutR
  split
  · rfl
  · rw [if_neg (by omega)]
theorem held_cut (fr to : Int) : ∀ (ps : List Pc), heldS (aheadS fr ps) + heldS (behindS fr to ps) ≤ heldS ps ∨ to ≤ fr := by
  intro ps
  by_cases ht : to ≤ fr
  · exact .inr ht
  · left
    induction ps with
    | nil => exact Nat.le_refl _
    | cons p ps ih =>
      have e := pEnd_eq p
      unfold aheadS behindS at ih ⊢
      rw [List.flatMap_cons, List.flatMap_cons, heldS_append, heldS_append, heldS_cons]
      have : heldS (cutA fr p) + heldS (cutB fr to p) ≤ p.2.length := by
        unfold cutA cutB cutL cutR
        split
        · simp [heldS]
        · split <;> split <;> simp [heldS] <;> omega
      omega
theorem cut_chain {fr to lo : Int} {ps : List Pc} (h : Chain lo ps) (hft : fr < to) (hl : lo ≤ fr + 1) : Chain lo (aheadS fr ps ++ behindS fr to ps) :=
  (ahead_chain h).app (ahead_ends h) ((behind_chain h).mono (by omega)) hl
end Go.Proofs.Ytajfamjdfhjdeaa
