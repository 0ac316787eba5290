/- What cleared leaves: the pieces cut; they stay whole and apart. -/
import Derived.Test.YtajfamjdfhjdeaaCleared
namespace Go.Proofs.Ytajfamjdfhjdeaa
open Go.RowKit

theorem flatMap_nil {f : Pc → List Pc} : ∀ {l : List Pc}, (∀ x ∈ l, f x = []) → l.flatMap f = []
  | [], _ => rfl
  | x :: l, h => by rw [List.flatMap_cons, h x List.mem_cons_self, flatMap_nil fun y hy => h y (List.mem_cons_of_mem _ hy)]; rfl
theorem flatMap_same {α β : Type} {f g : α → List β} : ∀ {l : List α}, (∀ x ∈ l, f x = g x) → l.flatMap f = l.flatMap g
  | [], _ => rfl
  | x :: l, h => by rw [List.flatMap_cons, List.flatMap_cons, h x List.mem_cons_self, flatMap_same fun y hy => h y (List.mem_cons_of_mem _ hy)]
theorem mid_split {fr to lo : Int} : ∀ {q : List Pc}, Chain lo q → (∀ p ∈ q, fr < pEnd p) → q.flatMap (fun p => cutL fr p ++ cutR to p) = q.flatMap (cutL fr) ++ q.flatMap (cutR to)
  | [], _, _ => rfl
  | p :: q, h, he => by
    have h1 := he p List.mem_cons_self
    have hn : ∀ x ∈ q, cutL fr x = [] := fun x hx => by
      have := (h.2.2.2.lo x hx).1
      unfold cutL
      rw [if_neg (by omega)]
    rw [List.flatMap_cons, List.flatMap_cons, List.flatMap_cons, flatMap_nil hn, List.append_nil, List.append_assoc]
    congr 2
    exact flatMap_same fun x hx => by rw [hn x hx]; rfl
theorem cut_ahead {fr : Int} {ps : List Pc} {j : Nat} (h : Behind ps fr j) : aheadS fr ps = ps.take j ++ (ps.drop j).flatMap (cutL fr) := by
  unfold aheadS
  conv => lhs; rw [← List.take_append_drop j ps, List.flatMap_append]
  congr 1
  · exact flatMap_one fun x hx => by unfold cutA; rw [if_pos (h.2.1 x hx)]
  · exact flatMap_same fun x hx => by unfold cutA; rw [if_neg (by have := h.2.2 x hx; omega)]
theorem cut_behind {fr to : Int} {ps : List Pc} {j : Nat} (h : Behind ps fr j) : behindS fr to ps = (ps.drop j).flatMap (cutR to) := by
  unfold behindS
  conv => lhs; rw [← List.take_append_drop j ps, List.flatMap_append]
  have : (ps.take j).flatMap (cutB fr to) = [] := flatMap_nil fun x hx => by unfold cutB; rw [if_pos (h.2.1 x hx)]
  rw [this, List.nil_append]
  exact flatMap_same fun x hx => by unfold cutB; rw [if_neg (by have := h.2.2 x hx; omega)]

theorem lpc_cutL (fr : Int) (p : Lp) : lpcs (lcutL fr p) = cutL fr (lpc p) := by
  unfold lcutL cutL lpcs
  show List.map lpc (if p.1 < fr then _ else _) = if p.1 < fr then _ else _
  split <;> rfl
theorem lpc_cutR (to : Int) (p : Lp) : lpcs (lcutR to p) = cutR to (lpc p) := by
  unfold lcutR cutR lpcs
  rw [lEnd_eq]
  split <;> rfl
theorem lpcs_append (a b : List Lp) : lpcs (a ++ b) = lpcs a ++ lpcs b := List.map_append
theorem lpcs_flat {f : Lp → List Lp} {g : Pc → List Pc} (h : ∀ p, lpcs (f p) = g (lpc p)) : ∀ (q : List Lp), lpcs (q.flatMap f) = (lpcs q).flatMap g
  | [] => rfl
  | p :: q => by
    rw [List.flatMap_cons, lpcs_append, h, lpcs_flat h q]
    rfl
theorem lpcs_take (ls : List Lp) (j : Nat) : lpcs (ls.take j) = (lpcs ls).take j := List.map_take
theorem lpcs_drop (ls : List Lp) (j : Nat) : lpcs (ls.drop j) = (lpcs ls).drop j := List.map_drop
theorem left_pcs {fr : Int} {ls : List Lp} {j : Nat} (h : Behind (lpcs ls) fr j) : lpcs (ls.take j ++ llft fr (ls.drop j)) = aheadS fr (lpcs ls) := by
  rw [lpcs_append, lpcs_take, cut_ahead h]
  congr 1
  unfold llft
  rw [lpcs_flat (lpc_cutL fr), lpcs_drop]
theorem all_pcs {fr to lo : Int} {ls : List Lp} {j : Nat} (h : Behind (lpcs ls) fr j) (hc : Chain lo (lpcs ls)) : lpcs (ls.take j ++ lmid fr to (ls.drop j)) = aheadS fr (lpcs ls) ++ behindS fr to (lpcs ls) := by
  rw [lpcs_append, lpcs_take, cut_ahead h, cut_behind h, List.append_assoc]
  congr 1
  unfold lmid
  rw [lpcs_flat (g := fun p => cutL fr p ++ cutR to p) (fun p => by rw [lpcs_append, lpc_cutL, lpc_cutR]), lpcs_drop]
  exact mid_split (hc.drop j) h.2.2
theorem left_len {fr : Int} {ls : List Lp} {j : Nat} (h : Behind (lpcs ls) fr j) : j + (llft fr (ls.drop j)).length = (aheadS fr (lpcs ls)).length := by
  rw [← left_pcs h, lpcs_len, List.length_append, List.length_take]
  have := h.1
  rw [lpcs_len] at this
  omega

/-- A part of a piece. -/
def Sub (p' p : Lp) : Prop := ∀ b o, p.2.1 = some ⟨b, o, none⟩ → ∃ d, p'.2.1 = some ⟨b, o + d, none⟩ ∧ d + p'.2.2.2.length ≤ p.2.2.2.length ∧ p'.2.2.2 = (p.2.2.2.drop d).take p'.2.2.2.length ∧ p'.2.2.1 + d = p.2.2.1 ∧ d ≤ p.2.2.2.length
theorem Sub.refl (p : Lp) : Sub p p := fun b o h => ⟨0, h, by omega, by rw [List.drop_zero, List.take_length], rfl, Nat.zero_le _⟩
theorem sub_cutL {fr : Int} {p p' : Lp} (h : p' ∈ lcutL fr p) : Sub p' p := by
  unfold lcutL at h
  split at h
  · rw [List.mem_singleton.1 h]
    intro b o hA
    refine ⟨0, hA, ?_, ?_, rfl, Nat.zero_le _⟩
    · show 0 + (p.2.2.2.take (fr - p.1).toNat).length ≤ _
      rw [List.length_take]
      omega
    · show p.2.2.2.take (fr - p.1).toNat = (p.2.2.2.drop 0).take (p.2.2.2.take (fr - p.1).toNat).length
      rw [List.drop_zero, List.length_take, ← List.take_take, List.take_length]
  · cases h
theorem sub_cutR {to : Int} {p p' : Lp} (h : p' ∈ lcutR to p) (hc : p.2.2.2.length ≤ p.2.2.1) : Sub p' p := by
  unfold lcutR at h
  split at h
  · rename_i ht
    have e : lEnd p = p.1 + (p.2.2.2.length : Int) := rfl
    rw [List.mem_singleton.1 h]
    intro b o hA
    refine ⟨(to - p.1).toNat, ?_, ?_, ?_, ?_, by omega⟩
    · show p.2.1.map (fun x => x.add (to - p.1).toNat) = _
      rw [hA]
      simp [add_at]
    · show (to - p.1).toNat + (p.2.2.2.drop (to - p.1).toNat).length ≤ _
      rw [List.length_drop]
      omega
    · show p.2.2.2.drop (to - p.1).toNat = (p.2.2.2.drop (to - p.1).toNat).take (p.2.2.2.drop (to - p.1).toNat).length
      rw [List.take_length]
    · show p.2.2.1 - (to - p.1).toNat + (to - p.1).toNat = _
      omega
  · cases h
theorem Sub.ok {w : World} {F : Nat → Prop} {p p' : Lp} (h : Sub p' p) (hp : LpOk w F p) : LpOk w F p' := by
  obtain ⟨⟨b, o, cur, e, hf, hh, hc⟩, h3, h4, h5⟩ := hp
  obtain ⟨d, g1, g2, g3, g4, g5⟩ := h b o e
  refine ⟨⟨b, o + d, cur, g1, hf, hh, fun j hj => ?_⟩, by omega, by omega, by rw [g3]; exact (h5.drop d).take _⟩
  rw [Nat.add_assoc, hc (d + j) (by omega)]
  congr 2
  rw [List.getD, List.getD]
  congr 1
  conv => rhs; rw [g3]
  rw [List.getElem?_take_of_lt hj, List.getElem?_drop]
theorem Sub.apart {p q p' q' : Lp} (h : Apart p q) (hp : Sub p' p) (hq : Sub q' q) (e1 : ∃ b o, p.2.1 = some ⟨b, o, none⟩) (e2 : ∃ b o, q.2.1 = some ⟨b, o, none⟩) : Apart p' q' := by
  obtain ⟨b, o, e1⟩ := e1
  obtain ⟨b', o', e2⟩ := e2
  obtain ⟨d, g1, g2, _⟩ := hp b o e1
  obtain ⟨d', k1, k2, _⟩ := hq b' o' e2
  intro c x c' x' h1 h2
  rw [g1] at h1
  rw [k1] at h2
  cases h1
  cases h2
  rcases h b o b' o' e1 e2 with h | h | h
  · exact .inl h
  · exact .inr (.inl (by omega))
  · exact .inr (.inr (by omega))
theorem apart_LR {fr to : Int} {p x y : Lp} (hft : fr < to) (hx : x ∈ lcutL fr p) (hy : y ∈ lcutR to p) : Apart x y := by
  unfold lcutL at hx
  unfold lcutR at hy
  split at hx
  · split at hy
    · rename_i h1 h2
      rw [List.mem_singleton.1 hx, List.mem_singleton.1 hy]
      intro b o b' o' e1 e2
      have e1' : p.2.1 = some ⟨b, o, none⟩ := e1
      have e2' : p.2.1.map (fun x => x.add (to - p.1).toNat) = some ⟨b', o', none⟩ := e2
      rw [e1'] at e2'
      simp only [Option.map_some, add_at, Option.some.injEq, Addr.mk.injEq, and_true] at e2'
      right
      left
      show o + (p.2.2.2.take (fr - p.1).toNat).length ≤ o'
      rw [List.length_take]
      omega
    · cases hy
  · cases hx

/-- cleared, told in pieces. -/
theorem cleared_any {w : World} {F : Nat → Prop} {g : Nat} {ls : List Lp} {N fr to : Int} (h : SpanO w F g ls N) (h0 : 0 ≤ fr) (h1 : fr < to) (h2 : to ≤ 2147483648) :
    Calls Try.prog 57 #[.pointer (some ⟨g, 0, none⟩), .int .i64 fr, .int .i64 to] w fun e w' =>
      ∃ (A : Option Addr) (c : Nat) (ls' : List Lp) (j : Nat), e = .returned (.tuple #[.slice A ls'.length c, .int .i64 (j : Int)]) ∧ j = (aheadS fr (lpcs ls)).length ∧ lpcs ls' = aheadS fr (lpcs ls) ++ behindS fr to (lpcs ls) ∧
        OwnP w' w.heap.size A ls'.length c ls' ∧ (∀ p ∈ ls', LpOk w F p) ∧ ls'.Pairwise Apart ∧ Below w.heap.size w w' := by
  refine (cleared_raw h h0 h1 h2).mono fun e w' ⟨A, c, j, e1, hj, hO, hb⟩ => ⟨A, c, _, _, e1, left_len hj, all_pcs hj h.chain, hO, ?_, ?_, hb⟩
  · intro p hp
    rcases List.mem_append.1 hp with hp | hp
    · exact h.ok p (List.mem_of_mem_take hp)
    · obtain ⟨q, hq, hp⟩ := List.mem_flatMap.1 hp
      have hqo := h.ok q (List.mem_of_mem_drop hq)
      rcases List.mem_append.1 hp with hp | hp
      · exact (sub_cutL hp).ok hqo
      · exact (sub_cutR hp hqo.2.1).ok hqo
  · have haddr : ∀ p ∈ ls, ∃ b o, p.2.1 = some ⟨b, o, none⟩ := fun p hp => by
      obtain ⟨⟨b, o, _, e, _⟩, _⟩ := h.ok p hp
      exact ⟨b, o, e⟩
    have hap := h.apart
    rw [← List.take_append_drop j ls] at hap
    obtain ⟨a1, a2, a3⟩ := List.pairwise_append.1 hap
    refine List.pairwise_append.2 ⟨a1, ?_, ?_⟩
    · unfold lmid
      refine List.pairwise_flatMap.2 ⟨fun p hp => ?_, ?_⟩
      · refine List.pairwise_append.2 ⟨?_, ?_, fun x hx y hy => apart_LR h1 hx hy⟩
        · unfold lcutL; split
          · exact List.pairwise_singleton _ _
          · exact List.Pairwise.nil
        · unfold lcutR; split
          · exact List.pairwise_singleton _ _
          · exact List.Pairwise.nil
      · refine List.Pairwise.imp_of_mem (fun {p q} hp hq hpq x hx y hy => ?_) a2
        have hpo := h.ok p (List.mem_of_mem_drop hp)
        have hqo := h.ok q (List.mem_of_mem_drop hq)
        have s1 : Sub x p := by
          rcases List.mem_append.1 hx with hx | hx
          · exact sub_cutL hx
          · exact sub_cutR hx hpo.2.1
        have s2 : Sub y q := by
          rcases List.mem_append.1 hy with hy | hy
          · exact sub_cutL hy
          · exact sub_cutR hy hqo.2.1
        exact Sub.apart hpq s1 s2 (haddr p (List.mem_of_mem_drop hp)) (haddr q (List.mem_of_mem_drop hq))
    · intro x hx y hy
      obtain ⟨q, hq, hy⟩ := List.mem_flatMap.1 hy
      have hqo := h.ok q (List.mem_of_mem_drop hq)
      have s2 : Sub y q := by
        rcases List.mem_append.1 hy with hy | hy
        · exact sub_cutL hy
        · exact sub_cutR hy hqo.2.1
      exact Sub.apart (a3 x hx q hq) (Sub.refl x) s2 (haddr x (List.mem_of_mem_take hx)) (haddr q (List.mem_of_mem_drop hq))
end Go.Proofs.Ytajfamjdfhjdeaa
