/- Plain law: bytes are laid among pieces. No program. -/
import Derived.Test.YtajfamjdfhjdeaaCutL
namespace Go.Proofs.Ytajfamjdfhjdeaa
open Go.RowKit

/-- The pieces that stay ahead; where the own piece begins; what it takes over. -/
def splitL (at_ : Int) (A : List Pc) : List Pc × Int × List Int :=
  match A.getLast? with
  | some p => if pEnd p = at_ then (A.dropLast, p.1, p.2) else (A, at_, [])
  | none => (A, at_, [])
def splitR (en : Int) : List Pc → List Pc × List Int
  | [] => ([], [])
  | q :: r => if q.1 = en then (r, q.2) else (q :: r, [])
def layS (at_ : Int) (b : List Int) (A C : List Pc) : List Pc :=
  (splitL at_ A).1 ++ ((splitL at_ A).2.1, (splitL at_ A).2.2 ++ b ++ (splitR (at_ + (b.length : Int)) C).2) :: (splitR (at_ + (b.length : Int)) C).1

theorem splitR_eq {en : Int} {q : Pc} {r : List Pc} (h : q.1 = en) : splitR en (q :: r) = (r, q.2) := if_pos h
theorem flatMap_one {f : Pc → List Pc} : ∀ {l : List Pc}, (∀ x ∈ l, f x = [x]) → l.flatMap f = l
  | [], _ => rfl
  | x :: l, h => by rw [List.flatMap_cons, h x List.mem_cons_self, flatMap_one fun y hy => h y (List.mem_cons_of_mem _ hy)]; rfl
theorem splitL_snoc {at_ : Int} {A : List Pc} {p : Pc} (h : pEnd p = at_) : splitL at_ (A ++ [p]) = (A, p.1, p.2) := by
  unfold splitL
  rw [List.getLast?_concat]
  show (if pEnd p = at_ then _ else _) = _
  rw [if_pos h, List.dropLast_concat]
theorem splitL_far {at_ : Int} {A : List Pc} (h : ∀ p, A.getLast? = some p → pEnd p ≠ at_) : splitL at_ A = (A, at_, []) := by
  unfold splitL
  split
  · rename_i p hp
    rw [if_neg (h p hp)]
  · rfl
/-- Two ways. -/
theorem splitL_cases {at_ lo : Int} {A : List Pc} (hA : Chain lo A) (hE : Ends at_ A) :
    (splitL at_ A = (A, at_, []) ∧ Ends (at_ - 1) A) ∨ ∃ A' p, A = A' ++ [p] ∧ pEnd p = at_ ∧ splitL at_ A = (A', p.1, p.2) := by
  rcases List.eq_nil_or_concat A with rfl | ⟨A', p, rfl⟩
  · exact .inl ⟨rfl, fun _ h => by cases h⟩
  · rw [List.concat_eq_append] at *
    by_cases hp : pEnd p = at_
    · exact .inr ⟨A', p, rfl, hp, splitL_snoc hp⟩
    · left
      refine ⟨splitL_far fun q hq => ?_, fun q hq => ?_⟩
      · rw [List.getLast?_concat] at hq
        cases hq
        exact hp
      · obtain ⟨i, hi⟩ := List.mem_iff_getElem?.1 hq
        have h1 := hE p (by simp)
        by_cases hl : i < A'.length
        · have h2 := hA.order hl hi (show (A' ++ [p])[A'.length]? = some p by simp)
          have h3 := (hA.lo p (by simp)).2
          have e := pEnd_eq p
          omega
        · rw [List.getElem?_append_right (by omega)] at hi
          have : i - A'.length = 0 := by
            have := (List.getElem?_eq_some_iff.1 hi).1
            simp at this
            omega
          rw [this] at hi
          cases hi
          omega
theorem splitR_cases {en : Int} {C : List Pc} (hC : Chain en C) :
    (splitR en C = (C, []) ∧ Chain (en + 1) C) ∨ ∃ q r, C = q :: r ∧ q.1 = en ∧ splitR en C = (r, q.2) := by
  cases C with
  | nil => exact .inl ⟨rfl, trivial⟩
  | cons q r =>
    by_cases hq : q.1 = en
    · exact .inr ⟨q, r, rfl, hq, if_pos hq⟩
    · exact .inl ⟨if_neg hq, by have := hC.1; omega, hC.2⟩
theorem lay_chain {lo at_ : Int} {b : List Int} {A C : List Pc} (hA : Chain lo A) (hE : Ends at_ A) (hC : Chain (at_ + (b.length : Int)) C) (hb : Bs b) (h0 : 0 < b.length) (hl : lo ≤ at_) : Chain lo (layS at_ b A C) := by
  unfold layS
  have hright : ∀ (x : Int) (pre : List Int), Bs pre → x + (pre.length : Int) = at_ → Chain x ((x, pre ++ b ++ (splitR (at_ + (b.length : Int)) C).2) :: (splitR (at_ + (b.length : Int)) C).1) := by
    intro x pre hpre hx
    rcases splitR_cases hC with ⟨h1, h2⟩ | ⟨q, r, rfl, h1, h2⟩
    · rw [h1]
      refine ⟨Int.le_refl _, by simp; omega, (hpre.app hb).app Bs.nil, h2.mono ?_⟩
      show x + ((pre ++ b ++ []).length : Int) + 1 ≤ _
      simp
      omega
    · rw [h2]
      refine ⟨Int.le_refl _, by simp; omega, (hpre.app hb).app hC.2.2.1, hC.2.2.2.mono ?_⟩
      show x + ((pre ++ b ++ q.2).length : Int) + 1 ≤ pEnd q + 1
      have e := pEnd_eq q
      simp
      omega
  rcases splitL_cases hA hE with ⟨h1, h2⟩ | ⟨A', p, rfl, h1, h2⟩
  · rw [h1]
    exact hA.app h2 ((hright at_ [] Bs.nil (by simp)).mono (by omega)) (by omega)
  · rw [h2]
    have hp := hA.right
    have hq := hright p.1 p.2 hp.2.2.1 h1
    have hends : Ends (p.1 - 1) A' := by
      intro q hq
      obtain ⟨i, hi⟩ := List.mem_iff_getElem?.1 hq
      have hil := (List.getElem?_eq_some_iff.1 hi).1
      have := hA.order hil (show (A' ++ [p])[i]? = some q by rw [List.getElem?_append_left hil]; exact hi) (show (A' ++ [p])[A'.length]? = some p by simp)
      omega
    exact hA.left.app hends (hq.mono (by omega)) (by have := hp.1; omega)
theorem lay_held (at_ : Int) (b : List Int) {lo : Int} {A C : List Pc} (hA : Chain lo A) (hE : Ends at_ A) (hC : Chain (at_ + (b.length : Int)) C) : heldS (layS at_ b A C) = heldS A + b.length + heldS C := by
  unfold layS
  rcases splitL_cases hA hE with ⟨h1, h2⟩ | ⟨A', p, rfl, h1, h2⟩ <;> rcases splitR_cases hC with ⟨g1, g2⟩ | ⟨q, r, rfl, g1, g2⟩
  · rw [h1, g1]; simp [heldS]; omega
  · rw [h1, g2]; simp [heldS]; omega
  · rw [h2, g1]; simp [heldS]; omega
  · rw [h2, g2]; simp [heldS]; omega
theorem lay_ends {at_ N lo : Int} {b : List Int} {A C : List Pc} (hA : Chain lo A) (hE : Ends at_ A) (hC : Chain (at_ + (b.length : Int)) C) (hN : Ends N C) : Ends (max N (at_ + (b.length : Int))) (layS at_ b A C) := by
  intro x hx
  unfold layS at hx
  rw [List.mem_append, List.mem_cons] at hx
  rcases splitL_cases hA hE with ⟨h1, h2⟩ | ⟨A', p, rfl, h1, h2⟩ <;> rcases splitR_cases hC with ⟨g1, g2⟩ | ⟨q, r, rfl, g1, g2⟩
  · rw [h1, g1] at hx
    rcases hx with hx | rfl | hx
    · have := h2 x hx; omega
    · show at_ + (([] ++ b ++ []).length : Int) ≤ _; simp; omega
    · have := hN x hx; omega
  · rw [h1, g2] at hx
    have hq := hN q List.mem_cons_self
    have e := pEnd_eq q
    rcases hx with hx | rfl | hx
    · have := h2 x hx; omega
    · show at_ + (([] ++ b ++ q.2).length : Int) ≤ _; simp; omega
    · have := hN x (List.mem_cons_of_mem _ hx); omega
  · rw [h2, g1] at hx
    have e := pEnd_eq p
    rcases hx with hx | rfl | hx
    · have := hE x (List.mem_append_left _ hx); omega
    · show p.1 + ((p.2 ++ b ++ []).length : Int) ≤ _; simp; omega
    · have := hN x hx; omega
  · rw [h2, g2] at hx
    have e := pEnd_eq p
    have hq := hN q List.mem_cons_self
    have e2 := pEnd_eq q
    rcases hx with hx | rfl | hx
    · have := hE x (List.mem_append_left _ hx); omega
    · show p.1 + ((p.2 ++ b ++ q.2).length : Int) ≤ _; simp; omega
    · have := hN x (List.mem_cons_of_mem _ hx); omega

/-- Within a piece nothing else turns. -/
theorem lay_within {lo at_ : Int} {b : List Int} {ps : List Pc} {j : Nat} {p : Pc} (h : Chain lo ps) (hj : ps[j]? = some p) (h1 : p.1 ≤ at_) (h2 : at_ + (b.length : Int) ≤ pEnd p) (h0 : 0 < b.length) :
    layS at_ b (aheadS at_ ps) (behindS at_ (at_ + (b.length : Int)) ps) = ps.set j (p.1, splice p.2 (at_ - p.1).toNat b) ∧ heldS (aheadS at_ ps) + heldS (behindS at_ (at_ + (b.length : Int)) ps) + b.length = heldS ps := by
  induction ps generalizing lo j with
  | nil => cases hj
  | cons q ps ih =>
    have e := pEnd_eq p
    cases j with
    | zero =>
      rw [List.getElem?_cons_zero] at hj
      cases hj
      have hfar : aheadS at_ ps = [] := ahead_far h.2.2.2 (by omega)
      have hfar' : List.flatMap (cutA at_) ps = [] := hfar
      have hbeh : behindS at_ (at_ + (b.length : Int)) ps = ps := by
        have : ∀ x ∈ ps, cutB at_ (at_ + (b.length : Int)) x = [x] := by
          intro x hx
          have hx1 := h.2.2.2.lo x hx
          have ex := pEnd_eq x
          unfold cutB cutR
          rw [if_neg (by omega), if_pos (by omega), show max x.1 (at_ + (b.length : Int)) = x.1 by omega, show (at_ + (b.length : Int) - x.1).toNat = 0 by omega]
          rfl
        exact flatMap_one this
      have hbeh' : List.flatMap (cutB at_ (at_ + (b.length : Int))) ps = ps := hbeh
      have hA : aheadS at_ (p :: ps) = cutL at_ p := by
        unfold aheadS
        rw [List.flatMap_cons, hfar', List.append_nil]
        unfold cutA
        rw [if_neg (by omega)]
      have hB : behindS at_ (at_ + (b.length : Int)) (p :: ps) = cutR (at_ + (b.length : Int)) p ++ ps := by
        unfold behindS
        rw [List.flatMap_cons, hbeh']
        congr 1
        unfold cutB
        rw [if_neg (by omega)]
      rw [hA, hB, List.set_cons_zero]
      obtain ⟨d, hd⟩ : ∃ d : Nat, at_ = p.1 + (d : Int) := ⟨(at_ - p.1).toNat, by omega⟩
      have hdl : d + b.length ≤ p.2.length := by omega
      have e1 : (at_ - p.1).toNat = d := by omega
      have e2 : (at_ + (b.length : Int) - p.1).toNat = d + b.length := by omega
      have hL : splitL at_ (cutL at_ p) = ([], p.1, p.2.take d) := by
        unfold cutL
        by_cases hpl : p.1 < at_
        · rw [if_pos hpl]
          have hh : pEnd (p.1, p.2.take (at_ - p.1).toNat) = at_ := by
            show p.1 + ((p.2.take (at_ - p.1).toNat).length : Int) = at_
            rw [List.length_take]
            omega
          have := splitL_snoc (A := []) hh
          rw [List.nil_append] at this
          rw [this, e1]
        · rw [if_neg hpl]
          have : d = 0 := by omega
          subst this
          show ([], at_, []) = _
          rw [List.take_zero, show at_ = p.1 by omega]
      have hLh : heldS (cutL at_ p) = d := by
        unfold cutL
        split
        · simp [heldS, e1]; omega
        · simp [heldS]; omega
      by_cases hr : at_ + (b.length : Int) < pEnd p
      · have hR : cutR (at_ + (b.length : Int)) p = [(at_ + (b.length : Int), p.2.drop (d + b.length))] := by
          unfold cutR
          rw [if_pos hr, e2, show max p.1 (at_ + (b.length : Int)) = at_ + (b.length : Int) by omega]
        rw [hR]
        constructor
        · unfold layS
          rw [hL]
          show [] ++ (p.1, p.2.take d ++ b ++ (splitR (at_ + (b.length : Int)) ((at_ + (b.length : Int), p.2.drop (d + b.length)) :: ps)).2) :: (splitR (at_ + (b.length : Int)) ((at_ + (b.length : Int), p.2.drop (d + b.length)) :: ps)).1 = _
          have hsr : splitR (at_ + (b.length : Int)) ((at_ + (b.length : Int), p.2.drop (d + b.length)) :: ps) = (ps, p.2.drop (d + b.length)) := splitR_eq rfl
          rw [hsr, e1]
          show (p.1, p.2.take d ++ b ++ p.2.drop (d + b.length)) :: ps = _
          unfold splice
          rw [List.append_assoc]
        · rw [hLh, heldS_append, heldS_cons]
          show d + (heldS [(at_ + (b.length : Int), p.2.drop (d + b.length))] + heldS ps) + b.length = _
          simp [heldS]
          omega
      · have hR : cutR (at_ + (b.length : Int)) p = [] := by
          unfold cutR
          rw [if_neg hr]
        rw [hR, List.nil_append]
        have hfr : splitR (at_ + (b.length : Int)) ps = (ps, []) := by
          cases ps with
          | nil => rfl
          | cons x r => exact if_neg (by have := h.2.2.2.1; omega)
        constructor
        · unfold layS
          rw [hL, hfr]
          show (p.1, p.2.take d ++ b ++ []) :: ps = _
          unfold splice
          rw [e1, List.drop_of_length_le (by omega)]
          simp
        · rw [hLh, heldS_cons]
          omega
    | succ j =>
      rw [List.getElem?_cons_succ] at hj
      have hp1 := h.2.2.2.lo p (List.mem_of_getElem? hj)
      have eq := pEnd_eq q
      have hq : pEnd q ≤ at_ - 1 := by omega
      have hA : aheadS at_ (q :: ps) = q :: aheadS at_ ps := by
        unfold aheadS
        rw [List.flatMap_cons]
        unfold cutA
        rw [if_pos (by omega)]
        rfl
      have hB : behindS at_ (at_ + (b.length : Int)) (q :: ps) = behindS at_ (at_ + (b.length : Int)) ps := by
        unfold behindS
        rw [List.flatMap_cons]
        unfold cutB
        rw [if_pos (by omega)]
        rfl
      obtain ⟨i1, i2⟩ := ih h.2.2.2 hj
      rw [hA, hB, List.set_cons_succ, ← i1]
      constructor
      · unfold layS
        have : splitL at_ (q :: aheadS at_ ps) = (q :: (splitL at_ (aheadS at_ ps)).1, (splitL at_ (aheadS at_ ps)).2) := by
          rcases splitL_cases (ahead_chain h.2.2.2) (ahead_ends h.2.2.2) with ⟨g1, g2⟩ | ⟨A', x, g0, g1, g2⟩
          · rw [g1]
            refine splitL_far fun x hx => ?_
            cases hps : aheadS at_ ps with
            | nil =>
              rw [hps] at hx
              have hxq : q = x := by simpa using hx
              rw [← hxq]
              omega
            | cons y ys =>
              rw [hps, List.getLast?_cons_cons] at hx
              have := g2 x (by rw [hps]; exact List.mem_of_getLast? hx)
              omega
          · rw [g2, g0, ← List.cons_append, splitL_snoc g1]
        rw [this]
        rfl
      · simp only [heldS_cons]
        omega
end Go.Proofs.Ytajfamjdfhjdeaa
