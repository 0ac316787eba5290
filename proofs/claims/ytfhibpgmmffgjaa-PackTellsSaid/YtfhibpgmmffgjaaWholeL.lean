/- The plain law of PackWhole: a beginning of packed bytes, or more behind them, is none. -/
import Derived.Test.YtfhibpgmmffgjaaBackL
namespace Go.Proofs.Ytfhibpgmmffgjaa
theorem unpackF_cons (n f : Nat) (c : Int) (r out : List Int) : unpackF n (f + 1) (c :: r) out =
    if c < 128 then (if r.length < c.toNat + 1 ∨ n - out.length < c.toNat + 1 then none else unpackF n f (r.drop (c.toNat + 1)) (out ++ r.take (c.toNat + 1)))
    else (if r.length < 1 ∨ r.getD 0 0 = 0 ∨ out.length < (r.getD 0 0).toNat ∨ n - out.length < c.toNat - 125 then none else unpackF n f (r.drop 1) (copyF (r.getD 0 0).toNat (c.toNat - 125) out)) := rfl
/-- Where all is told, one piece more is too much. -/
theorem un_more (n : Nat) : ∀ (f : Nat) (rest out res more : List Int) (F : Nat), rest.length < f → (rest ++ more).length < F → more ≠ [] → unpackF n f rest out = some res → unpackF n F (rest ++ more) out = none
  | 0, _, _, _, _, _, hf, _, _, _ => absurd hf (by omega)
  | f + 1, [], out, res, more, F, _, hF, hm, h => by
    have ho : out.length = n := by
      have : (if out.length = n then some out else none) = some res := h
      by_cases hh : out.length = n
      · exact hh
      · rw [if_neg hh] at this; cases this
    obtain ⟨c, r, rfl⟩ : ∃ c r, more = c :: r := by
      cases more with
      | nil => exact absurd rfl hm
      | cons c r => exact ⟨c, r, rfl⟩
    obtain ⟨F, rfl⟩ : ∃ G, F = G + 1 := ⟨F - 1, by simp at hF; omega⟩
    rw [List.nil_append, unpackF_cons]
    by_cases hc : c < 128
    · rw [if_pos hc, if_pos (by omega)]
    · rw [if_neg hc, if_pos (by omega)]
  | f + 1, c :: r, out, res, more, F, hf, hF, hm, h => by
    obtain ⟨F, rfl⟩ : ∃ G, F = G + 1 := ⟨F - 1, by simp at hF; omega⟩
    rw [unpackF_cons] at h
    rw [List.cons_append, unpackF_cons]
    simp only [List.length_cons, List.length_append] at hf hF
    by_cases hc : c < 128
    · rw [if_pos hc] at h ⊢
      by_cases ht : r.length < c.toNat + 1 ∨ n - out.length < c.toNat + 1
      · rw [if_pos ht] at h; cases h
      · rw [if_neg ht] at h
        rw [if_neg (by rw [List.length_append]; omega)]
        have e1 : (r ++ more).drop (c.toNat + 1) = r.drop (c.toNat + 1) ++ more := List.drop_append_of_le_length (by omega)
        have e2 : (r ++ more).take (c.toNat + 1) = r.take (c.toNat + 1) := List.take_append_of_le_length (by omega)
        rw [e1, e2]
        exact un_more n f _ _ res more F (by rw [List.length_drop]; omega) (by rw [List.length_append, List.length_drop]; omega) hm h
    · rw [if_neg hc] at h ⊢
      by_cases ht : r.length < 1 ∨ r.getD 0 0 = 0 ∨ out.length < (r.getD 0 0).toNat ∨ n - out.length < c.toNat - 125
      · rw [if_pos ht] at h; cases h
      · rw [if_neg ht] at h
        have e0 : (r ++ more).getD 0 0 = r.getD 0 0 := by
          simp only [List.getD]
          rw [List.getElem?_append_left (by omega)]
        rw [e0, if_neg (by rw [List.length_append]; omega)]
        have e1 : (r ++ more).drop 1 = r.drop 1 ++ more := List.drop_append_of_le_length (by omega)
        rw [e1]
        exact un_more n f _ _ res more F (by rw [List.length_drop]; omega) (by rw [List.length_append, List.length_drop]; omega) hm h
/-- A beginning is too little. -/
theorem un_less (n : Nat) : ∀ (f : Nat) (rest out res : List Int) (j F : Nat), rest.length < f → j < rest.length → j < F → (∀ c ∈ rest, 0 ≤ c) → unpackF n f rest out = some res → unpackF n F (rest.take j) out = none
  | 0, _, _, _, _, _, hf, _, _, _, _ => absurd hf (by omega)
  | f + 1, [], _, _, j, _, _, hj, _, _, _ => absurd hj (by simp)
  | f + 1, c :: r, out, res, j, F, hf, hj, hF, hb, h => by
    obtain ⟨F, rfl⟩ : ∃ G, F = G + 1 := ⟨F - 1, by omega⟩
    rw [unpackF_cons] at h
    simp only [List.length_cons] at hf hj
    have hc0 := hb c (by simp)
    have hb' : ∀ k, ∀ x ∈ r.drop k, 0 ≤ x := fun k x hx => hb x (List.mem_cons_of_mem _ (List.mem_of_mem_drop hx))
    cases j with
    | zero =>
      have hne : out.length ≠ n := by
        by_cases hc : c < 128
        · rw [if_pos hc] at h
          by_cases ht : r.length < c.toNat + 1 ∨ n - out.length < c.toNat + 1
          · rw [if_pos ht] at h; cases h
          · omega
        · rw [if_neg hc] at h
          by_cases ht : r.length < 1 ∨ r.getD 0 0 = 0 ∨ out.length < (r.getD 0 0).toNat ∨ n - out.length < c.toNat - 125
          · rw [if_pos ht] at h; cases h
          · omega
      rw [List.take_zero]
      show (if out.length = n then some out else none) = none
      rw [if_neg hne]
    | succ j =>
      rw [List.take_succ_cons, unpackF_cons]
      by_cases hc : c < 128
      · rw [if_pos hc] at h ⊢
        by_cases ht : r.length < c.toNat + 1 ∨ n - out.length < c.toNat + 1
        · rw [if_pos ht] at h; cases h
        · rw [if_neg ht] at h
          by_cases hj2 : j < c.toNat + 1
          · rw [if_pos (by rw [List.length_take]; omega)]
          · rw [if_neg (by rw [List.length_take]; omega)]
            rw [List.drop_take, List.take_take, Nat.min_eq_left (by omega)]
            exact un_less n f _ _ res _ F (by rw [List.length_drop]; omega) (by rw [List.length_drop]; omega) (by omega) (hb' _) h
      · rw [if_neg hc] at h ⊢
        by_cases ht : r.length < 1 ∨ r.getD 0 0 = 0 ∨ out.length < (r.getD 0 0).toNat ∨ n - out.length < c.toNat - 125
        · rw [if_pos ht] at h; cases h
        · rw [if_neg ht] at h
          by_cases hj2 : j < 1
          · rw [if_pos (by rw [List.length_take]; omega)]
          · have e0 : (r.take j).getD 0 0 = r.getD 0 0 := by
              simp only [List.getD, List.getElem?_take]
              rw [if_pos (by omega)]
            rw [e0, if_neg (by rw [List.length_take]; omega), List.drop_take]
            exact un_less n f _ _ res _ F (by rw [List.length_drop]; omega) (by rw [List.length_drop]; omega) (by omega) (hb' _) h
theorem hdr_take (zs : List Int) (k : Nat) (h : 4 ≤ k) : hdr (zs.take k) = hdr zs := by
  unfold hdr
  simp only [List.getD, List.getElem?_take]
  rw [if_pos (by omega), if_pos (by omega), if_pos (by omega), if_pos (by omega)]
theorem hdr_app (zs more : List Int) (h : 4 ≤ zs.length) : hdr (zs ++ more) = hdr zs := by
  unfold hdr
  simp only [List.getD]
  rw [List.getElem?_append_left (by omega), List.getElem?_append_left (by omega), List.getElem?_append_left (by omega), List.getElem?_append_left (by omega)]
theorem unpackS_ok {zs : List Int} (h : (unpackS zs).1 = 0) : 4 ≤ zs.length ∧ hdr zs ≤ 65536 ∧ unpackF (hdr zs) zs.length (zs.drop 4) [] = some (unpackS zs).2 := by
  unfold unpackS at *
  by_cases h1 : zs.length < 4
  · rw [if_pos h1] at h; cases h
  · rw [if_neg h1] at h ⊢
    by_cases h2 : 65536 < hdr zs
    · rw [if_pos h2] at h; cases h
    · rw [if_neg h2] at h ⊢
      refine ⟨by omega, by omega, ?_⟩
      revert h
      cases unpackF (hdr zs) zs.length (zs.drop 4) [] with
      | none => intro h; cases h
      | some out => intro _; rfl
theorem whole_len {zs : List Int} (h : (unpackS zs).1 = 0) : (unpackS zs).2.length ≤ 65536 := by
  obtain ⟨h1, h2, h3⟩ := unpackS_ok h
  have := unpackF_len _ _ _ _ _ h3
  omega
theorem whole_less {zs : List Int} (hz : Bs zs) (h : (unpackS zs).1 = 0) (k : Nat) (hk : k < zs.length) : unpackS (zs.take k) = (110, []) := by
  obtain ⟨h1, h2, h3⟩ := unpackS_ok h
  have hl : (zs.take k).length = k := by rw [List.length_take]; omega
  by_cases h4 : k < 4
  · exact unpackS_short (by omega)
  · refine unpackS_none (by omega) (by rw [hdr_take zs k (by omega)]; omega) ?_
    rw [hdr_take zs k (by omega), hl, List.drop_take]
    exact un_less _ zs.length (zs.drop 4) [] _ (k - 4) k (by rw [List.length_drop]; omega) (by rw [List.length_drop]; omega) (by omega) (fun c hc => (hz c (List.mem_of_mem_drop hc)).1) h3
theorem whole_more {zs more : List Int} (h : (unpackS zs).1 = 0) (hm : more ≠ []) : unpackS (zs ++ more) = (110, []) := by
  obtain ⟨h1, h2, h3⟩ := unpackS_ok h
  refine unpackS_none (by rw [List.length_append]; omega) (by rw [hdr_app zs more h1]; omega) ?_
  rw [hdr_app zs more h1, List.drop_append_of_le_length h1]
  exact un_more _ zs.length (zs.drop 4) [] _ more _ (by rw [List.length_drop]; omega) (by rw [List.length_append, List.length_append, List.length_drop]; omega) hm h3
end Go.Proofs.Ytfhibpgmmffgjaa
