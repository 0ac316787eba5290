/- The plain law of pack.match: the longest match at a place, told by lists of numbers. -/
import Derived.Test.YtfhibpgmmffgjaaKit
namespace Go.Proofs.Ytfhibpgmmffgjaa
/-- How many numbers from two places on are the same, at most m. -/
def agree (zs : List Int) : Nat → Nat → Nat → Nat
  | _, _, 0 => 0
  | i, j, m + 1 => if zs.getD i 0 = zs.getD j 0 then 1 + agree zs (i + 1) (j + 1) m else 0

theorem agree_le (zs : List Int) : ∀ (m i j : Nat), agree zs i j m ≤ m
  | 0, _, _ => Nat.le_refl _
  | m + 1, i, j => by
    have := agree_le zs m (i + 1) (j + 1)
    unfold agree
    split <;> omega

theorem agree_split (zs : List Int) : ∀ (k m i j : Nat), k ≤ m → (∀ t, t < k → zs.getD (i + t) 0 = zs.getD (j + t) 0) →
    agree zs i j m = k + agree zs (i + k) (j + k) (m - k)
  | 0, m, i, j, _, _ => by simp
  | k + 1, m, i, j, hk, h => by
    obtain ⟨m, rfl⟩ : ∃ m', m = m' + 1 := ⟨m - 1, by omega⟩
    have h0 := h 0 (by omega)
    simp only [Nat.add_zero] at h0
    rw [agree, if_pos h0, agree_split zs k m (i + 1) (j + 1) (by omega) (fun t ht => by
      have := h (t + 1) (by omega)
      rw [show i + 1 + t = i + (t + 1) by omega, show j + 1 + t = j + (t + 1) by omega]; exact this)]
    rw [show i + 1 + k = i + (k + 1) by omega, show j + 1 + k = j + (k + 1) by omega, show m + 1 - (k + 1) = m - k by omega]
    omega

theorem agree_le_of_ne (zs : List Int) : ∀ (n m i j : Nat), n < m → zs.getD (i + n) 0 ≠ zs.getD (j + n) 0 → agree zs i j m ≤ n
  | 0, m, i, j, hm, h => by
    obtain ⟨m, rfl⟩ : ∃ m', m = m' + 1 := ⟨m - 1, by omega⟩
    simp only [Nat.add_zero] at h
    rw [agree, if_neg h]
    omega
  | n + 1, m, i, j, hm, h => by
    obtain ⟨m, rfl⟩ : ∃ m', m = m' + 1 := ⟨m - 1, by omega⟩
    have := agree_le_of_ne zs n m (i + 1) (j + 1) (by omega) (by rwa [show i + 1 + n = i + (n + 1) by omega, show j + 1 + n = j + (n + 1) by omega])
    unfold agree
    split <;> omega

theorem agree_eq (zs : List Int) : ∀ (k m i j : Nat), k ≤ agree zs i j m → ∀ t, t < k → zs.getD (i + t) 0 = zs.getD (j + t) 0 := by
  intro k m i j hk t ht
  have hm := agree_le zs m i j
  by_cases h : zs.getD (i + t) 0 = zs.getD (j + t) 0
  · exact h
  · have := agree_le_of_ne zs t m i j (by omega) h
    omega

/-- One way back more. -/
def mstep (zs : List Int) (at' most : Nat) (nd : Nat × Nat) (way : Nat) : Nat × Nat :=
  if 3 ≤ agree zs (at' - way) at' most ∧ nd.1 < agree zs (at' - way) at' most then (agree zs (at' - way) at' most, way) else nd
def mfold (zs : List Int) (at' most : Nat) : Nat → Nat × Nat
  | 0 => (0, 0)
  | c + 1 => mstep zs at' most (mfold zs at' most c) (c + 1)
def mostOf (zs : List Int) (at' : Nat) : Nat := min 130 (zs.length - at')
/-- The longest match at a place, and how far back it lies. -/
def matchS (zs : List Int) (at' : Nat) : Nat × Nat := mfold zs at' (mostOf zs at') (min 255 at')

theorem mfold_le (zs : List Int) (at' most : Nat) : ∀ c, (mfold zs at' most c).1 ≤ most
  | 0 => Nat.zero_le _
  | c + 1 => by
    have := mfold_le zs at' most c
    have := agree_le zs most (at' - (c + 1)) at'
    unfold mfold mstep
    split <;> simp_all
theorem mfold_d (zs : List Int) (at' most : Nat) : ∀ c, (mfold zs at' most c).2 ≤ c
  | 0 => Nat.zero_le _
  | c + 1 => by
    have := mfold_d zs at' most c
    unfold mfold mstep
    split
    · simp
    · omega
theorem mfold_or (zs : List Int) (at' most : Nat) : ∀ c, (mfold zs at' most c) = (0, 0) ∨ (3 ≤ (mfold zs at' most c).1 ∧ 1 ≤ (mfold zs at' most c).2 ∧ (mfold zs at' most c).2 ≤ c ∧
    (mfold zs at' most c).1 = agree zs (at' - (mfold zs at' most c).2) at' most)
  | 0 => .inl rfl
  | c + 1 => by
    have ih := mfold_or zs at' most c
    unfold mfold mstep
    split
    · rename_i h
      refine .inr ⟨h.1, by simp, by simp, rfl⟩
    · rcases ih with ih | ih
      · exact .inl ih
      · exact .inr ⟨ih.1, ih.2.1, by omega, ih.2.2.2⟩
/-- Nothing is longer: the rest of the ways turns nothing. -/
theorem mfold_stay (zs : List Int) (at' most : Nat) (c : Nat) (h : most < 3 ∨ (mfold zs at' most c).1 = most) : ∀ k, mfold zs at' most (c + k) = mfold zs at' most c
  | 0 => rfl
  | k + 1 => by
    have ih := mfold_stay zs at' most c h k
    have ha := agree_le zs most (at' - (c + k + 1)) at'
    rw [show c + (k + 1) = (c + k) + 1 by omega]
    rw [mfold, mstep, ih, if_neg]
    rcases h with h | h <;> omega
theorem matchS_stop (zs : List Int) (at' c : Nat) (hc : c ≤ min 255 at') (h : mostOf zs at' < 3 ∨ (mfold zs at' (mostOf zs at') c).1 = mostOf zs at') : mfold zs at' (mostOf zs at') c = matchS zs at' := by
  unfold matchS
  obtain ⟨k, hk⟩ : ∃ k, min 255 at' = c + k := ⟨min 255 at' - c, by omega⟩
  rw [hk, mfold_stay zs at' _ c h k]
/-- What a match is. -/
theorem matchS_or (zs : List Int) (at' : Nat) : matchS zs at' = (0, 0) ∨ (3 ≤ (matchS zs at').1 ∧ (matchS zs at').1 ≤ 130 ∧ (matchS zs at').1 ≤ zs.length - at' ∧ 1 ≤ (matchS zs at').2 ∧ (matchS zs at').2 ≤ 255 ∧ (matchS zs at').2 ≤ at' ∧
    ∀ t, t < (matchS zs at').1 → zs.getD (at' - (matchS zs at').2 + t) 0 = zs.getD (at' + t) 0) := by
  have h1 := mfold_or zs at' (mostOf zs at') (min 255 at')
  have h2 := mfold_le zs at' (mostOf zs at') (min 255 at')
  unfold matchS
  rcases h1 with h1 | ⟨h1, h3, h4, h5⟩
  · exact .inl h1
  · refine .inr ⟨h1, ?_, ?_, h3, ?_, ?_, ?_⟩
    · unfold mostOf at *; omega
    · unfold mostOf at *; omega
    · omega
    · omega
    · intro t ht
      exact agree_eq zs _ _ _ _ (Nat.le_of_eq h5) t ht
theorem mstep_no {zs : List Int} {at' most way : Nat} {nd : Nat × Nat} (h : agree zs (at' - way) at' most ≤ nd.1 ∨ agree zs (at' - way) at' most < 3) : mstep zs at' most nd way = nd := by
  unfold mstep
  rw [if_neg (by omega)]

/-- The ways of a round, as the walk meets them. -/
theorem round_skip {zs : List Int} {at' mo c n d : Nat} (h : (n, d) = mfold zs at' mo c) (hne : zs.getD (at' - (c + 1) + n) 0 ≠ zs.getD (at' + n) 0) (hn : n < mo) :
    (n, d) = mfold zs at' mo (c + 1) := by
  rw [mfold, ← h, mstep_no]
  exact .inl (agree_le_of_ne zs n mo _ _ hn hne)
theorem agree_at {zs : List Int} {at' mo c k : Nat} (hk : k < mo) (heq : ∀ t, t < k → zs.getD (at' - (c + 1) + t) 0 = zs.getD (at' + t) 0) (hne : zs.getD (at' - (c + 1) + k) 0 ≠ zs.getD (at' + k) 0) :
    agree zs (at' - (c + 1)) at' mo = k := by
  have h1 := agree_le_of_ne zs k mo _ _ hk hne
  have h2 := agree_split zs k mo (at' - (c + 1)) at' (by omega) heq
  omega
theorem round_more {zs : List Int} {at' mo c n d k : Nat} (h : (n, d) = mfold zs at' mo c) (hk : k < mo) (heq : ∀ t, t < k → zs.getD (at' - (c + 1) + t) 0 = zs.getD (at' + t) 0)
    (hne : zs.getD (at' - (c + 1) + k) 0 ≠ zs.getD (at' + k) 0) (h1 : n < k) (h3 : 3 ≤ k) : (k, c + 1) = mfold zs at' mo (c + 1) := by
  rw [mfold, ← h, mstep, agree_at hk heq hne, if_pos ⟨h3, h1⟩]
theorem round_less {zs : List Int} {at' mo c n d k : Nat} (h : (n, d) = mfold zs at' mo c) (hk : k < mo) (heq : ∀ t, t < k → zs.getD (at' - (c + 1) + t) 0 = zs.getD (at' + t) 0)
    (hne : zs.getD (at' - (c + 1) + k) 0 ≠ zs.getD (at' + k) 0) (h1 : k ≤ n ∨ k < 3) : (n, d) = mfold zs at' mo (c + 1) := by
  rw [mfold, ← h, mstep_no]
  rw [agree_at hk heq hne]
  exact h1
theorem round_all {zs : List Int} {at' mo c n d : Nat} (h : (n, d) = mfold zs at' mo c) (heq : ∀ t, t < mo → zs.getD (at' - (c + 1) + t) 0 = zs.getD (at' + t) 0)
    (h1 : n < mo) (h3 : 3 ≤ mo) : (mo, c + 1) = mfold zs at' mo (c + 1) := by
  have h2 := agree_split zs mo mo (at' - (c + 1)) at' (Nat.le_refl _) heq
  have h4 : agree zs (at' - (c + 1)) at' mo = mo := by
    rw [h2, Nat.sub_self, agree]
    rfl
  rw [mfold, ← h, mstep, h4, if_pos ⟨h3, h1⟩]
/-- What the function gives, where the ways end. -/
theorem match_end {zs : List Int} {at' mo lim c n d : Nat} (hmo : mo = mostOf zs at') (hl : lim = min 255 at') (h : (n, d) = mfold zs at' mo c) (hc : c = lim ∨ c ≤ lim ∧ (mo < 3 ∨ n = mo)) :
    n = (matchS zs at').1 ∧ d = (matchS zs at').2 := by
  subst hmo
  have e : (n, d) = matchS zs at' := by
    rcases hc with rfl | ⟨hc, h'⟩
    · rw [h, hl]; rfl
    · rw [h]
      exact matchS_stop zs at' c (by omega) (by
        rcases h' with h' | h'
        · exact .inl h'
        · exact .inr (by rw [← h]; exact h'))
  rw [← e]
  exact ⟨rfl, rfl⟩
end Go.Proofs.Ytfhibpgmmffgjaa
