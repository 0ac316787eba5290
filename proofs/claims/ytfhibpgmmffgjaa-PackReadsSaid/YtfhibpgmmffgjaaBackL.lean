/- The plain law of PackBack: what was packed is unpacked, and is not much longer. -/
import Derived.Test.YtfhibpgmmffgjaaPackL
import Derived.Test.YtfhibpgmmffgjaaUnpackL
namespace Go.Proofs.Ytfhibpgmmffgjaa
theorem un_runs (n : Nat) : ∀ (l : Nat) (xs out more : List Int) (F : Nat), xs.length = l → out.length + xs.length ≤ n → (runsS xs ++ more).length < F →
    unpackF n F (runsS xs ++ more) out = unpackF n (more.length + 1) more (out ++ xs) := by
  intro l
  induction l using Nat.strongRecOn with
  | _ l ih =>
    intro xs out more F hl hn hF
    by_cases h0 : 0 < xs.length
    · obtain ⟨m, hm⟩ : ∃ m, m = min 128 xs.length := ⟨_, rfl⟩
      have hr := runsS_step xs h0
      rw [← hm] at hr
      obtain ⟨k, rfl⟩ : ∃ k, m = k + 1 := ⟨m - 1, by omega⟩
      obtain ⟨r, hrr⟩ : ∃ r, r = xs.take 128 ++ runsS (xs.drop 128) ++ more := ⟨_, rfl⟩
      have e1 : runsS xs ++ more = (k : Int) :: r := by
        rw [hr, hrr]
        simp
      have ht : (xs.take 128).length = k + 1 := by rw [List.length_take]; omega
      have e2 : r.take (k + 1) = xs.take 128 := by
        rw [hrr, List.append_assoc, ← ht, List.take_left]
      have e3 : r.drop (k + 1) = runsS (xs.drop 128) ++ more := by
        rw [hrr, List.append_assoc, ← ht, List.drop_left]
      have hlr : r.length = (k + 1) + (runsS (xs.drop 128) ++ more).length := by
        rw [hrr, List.append_assoc, List.length_append, ht]
      rw [e1] at hF ⊢
      rw [unpackF_enough n F (r.length + 2) _ _ hF (by simp)]
      obtain ⟨_, f2⟩ := u_run (n := n) (k := k) (told := out) (by omega) rfl (rfl : r.length = r.length)
      rw [← f2 (by omega) (by omega), e2, e3]
      rw [ih (xs.drop 128).length (by simp; omega) (xs.drop 128) _ more _ rfl (by simp; omega) (by omega)]
      rw [List.append_assoc, List.take_append_drop]
    · obtain rfl : xs = [] := List.eq_nil_of_length_eq_zero (by omega)
      rw [runsS_nil, List.nil_append, List.append_nil]
      exact unpackF_enough n _ _ _ _ (by simpa [runsS_nil] using hF) (by omega)
theorem un_match (n k d : Nat) (out more : List Int) (F : Nat) (h3 : 3 ≤ k) (hd : 1 ≤ d) (hdo : d ≤ out.length) (hk : k ≤ n - out.length) (hF : more.length + 2 < F) :
    unpackF n F (((k : Int) + 125) :: (d : Int) :: more) out = unpackF n (more.length + 1) more (copyF d k out) := by
  rw [unpackF_enough n F (more.length + 1 + 2) _ _ (by simp; omega) (by simp)]
  rw [show ((k : Int) + 125) = ((k + 125 : Nat) : Int) by omega]
  obtain ⟨_, f2⟩ := u_match (n := n) (k := k + 125) (g := more.length + 1) (r := (d : Int) :: more) (told := out) (by omega) rfl (by simp)
  obtain ⟨_, f3⟩ := f2 d (by simp)
  rw [← f3 (by omega) hd hdo (by omega)]
  simp
theorem copy_match (zs : List Int) (t d : Nat) (hd : 1 ≤ d) (hdt : d ≤ t) : ∀ k, t + k ≤ zs.length → (∀ i, i < k → zs.getD (t - d + i) 0 = zs.getD (t + i) 0) → ∀ j, j ≤ k → copyF d j (zs.take (t + (k - j))) = zs.take (t + k) := by
  intro k hk h j
  induction j with
  | zero => intro _; rfl
  | succ j ih =>
    intro hj
    rw [copyF]
    have hlen : (zs.take (t + (k - (j + 1)))).length = t + (k - (j + 1)) := by rw [List.length_take]; omega
    have e : zs.take (t + (k - (j + 1))) ++ [(zs.take (t + (k - (j + 1)))).getD ((zs.take (t + (k - (j + 1)))).length - d) 0] = zs.take (t + (k - j)) := by
      have hi := h (k - (j + 1)) (by omega)
      rw [hlen]
      have e1 : (zs.take (t + (k - (j + 1)))).getD (t + (k - (j + 1)) - d) 0 = zs.getD (t + (k - (j + 1))) 0 := by
        rw [← hi, show t - d + (k - (j + 1)) = t + (k - (j + 1)) - d by omega]
        simp only [List.getD, List.getElem?_take]
        rw [if_pos (by omega)]
      rw [e1, show t + (k - j) = t + (k - (j + 1)) + 1 by omega, List.take_succ_eq_append_getElem (by omega)]
      simp [List.getD, show t + (k - (j + 1)) < zs.length by omega]
    rw [e]
    exact ih (by omega)
theorem pack_tail (zs : List Int) (hz : Bs zs) : ∀ (f fr t : Nat), fr ≤ t → t + f = zs.length → ∃ s, (∀ pre, packF zs f fr t pre = pre ++ s) ∧ (∀ F, s.length < F → unpackF zs.length F s (zs.take fr) = some zs) ∧ Bs s ∧
    s.length ≤ (zs.length - fr) + (zs.length - fr + 127) / 128 := by
  intro f
  induction f using Nat.strongRecOn with
  | _ f ih =>
    intro fr t hft htf
    have htk : (zs.take fr).length = fr := by rw [List.length_take]; omega
    cases f with
    | zero =>
      refine ⟨runsS (zs.drop fr), fun pre => packF_zero zs fr t pre, fun F hF => ?_, runsS_bs _ (hz.drop fr), by rw [runsS_len, List.length_drop]; omega⟩
      have := un_runs zs.length _ (zs.drop fr) (zs.take fr) [] F rfl (by rw [htk, List.length_drop]; omega) (by simpa using hF)
      rw [List.append_nil] at this
      rw [this, List.take_append_drop]
      show (if zs.length = zs.length then some zs else none) = _
      rw [if_pos rfl]
    | succ f =>
      obtain ⟨k, d, hkd⟩ : ∃ k d, matchS zs t = (k, d) := ⟨_, _, rfl⟩
      by_cases hk : k = 0
      · obtain ⟨s, h1, h2, h3, h4⟩ := ih f (by omega) fr (t + 1) (by omega) (by omega)
        exact ⟨s, fun pre => by rw [packF_one zs f fr t pre (by rw [hkd]; exact hk), h1], h2, h3, h4⟩
      · have hm := matchS_or zs t
        rw [hkd] at hm
        have hm' : 3 ≤ k ∧ k ≤ 130 ∧ k ≤ zs.length - t ∧ 1 ≤ d ∧ d ≤ 255 ∧ d ≤ t ∧ ∀ i, i < k → zs.getD (t - d + i) 0 = zs.getD (t + i) 0 := by
          rcases hm with hm | hm
          · injection hm; omega
          · exact hm
        obtain ⟨g1, g2, g3, g4, g5, g6, g7⟩ := hm'
        obtain ⟨s, h1, h2, h3, h4⟩ := ih (f + 1 - k) (by omega) (t + k) (t + k) (by omega) (by omega)
        have hcut : ((zs.take t).drop fr).length = t - fr := by rw [List.length_drop, List.length_take]; omega
        refine ⟨runsS ((zs.take t).drop fr) ++ (((k : Int) + 125) :: (d : Int) :: s), fun pre => ?_, fun F hF => ?_, ?_, ?_⟩
        · have e := packF_more zs f fr t pre (by rw [hkd]; exact hk)
          rw [hkd] at e
          rw [e, h1]
          simp
        · rw [un_runs zs.length _ ((zs.take t).drop fr) (zs.take fr) _ F rfl (by rw [htk, hcut]; omega) hF]
          have e1 : zs.take fr ++ (zs.take t).drop fr = zs.take t := by
            have : zs.take fr = (zs.take t).take fr := by rw [List.take_take, Nat.min_eq_left hft]
            rw [this, List.take_append_drop]
          rw [e1, un_match zs.length k d (zs.take t) s _ g1 g4 (by rw [List.length_take]; omega) (by rw [List.length_take]; omega) (by simp)]
          have e2 := copy_match zs t d g4 g6 k (by omega) g7 k (Nat.le_refl _)
          rw [Nat.sub_self, Nat.add_zero] at e2
          rw [e2]
          exact h2 _ (by omega)
        · refine (runsS_bs _ ((hz.take t).drop fr)).app (Bs.cons (by omega) (Bs.cons (by omega) h3))
        · rw [List.length_append, runsS_len, hcut]
          simp only [List.length_cons]
          omega
theorem hdr_head (n : Nat) (h : n ≤ 65536) (s : List Int) : hdr (head4 n ++ s) = n := by
  unfold hdr head4
  simp only [List.cons_append, List.getD, List.getElem?_cons_zero, List.getElem?_cons_succ, Option.getD_some]
  omega
/-- THERE AND BACK. -/
theorem unpack_pack (zs : List Int) (hz : Bs zs) (h : zs.length ≤ 65536) : unpackS (packS zs) = (0, zs) ∧ (packS zs).length ≤ 4 + zs.length + (zs.length + 127) / 128 ∧ Bs (packS zs) := by
  obtain ⟨s, h1, h2, h3, h4⟩ := pack_tail zs hz zs.length 0 0 (Nat.le_refl _) (by omega)
  have e : packS zs = head4 zs.length ++ s := h1 _
  have hh : (head4 zs.length).length = 4 := rfl
  refine ⟨?_, ?_, ?_⟩
  · rw [e]
    have hd := hdr_head zs.length h s
    refine unpackS_some (by rw [List.length_append]; omega) (by rw [hd]; omega) ?_
    rw [hd]
    have e4 : (head4 zs.length ++ s).drop 4 = s := rfl
    rw [e4]
    have := h2 (head4 zs.length ++ s).length (by rw [List.length_append]; omega)
    rwa [List.take_zero] at this
  · rw [e, List.length_append]
    simp only [Nat.sub_zero] at h4
    omega
  · rw [e]
    exact (head4_bs _ h).app h3
end Go.Proofs.Ytfhibpgmmffgjaa
