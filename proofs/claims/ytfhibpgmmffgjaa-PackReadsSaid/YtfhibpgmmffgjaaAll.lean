/- memory.All of a plain file. -/
import Derived.Test.YtfhibpgmmffgjaaWay
namespace Go.Proofs.Ytfhibpgmmffgjaa
open Go.RowKit

/-- An empty slice with room for c bytes, just made. -/
def capAt (W : World) (c : Nat) : World := W.alloc (.cells (madeCells #[.int .u8 0] c) 5)
theorem run_make_cap (c : Nat) (hc : c ≤ 281474976710656) (W : World) : (Instr.makeSlice 22 (.int .i64 0) (.int .i64 (c : Int))).run Try.prog W = .ok (.slice (some ⟨W.heap.size, 0, none⟩) 0 c) (capAt W c) := by
  obtain ⟨i0, hi0, hz⟩ := Option.map_eq_some_iff.1 u8_info
  simp only [Prod.mk.injEq] at hz
  have hr := run_make (P := Try.prog) W 22 5 i0 (.int .u8 0) Try.underlying22 hi0 hz.1 .i64 .i64 0 c (Int.le_refl _) (by omega) (by rw [hz.2.2]; omega) (by omega)
  rw [hr, hz.2.1, Int.toNat_natCast, Nat.mul_one]
  rfl
theorem capAt_own (W : World) (c : Nat) (hc : c ≤ 281474976710656) : Own8 (capAt W c) W.heap.size (some ⟨W.heap.size, 0, none⟩) 0 c [] :=
  World.ownsRow_made W _ c (Nat.le_refl _) (by simp only [maxLen]; omega) (by rw [Nat.mul_one]; have := size_madeCells #[Value.int .u8 0] c; simpa using this)
theorem capAt_below (W : World) (c : Nat) : Below W.heap.size W (capAt W c) := Below.alloc (Below.refl _ _) (Nat.le_refl _) _
theorem own8_past {w w' : World} {base : Nat} {A : Option Addr} {n c : Nat} {zs : List Int} (h : Own8 w base A n c zs) (hb : Below w.heap.size w w') : Own8 w' base A n c zs :=
  h.kept (row := none) ⟨hb.os, hb.tape, hb.output, hb.size, fun k hk _ => hb.block k hk⟩ (by cases (Value.slice A n c).ownBlock <;> simp)
theorem own8_base {w : World} {base base' : Nat} {A : Option Addr} {n c : Nat} {zs : List Int} (h : Own8 w base A n c zs) (hb : base' ≤ base) : Own8 w base' A n c zs := by
  refine ⟨h.1, ?_⟩
  rcases h.2 with h | ⟨g, cap, cur, h1, h2, h3⟩
  · exact .inl h
  · exact .inr ⟨g, cap, cur, h1, by omega, h3⟩
theorem plainRd_in {zs : List Int} {k m : Nat} (_ : k + m ≤ zs.length) (h2 : m ≤ 65536) : plainRd zs (k : Int) (m : Int) = (0, (zs.drop k).take m) := by
  unfold plainRd
  rw [if_neg (by omega), if_neg (by omega), Int.toNat_natCast, Int.toNat_natCast]

set_option maxHeartbeats 1000000 in
theorem all_any {w : World} {H m0 : Nat} {zs : List Int} (hf : Open w H m0 (zs.length : Int) (plainRd zs)) (hsz : zs.length ≤ 4194304) :
    Calls Try.prog 23 #[.pointer (some ⟨H, 0, none⟩)] w fun e w' => ∃ A c, e = .returned (.tuple #[.slice A zs.length c, .int .i64 0]) ∧ Own8 w' w.heap.size A zs.length c zs ∧ Below w.heap.size w w' := by
  obtain ⟨P, pt, T, v, S, R, hw, hF⟩ := hf.way
  obtain ⟨l0, q1, q2, q3, q4, q5, q6⟩ := hw
  replace hF := box (hF w (Below.refl _ _))
  replace q5 := box (q5 w (Below.refl _ _))
  replace q6 := box q6
  obtain ⟨n, hn⟩ : ∃ n, zs.length = n := ⟨_, rfl⟩
  rw [hn] at hsz q5 ⊢
  replace hn := box hn
  have hmk := fun W => run_make_cap n (by omega) W
  have hsz2 : (n : Int) ≤ 4194304 := by omega
  clear hf
  go_enter Try.func23, Try.ntmps23
  go_wp2_with fail
  refine hF.out.mono ?_
  rintro e w' ⟨rfl, rfl⟩
  go_wp2_with fail
  refine q5.out.mono ?_
  rintro e w1 ⟨rfl, hb⟩
  replace hb := box hb
  clear q1 q3
  go_wp2
  clear hmk
  have hcb := capAt_below w1 n
  have hO := own8_base (capAt_own w1 n (by omega)) hb.out.size
  replace hb := box (hb.out.trans (hcb.mono hb.out.size))
  clear hcb
  replace hO := box hO
  generalize hWc : capAt w1 n = wc at *
  clear hWc
  go_loopw [6, 7] (fun s6 s7 wr => ∃ (k : Nat) (A : Option Addr) (c : Nat), k ≤ n ∧ s7 = .int .i64 ((n : Int) - (k : Int)) ∧ s6 = .slice A k c ∧ Box (Own8 wr w'.heap.size A k c (zs.take k)) ∧ Box (Below w'.heap.size w' wr)) (fun _ s7 _ => (intOf s7).toNat)
  case atStart => exact ⟨0, _, n, Nat.zero_le _, by simp, rfl, hO, hb⟩
  case round =>
    obtain ⟨k, A, c, hk, rfl, rfl, hOr, hbr⟩ := hrel
    by_cases hlt : k < n
    · obtain ⟨m, hm⟩ : ∃ m : Nat, min ((n : Int) - (k : Int)) 65536 = (m : Int) := ⟨(min ((n : Int) - (k : Int)) 65536).toNat, by omega⟩
      have hm1 : 0 < m := by omega
      have hm2 : k + m ≤ n := by omega
      have hm3 : m ≤ 65536 := by omega
      have hlr := cell_past hbr.out l0
      have hr := box (fun W => q6.out W (k : Int) (m : Int) 0 ((zs.drop k).take m) (plainRd_in (by rw [hn.out]; exact hm2) hm3))
      have hlen := box (show ((zs.drop k).take m).length = m by rw [List.length_take, List.length_drop, hn.out]; omega)
      have hsuc := box (show zs.take (k + m) = zs.take k ++ (zs.drop k).take m from List.take_add)
      have hk1 : (0 : Int) < (n : Int) - (k : Int) := by omega
      generalize (zs.drop k).take m = xs at *
      go_wp2_with fail
      refine (hr.out _ hbr.out).mono ?_
      rintro e w2 ⟨A2, k2, c2, rfl, hB2, hk2, hk3, hk4, hb2⟩
      have hk5 : k2 = m := by have := hB2.out.len; rw [hlen.out] at this; exact this.symm
      subst hk5
      have hO3 := box (own8_past hOr.out hb2.out)
      have hbase : w'.heap.size ≤ w2.heap.size := by have := hbr.out.size; have := hb2.out.size; omega
      have hb8 := box (hB2.out.src)
      have hall := box (hbr.out.trans (hb2.out.mono hbr.out.size))
      have hnl : ¬ (k2 : Int) < (k2 : Int) := by omega
      clear hB2 hbr hb2 hOr hlr
      go_wp2_with (at_builtin; refine app8 w2 (.tmp 41) (.tmp 42) w'.heap.size hO3.out hb8.out rfl rfl rfl rfl (by omega) hbase ?_; intro A4 c4 w4 O4 b4 s4; rw [← hsuc.out] at O4; replace O4 := box O4; replace b4 := box b4; clear s4)
      go_roundw
      case measure => simp [intOf]; omega
      case rel => exact ⟨k + k2, A4, c4, by omega, by go_num, rfl, O4, ⟨hall.out.trans b4.out⟩⟩
    · obtain rfl : k = n := by omega
      have h5 : ¬ (0 : Int) < (k : Int) - (k : Int) := by omega
      go_wp2
      go_ret2
      have hO2 := hOr.out
      rw [List.take_of_length_le (by rw [hn.out]; exact Nat.le_refl _)] at hO2
      exact ⟨A, c, rfl, hO2, hbr.out⟩
end Go.Proofs.Ytfhibpgmmffgjaa
