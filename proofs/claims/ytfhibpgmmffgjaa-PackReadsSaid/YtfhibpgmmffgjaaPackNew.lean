/- pack.New over a plain file. -/
import Derived.Test.YtfhibpgmmffgjaaFileP
import Derived.Test.YtfhibpgmmffgjaaWorks
namespace Go.Proofs.Ytfhibpgmmffgjaa
open Go.RowKit

set_option maxHeartbeats 2000000 in
theorem packNew_any {w : World} {H m0 : Nat} {zs out : List Int} (hf : Open w H m0 (zs.length : Int) (plainRd zs)) (hsz : zs.length ≤ 131072) (hu : unpackS zs = (0, out)) (hbs : Bs zs) (hob : Bs out) (hol : out.length ≤ 65536) :
    Calls Try.prog 16 #[.pointer (some ⟨H, 0, none⟩)] w fun e w' => ∃ H' P v, e = .returned (.tuple #[.pointer (some ⟨H', 0, none⟩), .int .i64 0]) ∧ Hand w' H' P 0 64 v ∧ Reads w' 64 v (out.length : Int) (plainRd out) ∧ Below w.heap.size w w' := by
  obtain ⟨P, pt, T, v, S, R, hw, hF⟩ := hf.way
  obtain ⟨l0, q1, q2, q3, q4, q5, q6⟩ := hw
  replace hF := box (hF w (Below.refl _ _))
  replace q5 := box (q5 w (Below.refl _ _))
  replace q6 := box q6
  obtain ⟨n, hn⟩ : ∃ n, zs.length = n := ⟨_, rfl⟩
  rw [hn] at hsz q5
  replace hn := box hn
  have hsz2 : (n : Int) ≤ 131072 := by omega
  have hun := box (fun (W : World) A c (hb : Byt W W.heap.size A n zs) (h1 : n ≤ c) (h2 : c ≤ 9223372036854775807) => unpack_is A n c zs W hb h1 h2)
  rw [hu] at hun
  have hbsB := box hbs
  have hobB := box hob
  have hmk := box (fun v W => make0 64 v W)
  clear hf hu hbs hob
  go_enter Try.func16, Try.ntmps16
  go_wp2_with fail
  refine hF.out.mono ?_
  rintro e w' ⟨rfl, rfl⟩
  go_wp2_with fail
  refine q5.out.mono ?_
  rintro e w1 ⟨rfl, hb⟩
  replace hb := box hb
  clear q1 q3
  go_wp2
  go_loopw [6] (fun s6 wr => ∃ (k : Nat) (A : Option Addr) (c : Nat), k ≤ n ∧ s6 = .slice A k c ∧ Box (Own8 wr w'.heap.size A k c (zs.take k)) ∧ Box (Below w'.heap.size w' wr)) (fun s6 _ => match s6 with | .slice _ k _ => n - k | _ => 0)
  case atStart => exact ⟨0, none, 0, Nat.zero_le _, rfl, ⟨Own8.nil _ _⟩, hb⟩
  case round =>
    obtain ⟨k, A, c, hk, rfl, hO, hbr⟩ := hrel
    by_cases hlt : k < n
    · obtain ⟨m, hm⟩ : ∃ m : Nat, min (65536 : Int) ((n : Int) - (k : Int)) = (m : Int) := ⟨(min (65536 : Int) ((n : Int) - (k : Int))).toNat, by omega⟩
      have hm1 : 0 < m := by omega
      have hm2 : k + m ≤ n := by omega
      have hm3 : m ≤ 65536 := by omega
      have hlr := cell_past hbr.out l0
      have hr := box (fun W => q6.out W (k : Int) (m : Int) 0 ((zs.drop k).take m) (plainRd_in (by rw [hn.out]; exact hm2) hm3))
      have hlen := box (show ((zs.drop k).take m).length = m by rw [List.length_take, List.length_drop, hn.out]; omega)
      have hsuc := box (show zs.take (k + m) = zs.take k ++ (zs.drop k).take m from List.take_add)
      have hk1 : (k : Int) < (n : Int) := by omega
      generalize (zs.drop k).take m = xs at *
      go_wp2_with fail
      refine (hr.out _ hbr.out).mono ?_
      rintro e w2 ⟨A2, k2, c2, rfl, hB2, hk2, hk3, hk4, hb2⟩
      have hk5 : k2 = m := by have := hB2.out.len; rw [hlen.out] at this; exact this.symm
      subst hk5
      have hO3 := box (own8_past hO.out hb2.out)
      have hbase : w'.heap.size ≤ w2.heap.size := by have := hbr.out.size; have := hb2.out.size; omega
      have hb8 := box (hB2.out.src)
      have hall := box (hbr.out.trans (hb2.out.mono hbr.out.size))
      have hz : ((k2 : Int) == 0) = false := by rw [beq_eq_false_iff_ne]; omega
      clear hB2 hbr hb2 hO hlr
      go_wp2_with (at_builtin; refine app8 w2 (.tmp 41) (.tmp 42) w'.heap.size hO3.out hb8.out rfl rfl rfl rfl (by omega) hbase ?_; intro A4 c4 w4 O4 b4 s4; rw [← hsuc.out] at O4; replace O4 := box O4; replace b4 := box b4; clear s4)
      go_roundw
      case measure => show n - (k + k2) < n - k; omega
      case rel => exact ⟨k + k2, A4, c4, by omega, rfl, O4, ⟨hall.out.trans b4.out⟩⟩
    · obtain rfl : k = n := by omega
      have h5 : ¬ (k : Int) < (k : Int) := by omega
      have hO2 := hO.out
      rw [List.take_of_length_le (by rw [hn.out]; exact Nat.le_refl _)] at hO2
      have hcap := own_cap hO2
      have hby := Byt.of_own hO2 hbsB.out
      have hcall := box (hun.out wr A c hby hcap.1 hcap.2)
      clear hO2 hcap hby hO q6
      go_wp2_with fail
      refine hcall.out.mono ?_
      rintro e w3 ⟨A3, k3, rfl, hb3, hO3⟩
      replace hO3 := box hO3
      have hall := box (hbr.out.trans (hb3.mono hbr.out.size))
      clear hb3 hbr
      go_wp2_with fail
      refine (hmk.out _ _).mono ?_
      rintro e w4 ⟨rfl, hw4⟩
      replace hw4 := box hw4
      go_wp2
      go_ret2
      have hh := handAt_hand w3 (show 0 < 16 by omega) 64 (.slice A3 out.length k3)
      have hbw := handAt_below w3 0 (.iface 64 (.slice A3 out.length k3)) (Nat.le_refl _)
      rw [← hw4.out] at hh hbw
      have hc3 := own_cap hO3.out
      have hy3 := ((Byt.of_own hO3.out hobB.out).grown hbw).more hbw.size
      exact ⟨_, _, _, rfl, hh, file_reads hy3 hc3.1 hc3.2 (by omega), hall.out.trans (hbw.mono hall.out.size)⟩
end Go.Proofs.Ytfhibpgmmffgjaa
