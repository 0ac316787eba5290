/- The plain law of pack.Pack. -/
import Derived.Test.YtfhibpgmmffgjaaMatchL
import Derived.Test.YtfhibpgmmffgjaaRunsL
namespace Go.Proofs.Ytfhibpgmmffgjaa
/-- The four bytes of a number of bytes. -/
def head4 (n : Nat) : List Int := [(n : Int) / 16777216, (n : Int) / 65536, (n : Int) / 256 % 256, (n : Int) % 256]
theorem head4_bs (n : Nat) (h : n ≤ 65536) : Bs (head4 n) := by
  intro x hx
  simp only [head4, List.mem_cons, List.not_mem_nil, or_false] at hx
  omega
def packF (zs : List Int) : Nat → Nat → Nat → List Int → List Int
  | 0, fr, _, out => out ++ runsS (zs.drop fr)
  | f + 1, fr, t, out =>
    if (matchS zs t).1 = 0 then packF zs f fr (t + 1) out
    else packF zs (f + 1 - (matchS zs t).1) (t + (matchS zs t).1) (t + (matchS zs t).1) (out ++ runsS ((zs.take t).drop fr) ++ [((matchS zs t).1 : Int) + 125, ((matchS zs t).2 : Int)])
  termination_by f => f
  decreasing_by all_goals omega
/-- What is packed. -/
def packS (zs : List Int) : List Int := packF zs zs.length 0 0 (head4 zs.length)

theorem packF_zero (zs : List Int) (fr t : Nat) (out : List Int) : packF zs 0 fr t out = out ++ runsS (zs.drop fr) := by
  rw [packF]
theorem packF_one (zs : List Int) (f fr t : Nat) (out : List Int) (h : (matchS zs t).1 = 0) : packF zs (f + 1) fr t out = packF zs f fr (t + 1) out := by
  rw [packF, if_pos h]
theorem packF_more (zs : List Int) (f fr t : Nat) (out : List Int) (h : (matchS zs t).1 ≠ 0) :
    packF zs (f + 1) fr t out = packF zs (f + 1 - (matchS zs t).1) (t + (matchS zs t).1) (t + (matchS zs t).1) (out ++ runsS ((zs.take t).drop fr) ++ [((matchS zs t).1 : Int) + 125, ((matchS zs t).2 : Int)]) := by
  rw [packF, if_neg h]
theorem match_bs {zs : List Int} {t k d : Nat} (h : matchS zs t = (k, d)) (hk : k ≠ 0) : Bs [(k : Int) + 125, (d : Int)] := by
  rcases matchS_or zs t with h0 | h0
  · rw [h] at h0
    injection h0
    omega
  · rw [h] at h0
    intro x hx
    simp only [List.mem_cons, List.not_mem_nil, or_false] at hx
    omega
theorem pack_own {w w3 : World} {B n c2 c3 : Nat} {A2 A3 : Option Addr} {e : TypeId} {pre rs : List Int} {k d : Int} (l : AppLeft w B e 1 (.slice A2 n c2) n 2 (u8s (pre ++ rs)) (u8s [k, d]) A3 c3 w3) :
    w3.ownsRow B e 1 (.slice A3 (n + 2) c3) (n + 2) (u8s (pre ++ rs ++ [k, d])) := by
  rw [u8s_append]
  exact l.1
end Go.Proofs.Ytfhibpgmmffgjaa
