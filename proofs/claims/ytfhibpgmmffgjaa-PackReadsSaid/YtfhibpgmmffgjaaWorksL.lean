/- Plain laws on what is packed: examples, there and back. -/
import Derived.Test.YtfhibpgmmffgjaaPackL
import Derived.Test.YtfhibpgmmffgjaaUnpackL
namespace Go.Proofs.Ytfhibpgmmffgjaa
theorem pack_ex : packS [97, 97, 97, 97] = [0, 0, 0, 4, 0, 97, 128, 1] := by
  have m0 : matchS [97, 97, 97, 97] 0 = (0, 0) := by decide +kernel
  have m1 : matchS [97, 97, 97, 97] 1 = (3, 1) := by decide +kernel
  show packF [97, 97, 97, 97] 4 0 0 (head4 4) = _
  rw [packF_one _ 3 0 0 _ (by rw [m0]), packF_more _ 2 0 1 _ (by rw [m1]; decide), m1]
  show packF [97, 97, 97, 97] 0 4 4 _ = _
  rw [packF_zero]
  decide +kernel
theorem unpack_ex : unpackS [0, 0, 0, 5, 1, 97, 98, 128, 2] = (0, [97, 98, 97, 98, 97]) := by decide +kernel
theorem unpack_ex3 : unpackS [0, 0, 0] = (110, []) := by decide +kernel
end Go.Proofs.Ytfhibpgmmffgjaa
