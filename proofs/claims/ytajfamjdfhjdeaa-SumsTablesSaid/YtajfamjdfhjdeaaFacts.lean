/- Closed facts on this translation's types. -/
import Derived.Test.YtajfamjdfhjdeaaRows
import Derived.WalkKit
namespace Go.Proofs.Ytajfamjdfhjdeaa
theorem u8_info : (Try.prog.info? 5).map (fun i => (i.zero, i.size, i.bytes)) = some (some (.int .u8 0), 1, 1) := by kernel_rfl
theorem u8_size : (Try.prog.info? 5).map (·.size) = some 1 := by kernel_rfl
end Go.Proofs.Ytajfamjdfhjdeaa
