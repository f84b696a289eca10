/- The size of an element. Conditions: none. -/
import Derived.Test.YtjaaldandgfkgaaClE
import Derived.Test.YtjaaldandgfkgaaBasE
namespace Go.Proofs.Ytjaaldandgfkgaa
open Go.RowKit

theorem szE : (Try.prog.info? 127).map (·.size) = some 1 := by kernel_rfl
end Go.Proofs.Ytjaaldandgfkgaa
