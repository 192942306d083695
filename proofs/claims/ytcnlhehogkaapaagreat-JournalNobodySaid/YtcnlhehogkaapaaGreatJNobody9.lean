/- Proved here: of JNobody9, that what the Go functions of this part compute is as their contracts say (texts Nc), for every input; no condition beyond those that each theorem states. -/
import Derived.Test.YtcnlhehogkaapaaGreatJNobody6
import Derived.Test.YtcnlhehogkaapaaGreatJNobody8
import Derived.Deep.DeepHandedRow
set_option linter.all false
section
/- What holds of the program as a whole. -/
namespace Go.Proofs.YtcnlhehogkaapaaGreat
open Go Go.ChangeShapes Go.WideShapes Go.ChangeAt Go.RowKit Jb
set_option maxRecDepth 100000
theorem own : ownKnob Tryz.prog.godebug = none := by kernel_rfl
theorem laid : laidOutB Tryz.prog = true := by kernel_rfl
theorem rowed : mapsRowed Tryz.prog = true := by kernel_rfl
end Go.Proofs.YtcnlhehogkaapaaGreat
end
