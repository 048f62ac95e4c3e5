/- Joined: AbsPNXL AbsPNXM AbsPNXN. -/
import Derived.Test.YtbkhamjlfadfoaaDoorAbs12
import Derived.Test.YtbkhamjlfadfoaaDoorAbs22
set_option linter.all false
set_option linter.unusedVariables false
noncomputable section
namespace Go.Abs
open Go Go.Proofs
end Go.Abs
end
set_option linter.unusedVariables false
noncomputable section
namespace Go.Abs
open Go Go.Proofs
end Go.Abs
end
set_option linter.unusedVariables false
noncomputable section
namespace Go.Abs
open Go Go.Proofs
end Go.Abs
end
