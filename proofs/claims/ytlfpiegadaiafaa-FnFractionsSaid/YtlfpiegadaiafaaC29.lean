/- What the laws' functions on rows compute where there are none. -/
import Derived.Test.YtlfpiegadaiafaaC25
namespace Go.Proofs.Ytlfpiegadaiafaa.Sep
open Go.RowKit
set_option linter.unusedVariables false
set_option linter.unusedSimpArgs false
set_option maxRecDepth 20000

end Go.Proofs.Ytlfpiegadaiafaa.Sep
