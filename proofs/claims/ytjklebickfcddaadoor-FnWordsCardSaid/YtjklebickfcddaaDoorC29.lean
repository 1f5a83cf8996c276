/- What the laws' functions on rows compute where there are none. -/
import Derived.Test.YtjklebickfcddaaDoorC25
namespace Go.Proofs.YtjklebickfcddaaDoor.Sep
open Go.RowKit
set_option linter.unusedVariables false
set_option linter.unusedSimpArgs false
set_option maxRecDepth 20000

end Go.Proofs.YtjklebickfcddaaDoor.Sep
