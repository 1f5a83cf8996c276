/- Marks of texts (the part of C51 that stands alone). -/
import Derived.Test.YtjklebickfcddaaDoorC49
import Derived.Test.YtjklebickfcddaaDoorC50
import Derived.Test.YtjklebickfcddaaDoorC51
namespace Go.Proofs.YtjklebickfcddaaDoor.Sep
open Go.RowKit
end Go.Proofs.YtjklebickfcddaaDoor.Sep
