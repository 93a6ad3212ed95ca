/-
  WireTextR
-/
import Derived.Test.YtmhkalalcmkpbaaZDotRead2
import Derived.Test.YtmhkalalcmkpbaaZWireText
import Derived.RegionTactic
import Derived.BigRegion
namespace Go.Proofs.Ytmhkalalcmkpbaa
open Go.RowKit
set_option linter.unusedVariables false
set_option linter.unusedSimpArgs false

end Go.Proofs.Ytmhkalalcmkpbaa
