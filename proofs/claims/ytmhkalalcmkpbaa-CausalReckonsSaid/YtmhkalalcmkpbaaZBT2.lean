/-
  BT2
-/
import Derived.Test.YtmhkalalcmkpbaaZBT
namespace Go.Proofs.Ytmhkalalcmkpbaa
open Go
end Go.Proofs.Ytmhkalalcmkpbaa
