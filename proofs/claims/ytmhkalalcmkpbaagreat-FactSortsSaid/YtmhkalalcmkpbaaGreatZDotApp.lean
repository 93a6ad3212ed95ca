/-
  DotApp
-/
import Derived.Test.YtmhkalalcmkpbaaGreatZDotClone
import Derived.Test.YtmhkalalcmkpbaaGreatZTools
import Derived.Deep.Onto
namespace Go.Proofs.YtmhkalalcmkpbaaGreat
open Go.RowKit
set_option linter.unusedVariables false

theorem OwnD.nil (w : World) (base : Nat) : OwnD w base (.slice none 0 0) [] := World.ownsRow_nil _ _ _ _
end Go.Proofs.YtmhkalalcmkpbaaGreat
