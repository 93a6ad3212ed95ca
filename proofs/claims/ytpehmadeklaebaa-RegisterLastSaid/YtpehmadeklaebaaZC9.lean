/-
  C9
-/
import Derived.Test.YtpehmadeklaebaaZC8
namespace Go.Proofs.Ytpehmadeklaebaa
open Go Go.RowKit
set_option linter.unusedVariables false
set_option linter.unusedSimpArgs false
section
variable {P : Program} {C : Cx} {Q : Exit → AS → Prop} {s : AS} {ops : Array Oper} {rest : List Oper}
end
section
variable {P : Program} {C : Cx} {Q : Exit → AS → Prop} {f : Nat → AV} {h : List HObj} {ops : Array Oper} {rest : List Oper}
end
end Go.Proofs.Ytpehmadeklaebaa
