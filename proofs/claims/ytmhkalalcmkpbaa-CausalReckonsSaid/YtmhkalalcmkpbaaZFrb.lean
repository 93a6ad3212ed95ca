/-
  Frb
-/
import Derived.Test.YtmhkalalcmkpbaaZFacR
import Derived.Test.YtmhkalalcmkpbaaZFput
import Derived.Test.YtmhkalalcmkpbaaZWireTextR
namespace Go.Proofs.Ytmhkalalcmkpbaa
open Go Go.RowKit
set_option linter.unusedVariables false
set_option linter.unusedSimpArgs false

theorem cat_take0 {α : Type} (g : α → ByteArray) {xs : List α} {k : Nat} {x : α} (h : xs[k]? = some x) : cat ((xs.take k).map g) ++ g x = cat ((xs.take (k + 1)).map g) := by
  have := cat_take g h ⟨#[]⟩
  rw [nil_app, nil_app] at this; exact this
end Go.Proofs.Ytmhkalalcmkpbaa
