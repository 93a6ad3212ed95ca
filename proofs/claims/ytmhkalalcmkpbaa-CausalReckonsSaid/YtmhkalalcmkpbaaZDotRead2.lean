/-
  DotRead2
-/
import Derived.Test.YtmhkalalcmkpbaaZDotClone
import Derived.Test.YtmhkalalcmkpbaaZDotRead
namespace Go.Proofs.Ytmhkalalcmkpbaa
open Go.RowKit
set_option linter.unusedVariables false
set_option linter.unusedSimpArgs false

theorem Rdr.alloc {w : World} {p : Nat} {s : ByteArray} {e : Int} (h : Rdr w p s e) (o : Obj) : Rdr (w.alloc o) p s e := h.grown ((Below.refl w.heap.size w).alloc (Nat.le_refl _) o) h.lt

end Go.Proofs.Ytmhkalalcmkpbaa
