/-
  ReadS
-/
import Derived.Test.YtmhkalalcmkpbaaGreatZReadArg
namespace Go.Proofs.YtmhkalalcmkpbaaGreat
open Go Go.ChangeShapes Go.WideShapes Go.ChangeAt Go.RowKit
set_option linter.unusedVariables false
theorem slice_bounds {P : Program} {W : World} {r : Reach} {b : Nat} {t e : TypeId} {a : Option Addr} {len cap : Nat} (ht : P.underlying t = some (.slice e)) (h : Value.okWide P W r b t (.slice a len cap)) : len ≤ cap ∧ cap ≤ 9223372036854775807 := by
  simp only [Value.okWide, ht, Cell.okWide] at h
  cases a with
  | none => 
    cases len <;> cases cap <;> simp_all [Cell.ok]
  | some ad =>
    simp only [Cell.ok, ht] at h
    have h2 : (cap : Int) ≤ 9223372036854775807 := h.2.1
    exact ⟨h.1, by omega⟩
end Go.Proofs.YtmhkalalcmkpbaaGreat
