/-
  DotMay
-/
import Derived.Test.YtmhkalalcmkpbaaZDotIn
namespace Go.Proofs.Ytmhkalalcmkpbaa
open Go.RowKit
set_option linter.unusedVariables false
set_option linter.unusedSimpArgs false

/-- The first error among the first k names. -/
def chkTo (l : List (Int × Int)) : Nat → Int
  | 0 => 0
  | k + 1 => if chkTo l k ≠ 0 then chkTo l k else chk (l.getD k default)
/-- Each is less than the next one. -/
def Rises (l : List (Int × Int)) (n : Nat) : Prop := ∀ i, i < n → 1 ≤ i → ltD (l.getD (i - 1) default) (l.getD i default) = true
instance (l : List (Int × Int)) (n : Nat) : Decidable (Rises l n) := inferInstanceAs (Decidable (∀ i, i < n → 1 ≤ i → ltD (l.getD (i - 1) default) (l.getD i default) = true))
def mayE (l : List (Int × Int)) : Int := if chkTo l l.length ≠ 0 then chkTo l l.length else if Rises l l.length then 0 else 5
theorem chkTo_stop (l : List (Int × Int)) (k : Nat) (h : chkTo l k ≠ 0) : ∀ m, k ≤ m → chkTo l m = chkTo l k := by
  intro m hm
  induction m with
  | zero => obtain rfl : k = 0 := by omega
            rfl
  | succ m ih =>
    rcases Nat.lt_or_ge m k with g | g
    · obtain rfl : k = m + 1 := by omega
      rfl
    · have := ih g
      show (if chkTo l m ≠ 0 then chkTo l m else _) = _
      rw [this, if_pos h]

end Go.Proofs.Ytmhkalalcmkpbaa
