/-
  Del
-/
import Derived.Test.YtmhkalalcmkpbaaZDotPlain
import Derived.Test.YtmhkalalcmkpbaaZFacBack2
import Derived.Test.YtmhkalalcmkpbaaZStampW
namespace Go.Proofs.Ytmhkalalcmkpbaa
set_option linter.unusedVariables false
set_option linter.unusedSimpArgs false

theorem chkAll_snoc {α : Type} (c : α → Int) (l : List α) (x : α) : chkAll c (l ++ [x]) = if chkAll c l ≠ 0 then chkAll c l else c x := by
  induction l with
  | nil =>
    show (if c x ≠ 0 then c x else 0) = _
    simp only [chkAll, ne_eq, not_true, if_false]
    by_cases h : c x = 0
    · rw [if_neg (by simpa using h), h]
    · rw [if_pos h]
  | cons y l ih =>
    show (if c y ≠ 0 then c y else chkAll c (l ++ [x])) = if (if c y ≠ 0 then c y else chkAll c l) ≠ 0 then (if c y ≠ 0 then c y else chkAll c l) else c x
    by_cases h : c y = 0
    · simp only [h, ne_eq, not_true, if_false]; exact ih
    · simp only [h, ne_eq, not_false_eq_true, if_true]
theorem chkTo_take (l : List (Int × Int)) : ∀ k, k ≤ l.length → chkTo l k = chkAll chk (l.take k)
  | 0, _ => by simp [chkTo, chkAll]
  | k + 1, h => by
    have hk : k < l.length := by omega
    have e : l.take (k + 1) = l.take k ++ [l.getD k default] := by
      rw [← List.take_append_getElem hk]
      simp [List.getD, List.getElem?_eq_getElem hk]
    rw [e, chkAll_snoc, ← chkTo_take l k (by omega)]
    rfl
theorem rises_G (l : List (Int × Int)) : Rises l l.length ↔ risesG ltD l = true := by
  rw [rises_iff]
  unfold Rises
  constructor
  · intro h j x y hx hy
    obtain ⟨hj, rfl⟩ := List.getElem?_eq_some_iff.1 hy
    obtain ⟨hj', rfl⟩ := List.getElem?_eq_some_iff.1 hx
    have := h (j + 1) hj (by omega)
    simpa [List.getD, List.getElem?_eq_getElem hj, List.getElem?_eq_getElem hj'] using this
  · intro h i hi h1
    have hp : i - 1 < l.length := by omega
    have := h (i - 1) _ _ (List.getElem?_eq_getElem hp) (by rw [show i - 1 + 1 = i by omega]; exact List.getElem?_eq_getElem hi)
    simpa [List.getD, List.getElem?_eq_getElem hi, List.getElem?_eq_getElem hp] using this
theorem mayE_G (l : List (Int × Int)) : mayE l = mayG chk ltD l := by
  unfold mayE mayG
  rw [chkTo_take l _ (Nat.le_refl _), List.take_length]
  by_cases h : Rises l l.length
  · rw [if_pos h, if_pos ((rises_G l).1 h)]
  · rw [if_neg h, if_neg (fun g => h ((rises_G l).2 g))]

abbrev DeltaT := (Int × Int) × (Int × Int × Int) × List FactT × List (Int × Int)
theorem ifE {c a : Int} (h : (if c ≠ 0 then c else a) = 0) : c = 0 ∧ a = 0 := by
  by_cases g : c = 0
  · rw [if_neg (by simpa using g)] at h; exact ⟨g, h⟩
  · rw [if_pos g] at h; exact absurd h g
theorem ifE_mk {c a : Int} (h : c = 0) (h2 : a = 0) : (if c ≠ 0 then c else a) = 0 := by rw [if_neg (by simpa using h), h2]
theorem ifP {p : Prop} [Decidable p] {k a : Int} (hk : k ≠ 0) (h : (if p then k else a) = 0) : ¬ p ∧ a = 0 := by
  by_cases g : p
  · rw [if_pos g] at h; exact absurd h hk
  · rw [if_neg g] at h; exact ⟨g, h⟩
end Go.Proofs.Ytmhkalalcmkpbaa
