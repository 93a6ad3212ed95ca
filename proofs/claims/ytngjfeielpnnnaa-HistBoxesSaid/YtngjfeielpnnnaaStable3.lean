/-
  Sorting by chunks that are merged in pairs, in plain Lean.
-/
import Derived.Test.YtngjfeielpnnnaaStable2
namespace Go.Proofs.Ytngjfeielpnnnaa.Stable
section
variable {α : Type} (lt : α → α → Bool)
def cs (s : Nat) : Nat → List α → List α
  | 0, R => ssort lt R
  | f + 1, R => if R.length ≤ s then ssort lt R else ssort lt (R.take s) ++ cs s f (R.drop s)
theorem cs_fuel (s : Nat) (hs : 0 < s) : ∀ (n f g : Nat) (R : List α), R.length ≤ n → n ≤ f → n ≤ g → cs lt s f R = cs lt s g R := by
  intro n
  induction n with
  | zero =>
    intro f g R h _ _
    have h0 : R.length ≤ s := by omega
    cases f <;> cases g <;> simp [cs, h0]
  | succ n ih =>
    intro f g R h hf hg
    cases f with
    | zero => omega
    | succ f =>
      cases g with
      | zero => omega
      | succ g =>
        rw [cs, cs]
        by_cases h0 : R.length ≤ s
        · rw [if_pos h0, if_pos h0]
        · rw [if_neg h0, if_neg h0, ih f g (R.drop s) (by rw [List.length_drop]; omega) (by omega) (by omega)]
/-- Each stretch of s elements sorted by itself. -/
def CS (s : Nat) (R : List α) : List α := cs lt s R.length R
theorem CS_last (s : Nat) (R : List α) (h : R.length ≤ s) : CS lt s R = ssort lt R := by
  unfold CS
  cases hR : R.length with
  | zero => rfl
  | succ n => rw [cs, if_pos h]
theorem CS_more (s : Nat) (hs : 0 < s) (X R : List α) (hX : X.length = s) : CS lt s (X ++ R) = ssort lt X ++ CS lt s R := by
  cases R with
  | nil =>
    rw [List.append_nil, CS_last lt s X (by omega), CS_last lt s [] (by simp)]
    simp [ssort]
  | cons y R =>
    unfold CS
    have hl : (X ++ y :: R).length = (s + R.length) + 1 := by simp; omega
    rw [hl, cs, if_neg (by rw [hl]; omega)]
    have e1 : (X ++ y :: R).take s = X := by rw [← hX]; simp
    have e2 : (X ++ y :: R).drop s = y :: R := by rw [← hX]; simp
    rw [e1, e2, cs_fuel lt s hs (y :: R).length (s + R.length) (y :: R).length (y :: R) (Nat.le_refl _) (by simp; omega) (Nat.le_refl _)]
theorem CS_length (s : Nat) (hs : 0 < s) : ∀ (n : Nat) (R : List α), R.length = n → (CS lt s R).length = n := by
  intro n
  induction n using Nat.strongRecOn with
  | _ n ih =>
    intro R h
    by_cases h0 : R.length ≤ s
    · rw [CS_last lt s R h0, ssort_length]; exact h
    · have e : R = R.take s ++ R.drop s := (List.take_append_drop s R).symm
      have ht : (R.take s).length = s := by rw [List.length_take]; omega
      rw [e, CS_more lt s hs _ _ ht, List.length_append, ssort_length, ih (n - s) (by omega) (R.drop s) (by rw [List.length_drop]; omega)]
      omega
/-- Two stretches, merged, are one of twice the length. -/
theorem CS_two (o : Swo lt) (s : Nat) (hs : 0 < s) (X Y R : List α) (hX : X.length = s) (hY : Y.length = s) :
    CS lt s (X ++ (Y ++ R)) = ssort lt X ++ (ssort lt Y ++ CS lt s R) ∧ CS lt (2 * s) (X ++ (Y ++ R)) = mrg lt (ssort lt X) (ssort lt Y) ++ CS lt (2 * s) R := by
  refine ⟨by rw [CS_more lt s hs X _ hX, CS_more lt s hs Y _ hY], ?_⟩
  rw [← List.append_assoc, CS_more lt (2 * s) (by omega) (X ++ Y) R (by rw [List.length_append]; omega), ssort_append o]
theorem CS_rest (o : Swo lt) (s : Nat) (hs : 0 < s) (X Y : List α) (hX : X.length = s) (hY : Y.length ≤ s) :
    CS lt s (X ++ Y) = ssort lt X ++ ssort lt Y ∧ CS lt (2 * s) (X ++ Y) = mrg lt (ssort lt X) (ssort lt Y) := by
  refine ⟨by rw [CS_more lt s hs X _ hX, CS_last lt s Y hY], ?_⟩
  rw [CS_last lt (2 * s) (X ++ Y) (by rw [List.length_append]; omega), ssort_append o]
end
end Go.Proofs.Ytngjfeielpnnnaa.Stable
