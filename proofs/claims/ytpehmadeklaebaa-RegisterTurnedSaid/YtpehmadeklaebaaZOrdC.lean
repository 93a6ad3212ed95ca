/-
  OrdC
-/
import Derived.Test.YtpehmadeklaebaaZOrd
namespace Go.Proofs.Ytpehmadeklaebaa
set_option linter.unusedVariables false
section
variable {α : Type} [DecidableEq α]
/-- How the row stands while it is made compact: the first kk are what is left of the first i. -/
structure CompG (l m : List α) (i kk : Nat) : Prop where
  size : m.length = l.length
  len : (compact (l.take i)).length = kk
  low : m.take kk = compact (l.take i)
  high : ∀ j, i ≤ j + 1 → m[j]? = l[j]?
  lt : kk < i
omit [DecidableEq α] in
theorem take_at {l : List α} {i : Nat} {x : α} (h : l[i]? = some x) : l.take (i + 1) = l.take i ++ [x] := by rw [List.take_add_one, h]; rfl
omit [DecidableEq α] in
theorem last_at {l : List α} {i : Nat} {y : α} (h0 : 0 < i) (h : l[i - 1]? = some y) : (l.take i).getLast? = some y := by
  obtain ⟨k, rfl⟩ : ∃ k, i = k + 1 := ⟨i - 1, by omega⟩
  rw [take_at (by simpa using h)]; simp
theorem compG_same {l : List α} {i : Nat} {x : α} (h : l[i]? = some x) (h0 : 0 < i) (hy : l[i - 1]? = some x) : compact (l.take (i + 1)) = compact (l.take i) := by
  rw [take_at h, compact_snoc]; unfold cpush
  rw [compact_last, last_at h0 hy, if_pos rfl]
theorem compG_more {l : List α} {i : Nat} {x y : α} (h : l[i]? = some x) (h0 : 0 < i) (hy : l[i - 1]? = some y) (hne : x ≠ y) : compact (l.take (i + 1)) = compact (l.take i) ++ [x] := by
  rw [take_at h, compact_snoc]; unfold cpush
  rw [compact_last, last_at h0 hy, if_neg (by intro e; injection e with e; exact hne e.symm)]
theorem CompG.start {l : List α} {k : Nat} {x : α} (h : l[k]? = some x) (h0 : 0 < k) (hy : l[k - 1]? = some x) (hc : compact (l.take k) = l.take k) : CompG l l (k + 1) k := by
  have e := compG_same h h0 hy
  rw [hc] at e
  have hk := (List.getElem?_eq_some_iff.1 h).1
  exact ⟨rfl, by rw [e, List.length_take]; omega, e.symm, fun _ _ => rfl, by omega⟩
theorem CompG.skip {l m : List α} {i kk : Nat} {x : α} (c : CompG l m i kk) (h : l[i]? = some x) (h0 : 0 < i) (hy : l[i - 1]? = some x) : CompG l m (i + 1) kk := by
  have e := compG_same h h0 hy
  exact ⟨c.size, by rw [e]; exact c.len, by rw [e]; exact c.low, fun j a => c.high j (by omega), by have := c.lt; omega⟩
theorem CompG.keep {l m : List α} {i kk : Nat} {x y : α} (c : CompG l m i kk) (h : l[i]? = some x) (h0 : 0 < i) (hy : l[i - 1]? = some y) (hne : x ≠ y) : CompG l (m.set kk x) (i + 1) (kk + 1) := by
  have e := compG_more h h0 hy hne
  have hlt := c.lt
  have hs := c.size
  have hi := (List.getElem?_eq_some_iff.1 h).1
  refine ⟨by rw [List.length_set]; exact hs, by rw [e]; simp [c.len], ?_, fun j a => ?_, by omega⟩
  · rw [e, take_at (x := x) (by rw [List.getElem?_set, if_pos rfl, if_pos (by omega)]), ← c.low]
    congr 1
    rw [List.take_set_of_le (Nat.le_refl _)]
  · rw [List.getElem?_set, if_neg (by omega)]; exact c.high j (by omega)
theorem CompG.all {l m : List α} {kk : Nat} (c : CompG l m l.length kk) : m.take kk = compact l ∧ kk = (compact l).length := by
  have h1 := c.low
  have h2 := c.len
  rw [List.take_length] at h1 h2
  exact ⟨h1, h2.symm⟩
theorem compact_next {l : List α} {k : Nat} {x y : α} (h : l[k]? = some x) (h0 : 0 < k) (hy : l[k - 1]? = some y) (hne : x ≠ y) (hc : compact (l.take k) = l.take k) : compact (l.take (k + 1)) = l.take (k + 1) := by
  rw [compG_more h h0 hy hne, hc, take_at h]
theorem compact_short {l : List α} (h : l.length < 2) : compact l = l := by
  match l, h with
  | [], _ => rfl
  | [x], _ => rfl
end
end Go.Proofs.Ytpehmadeklaebaa
