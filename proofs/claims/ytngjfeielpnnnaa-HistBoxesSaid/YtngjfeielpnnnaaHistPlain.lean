/-
  Boxes of numbers: where a key lies, how many are in each box, the fullest one: plain.
-/
import Derived.Test.YtngjfeielpnnnaaStatWalk
namespace Go.Proofs.Ytngjfeielpnnnaa
open FloatPlain
open Stable
set_option linter.unusedVariables false

def bs (K : List Nat) (x : Nat) : Nat := (K.takeWhile (fun e => decide (e ≤ x))).length
theorem bs_le (K : List Nat) (x : Nat) : bs K x ≤ K.length := by
  unfold bs
  induction K with
  | nil => simp
  | cons e K ih => rw [List.takeWhile_cons]; split <;> simp <;> omega
theorem bs_eq (x : Nat) : ∀ (K : List Nat) (i : Nat), i ≤ K.length → (∀ j, j < i → K.getD j default ≤ x) → (i < K.length → x < K.getD i default) → bs K x = i := by
  intro K
  induction K with
  | nil => intro i hi _ _; have : i = 0 := by simpa using hi
           subst this; rfl
  | cons e K ih =>
    intro i hi h1 h2
    cases i with
    | zero =>
      have := h2 (by simp)
      unfold bs
      rw [List.takeWhile_cons, if_neg (by simpa using this)]; rfl
    | succ i =>
      have h0 := h1 0 (by omega)
      have hr := ih i (by simpa using hi) (fun j hj => by simpa using h1 (j + 1) (by omega)) (fun h => by simpa using h2 (by simpa using h))
      unfold bs at hr ⊢
      rw [List.takeWhile_cons, if_pos (by simpa using h0), List.length_cons, hr]

/-- The keys of the sorted clean numbers. -/
def keysB (ys : List Nat) : List Nat := (srtF ys).map keyB
theorem keysB_length (ys : List Nat) : (keysB ys).length = ys.length := by unfold keysB; rw [List.length_map, srtF_length]
theorem keysB_get (ys : List Nat) (k : Nat) (h : k < ys.length) : (keysB ys).getD k default = keyB ((srtF ys).getD k default) := by
  unfold keysB; simp [List.getD, show k < (srtF ys).length by rw [srtF_length]; exact h]
theorem keysB_sorted (ys : List Nat) (h h' : Nat) (hh : h ≤ h') (hl : h' < ys.length) : (keysB ys).getD h default ≤ (keysB ys).getD h' default := by
  rw [keysB_get ys h (by omega), keysB_get ys h' hl]
  have := srt_get swoK (srtF ys) (ssort_srt swoK _) h h' hh (by rw [srtF_length]; exact hl)
  unfold ltK at this
  rw [decide_eq_false_iff_not] at this
  omega
theorem srtF_ok (ys : List Nat) (hok : ∀ y ∈ ys, W64 y) : ∀ y ∈ srtF ys, W64 y := by
  intro y hy
  obtain ⟨z, hz, rfl⟩ := List.mem_map.1 ((ssort_perm ltK _).subset hy)
  exact rawB_lt (hok z hz)
theorem keysB_ok (ys : List Nat) (hok : ∀ y ∈ ys, W64 y) : ∀ y ∈ keysB ys, W64 y := by
  intro y hy
  obtain ⟨z, hz, rfl⟩ := List.mem_map.1 hy
  exact keyB_lt (srtF_ok ys hok z hz)

def bump (c : List Nat) (k : Nat) : List Nat := c.set k (c.getD k default + 1)
theorem bump_length (c : List Nat) (k : Nat) : (bump c k).length = c.length := by simp [bump]
theorem bump_sum : ∀ (c : List Nat) (k : Nat), k < c.length → (bump c k).sum = c.sum + 1 := by
  intro c
  induction c with
  | nil => intro k h; simp at h
  | cons a c ih =>
    intro k h
    cases k with
    | zero => simp [bump]; omega
    | succ k =>
      have := ih k (by simpa using h)
      simp [bump] at this ⊢
      omega
def cntB (K : List Nat) (xs : List Nat) : List Nat := xs.foldl (fun c x => bump c (bs K (keyB x))) (List.replicate (K.length + 1) 0)
theorem fold_bump (K xs : List Nat) : ∀ c : List Nat, c.length = K.length + 1 → (xs.foldl (fun c x => bump c (bs K (keyB x))) c).length = K.length + 1 ∧ (xs.foldl (fun c x => bump c (bs K (keyB x))) c).sum = c.sum + xs.length := by
  induction xs with
  | nil => intro c h; exact ⟨h, by simp⟩
  | cons x xs ih =>
    intro c h
    rw [List.foldl_cons]
    have hb : bs K (keyB x) < c.length := by have := bs_le K (keyB x); omega
    have := ih (bump c (bs K (keyB x))) (by rw [bump_length]; exact h)
    refine ⟨this.1, ?_⟩
    rw [this.2, bump_sum _ _ hb, List.length_cons]; omega
theorem cntB_length (K xs : List Nat) : (cntB K xs).length = K.length + 1 := (fold_bump K xs _ (by simp)).1
theorem cntB_sum (K xs : List Nat) : (cntB K xs).sum = xs.length := by
  have := (fold_bump K xs (List.replicate (K.length + 1) 0) (by simp)).2
  unfold cntB; rw [this]; simp
theorem getD_le_sum : ∀ (c : List Nat) (k : Nat), c.getD k default ≤ c.sum := by
  intro c
  induction c with
  | nil => intro k; simp [List.getD]
  | cons a c ih =>
    intro k
    cases k with
    | zero => simp
    | succ k => have := ih k; simp at this ⊢; omega
theorem cntB_le (K xs : List Nat) (k : Nat) : (cntB K xs).getD k default ≤ xs.length := by rw [← cntB_sum K xs]; exact getD_le_sum _ _
theorem cntB_next (K xs : List Nat) (k n : Nat) (hn : xs.length = n) (hk : k < n) : cntB K (xs.take (k + 1)) = bump (cntB K (xs.take k)) (bs K (keyB (xs.getD k default))) := by
  unfold cntB
  rw [take_next xs k n hn hk, List.foldl_append]; rfl
theorem sum_next (c : List Nat) (k n : Nat) (hn : c.length = n) (hk : k < n) : (c.take (k + 1)).sum = (c.take k).sum + c.getD k default := by
  rw [take_next c k n hn hk, List.sum_append]; simp

/-- The first place of the fullest box among the first k. -/
def mostF (c : List Nat) : Nat → Nat
  | 0 => 0
  | k + 1 => if c.getD (mostF c k) default < c.getD k default then k else mostF c k
theorem mostF_lt (c : List Nat) (n : Nat) (hn : 0 < n) : ∀ k, k ≤ n → mostF c k < n := by
  intro k
  induction k with
  | zero => intro _; exact hn
  | succ k ih =>
    intro h; unfold mostF; split
    · omega
    · exact ih (by omega)
end Go.Proofs.Ytngjfeielpnnnaa
