/-
  DotSmall
-/
import Derived.Test.YtmhkalalcmkpbaaZDotCmp
import Derived.Test.YtmhkalalcmkpbaaZMem2
namespace Go.Proofs.Ytmhkalalcmkpbaa
open Go.RowKit
set_option linter.unusedVariables false
set_option linter.unusedSimpArgs false

/-- A name's value. -/
abbrev dotv (d : Int × Int) : Value := .agg #[.int .i64 d.1, .int .i64 d.2]
/-- Why a name may not be. -/
def chk (d : Int × Int) : Int := if d.1 < 0 ∨ 16 ≤ d.1 ∨ d.2 < 1 ∨ 1099511627776 < d.2 then 2 else 0
/-- Which name is less. -/
def ltD (a b : Int × Int) : Bool := decide (a.1 < b.1 ∨ (a.1 = b.1 ∧ a.2 < b.2))
theorem ordD_lt (a b : Int × Int) : decide (ordD a b < 0) = ltD a b := by
  unfold ltD ordD cmpI orI
  rw [Bool.eq_iff_iff, decide_eq_true_eq, decide_eq_true_eq]
  split <;> split <;> (try split) <;> (try split) <;> omega


set_option maxHeartbeats 1000000 in
set_option maxRecDepth 100000 in
theorem check_c (d : Int × Int) (w : World) : Calls Try.prog 70 #[dotv d] w fun e w' => e = .returned (.int .i64 (chk d)) ∧ Below w.heap.size w w' := by
  obtain ⟨r, n⟩ := d
  by_cases h1 : r < 0
  · have hc : chk (r, n) = 2 := if_pos (.inl h1)
    rw [hc]; clear hc
    have d1 : decide (r < 0) = true := decide_eq_true h1
    go_enter Try.func70, Try.ntmps70
    go_wp2
    go_ret
    exact ⟨rfl, (Below.refl _ _).alloc (Nat.le_refl _) _⟩
  · have d1 : decide (r < 0) = false := decide_eq_false h1
    by_cases h2 : 16 ≤ r
    · have hc : chk (r, n) = 2 := if_pos (.inr (.inl h2))
      rw [hc]; clear hc
      have d2 : decide (r ≥ 16) = true := decide_eq_true (by omega)
      go_enter Try.func70, Try.ntmps70
      go_wp2
      go_ret
      exact ⟨rfl, (Below.refl _ _).alloc (Nat.le_refl _) _⟩
    · have d2 : decide (r ≥ 16) = false := decide_eq_false (by omega)
      by_cases h3 : n < 1
      · have hc : chk (r, n) = 2 := if_pos (.inr (.inr (.inl h3)))
        rw [hc]; clear hc
        have d3 : decide (n < 1) = true := decide_eq_true h3
        go_enter Try.func70, Try.ntmps70
        go_wp2
        go_ret
        exact ⟨rfl, (Below.refl _ _).alloc (Nat.le_refl _) _⟩
      · have d3 : decide (n < 1) = false := decide_eq_false h3
        by_cases h4 : 1099511627776 < n
        · have hc : chk (r, n) = 2 := if_pos (.inr (.inr (.inr h4)))
          rw [hc]; clear hc
          have d4 : decide (n > 1099511627776) = true := decide_eq_true h4
          go_enter Try.func70, Try.ntmps70
          go_wp2
          go_ret
          exact ⟨rfl, (Below.refl _ _).alloc (Nat.le_refl _) _⟩
        · have hc : chk (r, n) = 0 := if_neg (by simp only; omega)
          rw [hc]; clear hc
          have d4 : decide (n > 1099511627776) = false := decide_eq_false h4
          go_enter Try.func70, Try.ntmps70
          go_wp2
          go_ret
          exact ⟨rfl, (Below.refl _ _).alloc (Nat.le_refl _) _⟩

set_option maxHeartbeats 1000000 in
set_option maxRecDepth 100000 in
theorem rcheck_c (d : Int × Int) (w : World) : Calls Try.prog 74 #[dotv d] w fun e w' => e = .returned (.int .i64 (chk d)) ∧ Below w.heap.size w w' := by
  obtain ⟨r, n⟩ := d
  by_cases h1 : r < 0
  · have hc : chk (r, n) = 2 := if_pos (.inl h1)
    rw [hc]; clear hc
    have d1 : decide (r < 0) = true := decide_eq_true h1
    go_enter Try.func74, Try.ntmps74
    go_wp2
    go_ret
    exact ⟨rfl, (Below.refl _ _).alloc (Nat.le_refl _) _⟩
  · have d1 : decide (r < 0) = false := decide_eq_false h1
    by_cases h2 : 16 ≤ r
    · have hc : chk (r, n) = 2 := if_pos (.inr (.inl h2))
      rw [hc]; clear hc
      have d2 : decide (r > 15) = true := decide_eq_true (by omega)
      go_enter Try.func74, Try.ntmps74
      go_wp2
      go_ret
      exact ⟨rfl, (Below.refl _ _).alloc (Nat.le_refl _) _⟩
    · have d2 : decide (r > 15) = false := decide_eq_false (by omega)
      by_cases h3 : n < 1
      · have hc : chk (r, n) = 2 := if_pos (.inr (.inr (.inl h3)))
        rw [hc]; clear hc
        have d3 : decide (n < 1) = true := decide_eq_true h3
        go_enter Try.func74, Try.ntmps74
        go_wp2
        go_ret
        exact ⟨rfl, (Below.refl _ _).alloc (Nat.le_refl _) _⟩
      · have d3 : decide (n < 1) = false := decide_eq_false h3
        by_cases h4 : 1099511627776 < n
        · have hc : chk (r, n) = 2 := if_pos (.inr (.inr (.inr h4)))
          rw [hc]; clear hc
          have d4 : decide (n > 1099511627776) = true := decide_eq_true h4
          go_enter Try.func74, Try.ntmps74
          go_wp2
          go_ret
          exact ⟨rfl, (Below.refl _ _).alloc (Nat.le_refl _) _⟩
        · have hc : chk (r, n) = 0 := if_neg (by simp only; omega)
          rw [hc]; clear hc
          have d4 : decide (n > 1099511627776) = false := decide_eq_false h4
          go_enter Try.func74, Try.ntmps74
          go_wp2
          go_ret
          exact ⟨rfl, (Below.refl _ _).alloc (Nat.le_refl _) _⟩

set_option maxRecDepth 100000 in
theorem less_c (a b : Int × Int) (w : World) : Calls Try.prog 79 #[dotv a, dotv b] w fun e w' => e = .returned (.bool (ltD a b)) ∧ Below w.heap.size w w' := by
  have c := order_c a b
  have hl := ordD_lt a b
  have HL := Lib.hid hl
  clear hl
  generalize ltD a b = r at *
  generalize ordD a b = o at *
  obtain ⟨a1, a2⟩ := a
  obtain ⟨b1, b2⟩ := b
  simp only at c
  go_enter Try.func79, Try.ntmps79
  go_wp2_with (go_at_call 130; refine (c _).mono ?_; rintro e w' ⟨rfl, q, o1, o2, o3, rfl⟩)
  go_ret
  exact ⟨ret_bool HL.out, below_drewN ((((((Below.refl _ _).alloc (Nat.le_refl _) _).alloc (by simp) _).alloc (by simp; omega) _).alloc (by simp; omega) _).alloc (by simp; omega) _) _⟩

set_option maxRecDepth 100000 in
theorem rless_c (a b : Int × Int) (w : World) : Calls Try.prog 129 #[dotv a, dotv b] w fun e w' => e = .returned (.bool (ltD a b)) ∧ Below w.heap.size w w' := by
  obtain ⟨a1, a2⟩ := a
  obtain ⟨b1, b2⟩ := b
  by_cases h1 : a1 < b1
  · have hl : ltD (a1, a2) (b1, b2) = true := decide_eq_true (.inl h1)
    rw [hl]; clear hl
    have d1 : decide (a1 < b1) = true := decide_eq_true h1
    go_enter Try.func129, Try.ntmps129
    go_wp2
    go_ret
    exact ⟨rfl, ((Below.refl _ _).alloc (Nat.le_refl _) _).alloc (by simp) _⟩
  · have d1 : decide (a1 < b1) = false := decide_eq_false h1
    by_cases h2 : a1 = b1
    · subst h2
      have hl : ltD (a1, a2) (a1, b2) = decide (a2 < b2) := by unfold ltD; simp
      rw [hl]; clear hl
      have d2 : (a1 == a1) = true := by simp
      go_enter Try.func129, Try.ntmps129
      go_wp2
      go_ret
      exact ⟨rfl, ((Below.refl _ _).alloc (Nat.le_refl _) _).alloc (by simp) _⟩
    · have hl : ltD (a1, a2) (b1, b2) = false := decide_eq_false (by simp only; omega)
      rw [hl]; clear hl
      have d2 : (a1 == b1) = false := by simpa using h2
      go_enter Try.func129, Try.ntmps129
      go_wp2
      go_ret
      exact ⟨rfl, ((Below.refl _ _).alloc (Nat.le_refl _) _).alloc (by simp) _⟩
end Go.Proofs.Ytmhkalalcmkpbaa
