/-
  slices.SortStableFunc over []float64 with float.Sort's comparison: contracts of what it calls, by walking Go's own text.
-/
import Derived.Test.YtngjfeielpnnnaaFloatWalks
import Derived.Test.YtngjfeielpnnnaaStable
import Derived.Handy
import Derived.Outline
import Derived.Below
import Derived.Laws.AppendOwn
import Derived.Deep.QuietTactic
import Derived.BigQuiet
import Derived.BigRegion
import Derived.Deep.LoopGhost
namespace Go.Proofs.Ytngjfeielpnnnaa
open Go.RowKit
open FloatPlain
set_option linter.unusedVariables false
set_option linter.unusedSimpArgs false
attribute [local go_sem] run_frombits run_bits u64_signed

/-- What the comparison answers. -/
def cmpK (a b : Nat) : Int := if a < b then -1 else if b < a then 1 else 0

theorem cnan_c (x : Nat) (w : World) : Calls Try.prog 98 #[.int .u64 x] w fun e w' => e = .returned (.bool false) ∧ w = w' := by
  have h : ((x : Int) != (x : Int)) = false := by simp
  go_enter Try.func98, Try.ntmps98
  go_wp2
  go_ret
  exact ⟨rfl, rfl⟩

set_option maxRecDepth 100000 in
theorem compare_c (x y : Nat) (w : World) : Calls Try.prog 67 #[.int .u64 x, .int .u64 y] w fun e w' => e = .returned (.int .i64 (cmpK x y)) ∧ w = w' := by
  by_cases h1 : x < y
  · have hr : cmpK x y = -1 := by unfold cmpK; rw [if_pos h1]
    rw [hr]; clear hr
    go_enter Try.func67, Try.ntmps67
    go_wp2_with (go_at_call 98; refine (cnan_c _ _).mono ?_; rintro e w' ⟨rfl, rfl⟩)
    go_ret
    exact ⟨rfl, rfl⟩
  · by_cases h2 : y < x
    · have hr : cmpK x y = 1 := by unfold cmpK; rw [if_neg h1, if_pos h2]
      rw [hr]; clear hr
      go_enter Try.func67, Try.ntmps67
      go_wp2_with (go_at_call 98; refine (cnan_c _ _).mono ?_; rintro e w' ⟨rfl, rfl⟩)
      go_ret
      exact ⟨rfl, rfl⟩
    · have hr : cmpK x y = 0 := by unfold cmpK; rw [if_neg h1, if_neg h2]
      rw [hr]; clear hr
      go_enter Try.func67, Try.ntmps67
      go_wp2_with (go_at_call 98; refine (cnan_c _ _).mono ?_; rintro e w' ⟨rfl, rfl⟩)
      go_ret
      exact ⟨rfl, rfl⟩

def W64 (b : Nat) : Prop := b < 18446744073709551616

theorem sortcmp_c (a b : Nat) (ha : W64 a) (hb : W64 b) (w : World) : Calls Try.prog 66 #[.float .f64 a, .float .f64 b] w fun e w' => e = .returned (.int .i64 (cmpK (keyB a) (keyB b))) ∧ w = w' := by
  have ca := key_c a ha
  have cb := key_c b hb
  generalize keyB a = x at *
  generalize keyB b = y at *
  go_enter Try.func66, Try.ntmps66
  go_wp2_with fail
  refine (ca _).mono ?_
  rintro e w' ⟨rfl, rfl⟩
  go_wp2_with fail
  refine (cb _).mono ?_
  rintro e w' ⟨rfl, rfl⟩
  go_wp2_with (go_at_call 67; refine (compare_c _ _ _).mono ?_; rintro e w' ⟨rfl, rfl⟩)
  go_ret
  exact ⟨rfl, rfl⟩

/-- A row of numbers in one block, from its head on. -/
structure Row (w : World) (g : Nat) (l : List Nat) : Prop where
  lt : g < w.heap.size
  cell : ∀ i, i < l.length → w.cell? ⟨g, i, none⟩ = some (.float .f64 (l.getD i default))
  free : ∀ i, i < l.length → w.frozen? ⟨g, i, none⟩ = false
  ok : ∀ x ∈ l, W64 x

open Stable

theorem swap_c (i j : Nat) (g : Nat) (l : List Nat) (w : World) (hR : Row w g l) (hi : i < l.length) (hj : j < l.length) :
    Row ((w.setCell ⟨g, i, none⟩ (.float .f64 (l.getD j default))).setCell ⟨g, j, none⟩ (.float .f64 (l.getD i default))) g (swp l i j) := by
  refine ⟨by simpa using hR.lt, ?_, ?_, ?_⟩
  · intro k hk
    rw [swp_length] at hk
    have hck := hR.cell k hk
    by_cases hkj : k = j
    · subst hkj
      have : (w.setCell ⟨g, i, none⟩ (.float .f64 (l.getD k default))).cell? ⟨g, k, none⟩ ≠ none := by
        by_cases hki : i = k
        · subst hki; rw [World.cell?_setCell_same _ _ _ hck]; simp
        · rw [World.cell?_setCell_other _ _ _ _ (by intro e; injection e with _ e _; omega), hck]; simp
      obtain ⟨u, hu⟩ := Option.ne_none_iff_exists'.1 this
      rw [World.cell?_setCell_same _ _ _ hu]
      simp [swp, List.getD, hk]
    · rw [World.cell?_setCell_other _ _ _ _ (by intro e; injection e with _ e _; omega)]
      by_cases hki : k = i
      · subst hki
        rw [World.cell?_setCell_same _ _ _ hck]
        simp [swp, List.getD, hk, List.getElem?_set, hkj, Ne.symm hkj]
      · rw [World.cell?_setCell_other _ _ _ _ (by intro e; injection e with _ e _; omega), hck]
        simp [swp, List.getD, List.getElem?_set, Ne.symm hkj, Ne.symm hki]
  · intro k hk
    rw [swp_length] at hk
    rw [World.frozen?_setCell, World.frozen?_setCell]
    exact hR.free k hk
  · intro x hx
    unfold swp at hx
    have h1 : l.getD j default ∈ l := by simp [List.getD, hj]
    have h2 : l.getD i default ∈ l := by simp [List.getD, hi]
    rcases List.mem_or_eq_of_mem_set hx with hx | rfl
    · rcases List.mem_or_eq_of_mem_set hx with hx | rfl
      · exact hR.ok x hx
      · exact hR.ok _ h1
    · exact hR.ok _ h2
end Go.Proofs.Ytngjfeielpnnnaa
