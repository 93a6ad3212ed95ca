/-
  DotCmp
-/
import Derived.WalkKit
import Derived.WalkLawsBesides
import Derived.Laws.Cover2
import Derived.Lib.Hide
import Derived.Deep.Cut
import Derived.Handy
import Derived.Outline
import Derived.Below
import Derived.Laws.AppendOwn
import Derived.Deep.QuietTactic
import Derived.BigQuiet
import Derived.BigRegion
import Derived.Deep.LoopGhost
import Derived.StillTailTactics
import Derived.Test.YtmhkalalcmkpbaaRows
namespace Go.Proofs.Ytmhkalalcmkpbaa
open Go.RowKit
set_option linter.unusedVariables false
set_option linter.unusedSimpArgs false

/-- What the comparison answers. -/
def cmpI (a b : Int) : Int := if a < b then -1 else if b < a then 1 else 0
def orI (a b : Int) : Int := if a = 0 then b else a
theorem ret_int {k : IntKind} {a b : Int} (h : a = b) : Ending.returned (.int k a) = .returned (.int k b) := by rw [h]
theorem ret_bool {a b : Bool} (h : a = b) : Ending.returned (.bool a) = .returned (.bool b) := by rw [h]

theorem inan_c (x : Int) (w : World) : Calls Try.prog 169 #[.int .i64 x] w fun e w' => e = .returned (.bool false) ∧ w = w' := by
  have h : ((x : Int) != (x : Int)) = false := by simp
  go_enter Try.func169, Try.ntmps169
  go_wp2
  go_ret
  exact ⟨rfl, rfl⟩

set_option maxRecDepth 100000 in
theorem icmp_c (x y : Int) (w : World) : Calls Try.prog 145 #[.int .i64 x, .int .i64 y] w fun e w' => e = .returned (.int .i64 (cmpI x y)) ∧ w = w' := by
  by_cases h1 : x < y
  · have hr : cmpI x y = -1 := by unfold cmpI; rw [if_pos h1]
    rw [hr]; clear hr
    go_enter Try.func145, Try.ntmps145
    go_wp2_with (go_at_call 169; refine (inan_c _ _).mono ?_; rintro e w' ⟨rfl, rfl⟩)
    go_ret
    exact ⟨rfl, rfl⟩
  · by_cases h2 : y < x
    · have hr : cmpI x y = 1 := by unfold cmpI; rw [if_neg h1, if_pos h2]
      rw [hr]; clear hr
      go_enter Try.func145, Try.ntmps145
      go_wp2_with (go_at_call 169; refine (inan_c _ _).mono ?_; rintro e w' ⟨rfl, rfl⟩)
      go_ret
      exact ⟨rfl, rfl⟩
    · have hr : cmpI x y = 0 := by unfold cmpI; rw [if_neg h1, if_neg h2]
      rw [hr]; clear hr
      go_enter Try.func145, Try.ntmps145
      go_wp2_with (go_at_call 169; refine (inan_c _ _).mono ?_; rintro e w' ⟨rfl, rfl⟩)
      go_ret
      exact ⟨rfl, rfl⟩

set_option maxRecDepth 100000 in
theorem ior_c (g : Nat) (x y : Int) (w : World) (h0 : w.cell? ⟨g, 0, none⟩ = some (.int .i64 x)) (h1 : w.cell? ⟨g, 1, none⟩ = some (.int .i64 y)) :
    Calls Try.prog 143 #[.slice (some ⟨g, 0, none⟩) 2 2] w fun e w' => e = .returned (.int .i64 (orI x y)) ∧ w = w' := by
  by_cases hx : x = 0
  · subst hx
    have hr : orI 0 y = y := rfl
    rw [hr]; clear hr
    by_cases hy : y = 0
    · subst hy
      go_enter Try.func143, Try.ntmps143
      go_wp2_with fail
      go_rounds 3
      go_ret
      exact ⟨rfl, rfl⟩
    · have hy' : (y != 0) = true := by simpa using hy
      go_enter Try.func143, Try.ntmps143
      go_wp2_with fail
      go_rounds 3
      go_ret
      exact ⟨rfl, rfl⟩
  · have hr : orI x y = x := by unfold orI; rw [if_neg hx]
    rw [hr]; clear hr
    have hx' : (x != 0) = true := by simpa using hx
    go_enter Try.func143, Try.ntmps143
    go_wp2_with fail
    go_rounds 3
    go_ret
    exact ⟨rfl, rfl⟩

/-- Which of two names comes first. -/
def ordD (a b : Int × Int) : Int := orI (cmpI a.1 b.1) (cmpI a.2 b.2)

set_option maxRecDepth 100000 in
theorem order_c (a b : Int × Int) (w : World) : Calls Try.prog 130 #[.agg #[.int .i64 a.1, .int .i64 a.2], .agg #[.int .i64 b.1, .int .i64 b.2]] w fun e w' => e = .returned (.int .i64 (ordD a b)) ∧ ∃ q o1 o2 o3, w' = ((((w.alloc o1).alloc o2).alloc o3).drewN q) := by
  obtain ⟨a1, a2⟩ := a
  obtain ⟨b1, b2⟩ := b
  have c1 := fun w => (icmp_c a1 b1 w).mono fun e w' (h : _ ∧ w = w') => (⟨h.1, h.2.symm⟩ : _ ∧ w' = w)
  have c2 := fun w => (icmp_c a2 b2 w).mono fun e w' (h : _ ∧ w = w') => (⟨h.1, h.2.symm⟩ : _ ∧ w' = w)
  have hr : ordD (a1, a2) (b1, b2) = orI (cmpI a1 b1) (cmpI a2 b2) := rfl
  rw [hr]; clear hr
  generalize cmpI a1 b1 = x at *
  generalize cmpI a2 b2 = y at *
  go_enter Try.func130, Try.ntmps130
  go_wp2_with fail
  have f1 : ((w.alloc (.cells #[.int .i64 a1, .int .i64 a2] 23)).alloc (.cells #[.int .i64 b1, .int .i64 b2] 23)).drew.cell? ⟨w.heap.size, 0, none⟩ = some (.int .i64 a1) := by simp
  have f2 : ((w.alloc (.cells #[.int .i64 a1, .int .i64 a2] 23)).alloc (.cells #[.int .i64 b1, .int .i64 b2] 23)).drew.cell? ⟨w.heap.size, 1, none⟩ = some (.int .i64 a2) := by simp
  have g1 : ((w.alloc (.cells #[.int .i64 a1, .int .i64 a2] 23)).alloc (.cells #[.int .i64 b1, .int .i64 b2] 23)).drew.cell? ⟨w.heap.size + 1, 0, none⟩ = some (.int .i64 b1) := by simp
  have g2 : ((w.alloc (.cells #[.int .i64 a1, .int .i64 a2] 23)).alloc (.cells #[.int .i64 b1, .int .i64 b2] 23)).drew.cell? ⟨w.heap.size + 1, 1, none⟩ = some (.int .i64 b2) := by simp
  have hlast : ∀ n o3, ((((w.alloc (.cells #[.int .i64 a1, .int .i64 a2] 23)).alloc (.cells #[.int .i64 b1, .int .i64 b2] 23)).drew.alloc o3).drewN n) = (((w.alloc (.cells #[.int .i64 a1, .int .i64 a2] 23)).alloc (.cells #[.int .i64 b1, .int .i64 b2] 23)).alloc o3).drewN (1 + n) := by
    intro n o3
    exact World.drewN_drew (w := ((w.alloc _).alloc _).alloc o3) n
  refine wp_region_still_tail 10 (by kernel_rfl) (by kernel_rfl) ?_
  simp only [List.take_succ_cons, List.take_zero, List.drop_succ_cons, List.drop_zero]
  change wpStill _ _ (World.drew ((w.alloc (.cells #[.int .i64 a1, .int .i64 a2] 23)).alloc (.cells #[.int .i64 b1, .int .i64 b2] 23))) _ _ _
  generalize hw2 : World.drew ((w.alloc (.cells #[.int .i64 a1, .int .i64 a2] 23)).alloc (.cells #[.int .i64 b1, .int .i64 b2] 23)) = w2 at *
  repeat still_step
  still_call (c1 _)
  repeat still_step
  still_call (c2 _)
  refine wpStill_nil ?_
  change wpList _ _ _ _ _ (World.drew ((w.alloc (.cells #[.int .i64 a1, .int .i64 a2] 23)).alloc (.cells #[.int .i64 b1, .int .i64 b2] 23)))
  rw [hw2]
  clear hw2
  have hor := ior_c w2.heap.size x y (w2.alloc (.cells #[.int .i64 x, .int .i64 y] 3)) (by simp) (by simp)
  go_wp2_with fail
  refine hor.mono ?_
  rintro e w' ⟨rfl, rfl⟩
  go_wp2
  go_ret
  exact ⟨rfl, _, _, _, _, hlast 0 _⟩
end Go.Proofs.Ytmhkalalcmkpbaa
