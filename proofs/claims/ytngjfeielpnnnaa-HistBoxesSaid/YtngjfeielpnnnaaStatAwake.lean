/-
  almonrylaw33.awake answers true.
-/
import Derived.Test.YtngjfeielpnnnaaStatSpread
namespace Go.Proofs.Ytngjfeielpnnnaa
open Go.RowKit
open FloatPlain
open Stable
set_option linter.unusedVariables false
set_option linter.unusedSimpArgs false
attribute [local go_sem] run_frombits run_bits u64_signed run_store_float

theorem rd1 (w : World) (a : Nat) : RdF (w.alloc (.cells #[.float .f64 a] 24)) (w.heap.size + 1) (some ⟨w.heap.size, 0, none⟩) 1 [a] := by
  refine ⟨rfl, fun _ => ⟨_, rfl, Nat.lt_succ_self _, fun j u hu => ?_⟩⟩
  have hj : j < 1 := by
    rcases Nat.lt_or_ge j 1 with h | h
    · exact h
    · rw [List.getElem?_eq_none (by simpa using h)] at hu; cases hu
  have : j = 0 := by omega
  rcases this with rfl <;> (simp [f64v] at hu; subst hu; simp [Addr.add])
theorem rd2 (w : World) (a b : Nat) : RdF (w.alloc (.cells #[.float .f64 a, .float .f64 b] 24)) (w.heap.size + 1) (some ⟨w.heap.size, 0, none⟩) 2 [a, b] := by
  refine ⟨rfl, fun _ => ⟨_, rfl, Nat.lt_succ_self _, fun j u hu => ?_⟩⟩
  have hj : j < 2 := by
    rcases Nat.lt_or_ge j 2 with h | h
    · exact h
    · rw [List.getElem?_eq_none (by simpa using h)] at hu; cases hu
  have : j = 0 ∨ j = 1 := by omega
  rcases this with rfl | rfl <;> (simp [f64v] at hu; subst hu; simp [Addr.add])
theorem rd3 (w : World) (a b c : Nat) : RdF (w.alloc (.cells #[.float .f64 a, .float .f64 b, .float .f64 c] 24)) (w.heap.size + 1) (some ⟨w.heap.size, 0, none⟩) 3 [a, b, c] := by
  refine ⟨rfl, fun _ => ⟨_, rfl, Nat.lt_succ_self _, fun j u hu => ?_⟩⟩
  have hj : j < 3 := by
    rcases Nat.lt_or_ge j 3 with h | h
    · exact h
    · rw [List.getElem?_eq_none (by simpa using h)] at hu; cases hu
  have : j = 0 ∨ j = 1 ∨ j = 2 := by omega
  rcases this with rfl | rfl | rfl <;> (simp [f64v] at hu; subst hu; simp [Addr.add])

set_option maxHeartbeats 2000000 in
set_option maxRecDepth 100000 in
theorem awake33_c (w : World) : Calls Try.prog 23 #[] w fun e w' => e = .returned (.bool true) ∧ Below w.heap.size w w' := by
  have p1 := fun w => part_c (some ⟨w.heap.size, 0, none⟩) 3 3 _ 50 [4613937818241073152, 4607182418800017408, 4611686018427387904] _ (rd3 w _ _ _) (by simp) (by unfold W64; decide) (by decide)
  rw [show partB (srtF [4613937818241073152, 4607182418800017408, 4611686018427387904]) 50 = 4611686018427387904 by decide +kernel, show partK 3 50 = true by decide +kernel] at p1
  have p2 := fun w => part_c none 0 0 0 50 [] w Reads.none_ (Nat.zero_le _) (by simp) (by decide)
  rw [show partB (srtF []) 50 = 0 by decide +kernel, show partK 0 50 = false by decide +kernel] at p2
  have p3 := fun w => mean_c (some ⟨w.heap.size, 0, none⟩) 2 2 _ [4607182418800017408, 4611686018427387904] _ (rd2 w _ _) (by simp) (by unfold W64; decide) (by decide)
  rw [show meanB [4607182418800017408, 4611686018427387904] = 4609434218613702656 by decide +kernel, show decide (0 < 2) = true by decide +kernel] at p3
  have p4 := fun w => spread_c (some ⟨w.heap.size, 0, none⟩) 2 2 _ [9218868437227405312, 9218868437227405312] _ (rd2 w _ _) (by simp) (by unfold W64; decide) (by decide)
  rw [show spreadB (srtF [9218868437227405312, 9218868437227405312]) = 9221120237041090561 by decide +kernel, show decide (0 < 2) = true by decide +kernel] at p4
  have p5 := fun w => sum_c (some ⟨w.heap.size, 0, none⟩) 2 2 _ [9218868437227405312, 4607182418800017408] _ (rd2 w _ _) (by simp) (by unfold W64; decide) (by decide)
  rw [show sumB (srtF [9218868437227405312, 4607182418800017408]) = 9218868437227405312 by decide +kernel] at p5
  have p6 := fun w => sum_c (some ⟨w.heap.size, 0, none⟩) 1 1 _ [9223372036854775808] _ (rd1 w _) (by simp) (by unfold W64; decide) (by decide)
  rw [show sumB (srtF [9223372036854775808]) = 0 by decide +kernel] at p6
  have s1 := same_c 0 0
  rw [show decide ((0 : Nat) = 0) = true by decide +kernel] at s1
  have o1 : (FloatKind.f64.format.order 4611686018427387904 4611686018427387904 == some .eq) = true := by decide +kernel
  have o2 : (FloatKind.f64.format.order 4609434218613702656 4609434218613702656 == some .eq) = true := by decide +kernel
  have o3 : (FloatKind.f64.format.order 9218868437227405312 9218868437227405312 == some .eq) = true := by decide +kernel
  have o4 : (FloatKind.f64.format.order 9221120237041090561 9221120237041090561 != some .eq) = true := by decide +kernel
  go_enter Try.func23, Try.ntmps23
  go_wp2_with fail
  refine (p1 _).mono ?_
  rintro e w1 ⟨rfl, hb1⟩
  have HB1 : Hid (Below w.heap.size w w1) := (((Below.refl _ _).alloc (Nat.le_refl _) _).trans (hb1.mono (by simp)))
  clear hb1
  go_wp2_with fail
  refine (p2 _).mono ?_
  rintro e w2 ⟨rfl, hb2⟩
  have HB2 : Hid (Below w.heap.size w w2) := HB1.out.trans (hb2.mono HB1.out.size)
  clear hb2
  go_wp2_with fail
  refine (p3 _).mono ?_
  rintro e w3 ⟨rfl, hb3⟩
  have HB3 : Hid (Below w.heap.size w w3) := (HB2.out.alloc HB2.out.size _).trans (hb3.mono (Nat.le_trans HB2.out.size (by simp)))
  clear hb3
  go_wp2_with fail
  refine (p4 _).mono ?_
  rintro e w4 ⟨rfl, hb4⟩
  have HB4 : Hid (Below w.heap.size w w4) := (HB3.out.alloc HB3.out.size _).trans (hb4.mono (Nat.le_trans HB3.out.size (by simp)))
  clear hb4
  go_wp2_with fail
  refine (p5 _).mono ?_
  rintro e w5 ⟨rfl, hb5⟩
  have HB5 : Hid (Below w.heap.size w w5) := (HB4.out.alloc HB4.out.size _).trans (hb5.mono (Nat.le_trans HB4.out.size (by simp)))
  clear hb5
  go_wp2_with fail
  refine (p6 _).mono ?_
  rintro e w6 ⟨rfl, hb6⟩
  have HB6 : Hid (Below w.heap.size w w6) := (HB5.out.alloc HB5.out.size _).trans (hb6.mono (Nat.le_trans HB5.out.size (by simp)))
  clear hb6
  go_wp2_with fail
  refine (s1 _).mono ?_
  rintro e w' ⟨rfl, rfl⟩
  go_wp2
  go_ret
  exact ⟨rfl, HB6.out⟩
end Go.Proofs.Ytngjfeielpnnnaa
