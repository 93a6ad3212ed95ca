/-
  Sum, quotient, difference of float64 with a NaN made clean; the sums of sorted numbers; sorted lists do not hang on the order.
-/
import Derived.Test.YtngjfeielpnnnaaFloatSort2
import Derived.Laws.FloatArith
namespace Go.Proofs.Ytngjfeielpnnnaa
open Go.RowKit
open FloatPlain
open Stable
set_option linter.unusedVariables false

/-- The clean result of an operation. -/
def arB (op : BinOp) (x y : Nat) : Nat := match floatBits op .f64 x y with | some r => rawB r | none => 9221120237041090561
/-- The very result, of the world's tape where it is a NaN. -/
def arW (op : BinOp) (x y : Nat) (w : World) : Nat := match floatBits op .f64 x y with | some r => r | none => (Question.nanBits .f64 x y).cut (w.tape w.drawn (.nanBits .f64 x y))
def arN (op : BinOp) (x y : Nat) : Nat := match floatBits op .f64 x y with | some _ => 0 | none => 1
theorem cut_nan (x y t : Nat) : isNanB ((Question.nanBits .f64 x y).cut t) = true := by
  have : (Question.nanBits .f64 x y).cut t = (t % 2) * 2 ^ 63 + 0x7ff0000000000000 + 1 + (t / 2) % (2 ^ 52 - 1) := rfl
  rw [this]
  unfold isNanB rungOf
  rw [decide_eq_true_eq]
  have : t % 2 = 0 ∨ t % 2 = 1 := by omega
  rcases this with h | h <;> rw [h] <;> omega
theorem arW_raw (op : BinOp) (x y : Nat) (w : World) : rawB (arW op x y w) = arB op x y := by
  unfold arW arB
  cases h : floatBits op .f64 x y with
  | some r => rfl
  | none => simp only []; unfold rawB; rw [cut_nan]; rfl
section
variable {P : Program} (w : World)
theorem run_add_f64 (t : TypeId) (x y : Nat) : (binOp .add t (.float .f64 x) (.float .f64 y)).run P w = .ok (.float .f64 (arW .add x y w)) (w.drewN (arN .add x y)) := by
  unfold arW arN
  cases h : floatBits .add .f64 x y with
  | some r => exact run_float_arith w .add t .f64 x y r h
  | none => unfold floatBits at h; simp only at h; simp [binOp, Op.floatArith, h, Sem.run, Question.forced, World.drewN, choose]
theorem run_sub_f64 (t : TypeId) (x y : Nat) : (binOp .sub t (.float .f64 x) (.float .f64 y)).run P w = .ok (.float .f64 (arW .sub x y w)) (w.drewN (arN .sub x y)) := by
  unfold arW arN
  cases h : floatBits .sub .f64 x y with
  | some r => exact run_float_arith w .sub t .f64 x y r h
  | none => unfold floatBits at h; simp only at h; simp [binOp, Op.floatArith, h, Sem.run, Question.forced, World.drewN, choose]
theorem run_quo_f64 (t : TypeId) (x y : Nat) : (binOp .quo t (.float .f64 x) (.float .f64 y)).run P w = .ok (.float .f64 (arW .quo x y w)) (w.drewN (arN .quo x y)) := by
  unfold arW arN
  cases h : floatBits .quo .f64 x y with
  | some r => exact run_float_arith w .quo t .f64 x y r h
  | none => unfold floatBits at h; simp only at h; simp [binOp, Op.floatArith, h, Sem.run, Question.forced, World.drewN, choose]
end
theorem add_nan_left {x : Nat} (y : Nat) (h : isNanB x = true) : floatBits .add .f64 x y = none := by
  show FloatKind.f64.format.add x y = none
  unfold Ieee.Format.add
  rw [show FloatKind.f64.format.read x = _ from read_nan h]; rfl
theorem add_nan_right (x : Nat) {y : Nat} (h : isNanB y = true) : floatBits .add .f64 x y = none := by
  show FloatKind.f64.format.add x y = none
  unfold Ieee.Format.add
  rw [show FloatKind.f64.format.read y = _ from read_nan h]
  generalize FloatKind.f64.format.read x = d
  cases d <;> rfl
/-- The sum of sorted numbers. -/
def sumB (l : List Nat) : Nat := l.foldl (arB .add) 0
theorem arB_add_nan_left {x : Nat} (y : Nat) (h : isNanB x = true) : arB .add x y = 9221120237041090561 := by unfold arB; rw [add_nan_left y h]
theorem arB_add_nan_right (x : Nat) {y : Nat} (h : isNanB y = true) : arB .add x y = 9221120237041090561 := by unfold arB; rw [add_nan_right x h]
theorem nan_is : isNanB 9221120237041090561 = true := by decide +kernel
theorem fold_nan (l : List Nat) : l.foldl (arB .add) 9221120237041090561 = 9221120237041090561 := by
  induction l with
  | nil => rfl
  | cons y l ih => rw [List.foldl_cons, arB_add_nan_left y nan_is, ih]
theorem sum_nan (l : List Nat) (x : Nat) (hx : x ∈ l) (h : isNanB x = true) : sumB l = 9221120237041090561 := by
  unfold sumB
  generalize 0 = a
  induction l generalizing a with
  | nil => cases hx
  | cons y l ih =>
    rw [List.foldl_cons]
    rcases List.mem_cons.1 hx with rfl | hx
    · rw [arB_add_nan_right a h, fold_nan]
    · exact ih hx _

theorem insV_perm {α : Type} (lt : α → α → Bool) (x : α) (r : List α) : (insV lt x r).Perm (x :: r) := by
  induction r with
  | nil => exact List.Perm.refl _
  | cons y r ih =>
    unfold insV
    split
    · exact (List.Perm.cons _ ih).trans (List.Perm.swap _ _ _)
    · exact List.Perm.refl _
theorem insR_perm {α : Type} (lt : α → α → Bool) (S : List α) (x : α) : (insR lt S x).Perm (x :: S) := by
  unfold insR
  exact (List.reverse_perm _).trans ((insV_perm lt x _).trans (List.Perm.cons _ (List.reverse_perm _)))
theorem foldl_perm {α : Type} (lt : α → α → Bool) (l : List α) : ∀ S : List α, (l.foldl (insR lt) S).Perm (S ++ l) := by
  induction l with
  | nil => intro S; simp
  | cons x l ih =>
    intro S
    rw [List.foldl_cons]
    refine (ih _).trans (((insR_perm lt S x).append_right l).trans ?_)
    exact (List.perm_middle (l₁ := S)).symm
theorem ssort_perm {α : Type} (lt : α → α → Bool) (l : List α) : (ssort lt l).Perm l := by
  have := foldl_perm lt l []
  rw [List.nil_append] at this
  exact this
theorem ssort_turn {l l' : List Nat} (h : l.Perm l') (hok : ∀ x ∈ l, W64 x) : ssort ltK (l.map rawB) = ssort ltK (l'.map rawB) := by
  refine List.Perm.eq_of_pairwise (le := fun x y => ltK y x = false) ?_ (ssort_srt swoK _) (ssort_srt swoK _) ((ssort_perm ltK _).trans ((h.map rawB).trans (ssort_perm ltK _).symm))
  intro a b ha hb h1 h2
  have ha' := (ssort_perm ltK _).subset ha
  have hb' := (ssort_perm ltK _).subset hb
  obtain ⟨x, hx, rfl⟩ := List.mem_map.1 ha'
  obtain ⟨y, hy, rfl⟩ := List.mem_map.1 hb'
  have hx2 : rawB x < 18446744073709551616 := rawB_lt (hok x hx)
  have hy2 : rawB y < 18446744073709551616 := rawB_lt (hok y (h.symm.subset hy))
  unfold ltK at h1 h2
  rw [decide_eq_false_iff_not] at h1 h2
  have := (keyB_inj hx2 hy2).1 (by omega)
  rw [rawB_raw, rawB_raw] at this
  exact this
end Go.Proofs.Ytngjfeielpnnnaa
