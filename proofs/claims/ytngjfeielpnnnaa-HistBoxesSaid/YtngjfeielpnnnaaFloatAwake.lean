/-
  almonrylaw05.awake answers true.
-/
import Derived.Test.YtngjfeielpnnnaaFloatSort
import Derived.Test.YtngjfeielpnnnaaFloatBytes
namespace Go.Proofs.Ytngjfeielpnnnaa
open Go.RowKit
open FloatPlain
open Stable
set_option linter.unusedVariables false
set_option linter.unusedSimpArgs false
attribute [local go_sem] run_frombits run_bits u64_signed run_store_float

theorem nan_c (n : Int) (r : Nat) (h : bits .or .u64 9218868437227405313 (bits .and .u64 n 9227875636482146303) = (r : Int)) (w : World) :
    Calls Try.prog 64 #[.int .u64 n] w fun e w' => e = .returned (.float .f64 r) ∧ w = w' := by
  have H := Lib.hid h
  clear h
  go_enter Try.func64, Try.ntmps64
  go_wp2
  go_ret
  exact ⟨ret_f64 (by rw [H.out]; rfl), rfl⟩

theorem awake_list : ssort ltK ([9218868437227405313, 0, 9218868437227405312, 9223372036854775808, 13830554455654793216].map rawB) = [13830554455654793216, 9223372036854775808, 0, 9218868437227405312, 9221120237041090561] := by decide +kernel

theorem rd5 (w : World) (a b c d e : Nat) : RdF (w.alloc (.cells #[.float .f64 a, .float .f64 b, .float .f64 c, .float .f64 d, .float .f64 e] 24)) (w.heap.size + 1) (some ⟨w.heap.size, 0, none⟩) 5 [a, b, c, d, e] := by
  refine ⟨rfl, fun _ => ⟨_, rfl, Nat.lt_succ_self _, fun j u hu => ?_⟩⟩
  have hj : j < 5 := by
    rcases Nat.lt_or_ge j 5 with h | h
    · exact h
    · rw [List.getElem?_eq_none (by simpa using h)] at hu; cases hu
  have : j = 0 ∨ j = 1 ∨ j = 2 ∨ j = 3 ∨ j = 4 := by omega
  rcases this with rfl | rfl | rfl | rfl | rfl <;> (simp [f64v] at hu; subst hu; simp [Addr.add])

set_option maxHeartbeats 2000000 in
set_option maxRecDepth 100000 in
theorem awake05_c (w : World) : Calls Try.prog 19 #[] w fun e w' => e = .returned (.bool true) ∧ Below w.heap.size w w' := by
  have p1 := put_c 13836183955189006336
  have r1 := read_c (strOfNums (be8 (rawB 13836183955189006336)))
  rw [show rdF (strOfNums (be8 (rawB 13836183955189006336))) = 13836183955189006336 by decide +kernel, show rdE (strOfNums (be8 (rawB 13836183955189006336))) = 0 by decide +kernel] at r1
  have r2 := read_c ⟨#[255, 248, 0, 0, 0, 0, 0, 0]⟩
  rw [show rdE ⟨#[255, 248, 0, 0, 0, 0, 0, 0]⟩ = 5 by decide +kernel] at r2
  have r3 := read_c ⟨#[]⟩
  rw [show rdE ⟨#[]⟩ = 4 by decide +kernel] at r3
  generalize strOfNums (be8 (rawB 13836183955189006336)) = s0 at p1 r1
  generalize rdF ⟨#[255, 248, 0, 0, 0, 0, 0, 0]⟩ = x2 at r2
  generalize rdF ⟨#[]⟩ = x3 at r3
  have n0 := nan_c 0 9218868437227405313 (by decide +kernel)
  have n7 := nan_c 7 9218868437227405319 (by decide +kernel)
  have n1 := nan_c 1 9218868437227405313 (by decide +kernel)
  have n2 := nan_c 2 9218868437227405315 (by decide +kernel)
  have l1 := less_c 9223372036854775808 0 (by decide) (by decide)
  rw [show decide (keyB 9223372036854775808 < keyB 0) = true by decide +kernel] at l1
  have l2 := less_c 0 9223372036854775808 (by decide) (by decide)
  rw [show decide (keyB 0 < keyB 9223372036854775808) = false by decide +kernel] at l2
  have l3 := less_c 9218868437227405312 9218868437227405319 (by decide) (by decide)
  rw [show decide (keyB 9218868437227405312 < keyB 9218868437227405319) = true by decide +kernel] at l3
  have l4 := less_c 9218868437227405313 9218868437227405315 (by decide) (by decide)
  rw [show decide (keyB 9218868437227405313 < keyB 9218868437227405315) = false by decide +kernel] at l4
  have s1 := same_c 9223372036854775808 9223372036854775808
  rw [show decide ((9223372036854775808 : Nat) = 9223372036854775808) = true by decide +kernel] at s1
  have k1 := key_c 0 (by decide)
  rw [show keyB 0 = 9223372036854775808 by decide +kernel] at k1
  go_enter Try.func19, Try.ntmps19
  go_wp2_with fail
  refine (p1 _).mono ?_
  rintro e w1 ⟨rfl, hb1⟩
  have HB1 := Lib.hid hb1
  clear hb1
  go_wp2_with fail
  refine (r1 _).mono ?_
  rintro e w' ⟨rfl, rfl⟩
  go_wp2_with fail
  refine (r2 _).mono ?_
  rintro e w' ⟨rfl, rfl⟩
  go_wp2_with fail
  refine (r3 _).mono ?_
  rintro e w' ⟨rfl, rfl⟩
  go_wp2_with fail
  refine (n0 _).mono ?_
  rintro e w' ⟨rfl, rfl⟩
  go_wp2_with fail
  refine (sort_c _ 5 _ _ _ _ (rd5 w1 _ _ _ _ _) (by simp) (by unfold W64; decide) (by decide)).mono ?_
  rintro e w2 ⟨A', c', rfl, hrd, hb2⟩
  rw [awake_list] at hrd
  obtain ⟨ad, rfl, c0⟩ := RdF.get hrd (k := 0) (by decide)
  obtain ⟨ad1, e1, c1⟩ := RdF.get hrd (k := 1) (by decide)
  obtain ⟨ad3, e3, c3⟩ := RdF.get hrd (k := 3) (by decide)
  obtain ⟨ad4, e4, c4⟩ := RdF.get hrd (k := 4) (by decide)
  injection e1 with e1; injection e3 with e3; injection e4 with e4
  subst e1 e3 e4
  obtain ⟨b, off, spot⟩ := ad
  have hspot : spot = none := by simpa [Addr.add] using World.cell?_spot c0
  subst hspot
  have d0 : ∀ n, (w2.drewN n).cell? ⟨b, off, none⟩ = some (.float .f64 13830554455654793216) := fun _ => c0
  have d1 : ∀ n, (w2.drewN n).cell? ⟨b, off + 1, none⟩ = some (.float .f64 9223372036854775808) := fun _ => c1
  have d3 : ∀ n, (w2.drewN n).cell? ⟨b, off + 3, none⟩ = some (.float .f64 9218868437227405312) := fun _ => c3
  have d4 : ∀ n, (w2.drewN n).cell? ⟨b, off + 4, none⟩ = some (.float .f64 9221120237041090561) := fun _ => c4
  have o1 : (FloatKind.f64.format.order 13836183955189006336 13836183955189006336 == some .eq) = true := by decide +kernel
  have o2 : (FloatKind.f64.format.order 13830554455654793216 13830554455654793216 == some .eq) = true := by decide +kernel
  have o3 : (FloatKind.f64.format.order 9218868437227405312 9218868437227405312 == some .eq) = true := by decide +kernel
  have o4 : (FloatKind.f64.format.order 9221120237041090561 9221120237041090561 != some .eq) = true := by decide +kernel
  clear hrd c0 c1 c3 c4
  have HB2 := Lib.hid hb2
  clear hb2
  go_wp2_with fail
  simp only [List.append_eq, List.cons_append, List.nil_append, List.append]
  go_quiet (first | (go_at_call 18; first | (with_reducible exact quiet_left (l1 _)) | (with_reducible exact quiet_left (l2 _)) | (with_reducible exact quiet_left (l3 _)) | (with_reducible exact quiet_left (l4 _))) | (go_at_call 64; first | (with_reducible exact quiet_left (n7 _)) | (with_reducible exact quiet_left (n1 _)) | (with_reducible exact quiet_left (n2 _))) | (go_at_call 16; exact quiet_left (s1 _)) | (go_at_call 35; exact quiet_left (k1 _)))
  go_wp2
  go_ret
  exact ⟨rfl, below_drewN ((HB1.out.alloc HB1.out.size _).trans (HB2.out.mono (Nat.le_trans HB1.out.size (by simp)))) _⟩
end Go.Proofs.Ytngjfeielpnnnaa
