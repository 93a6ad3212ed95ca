/-
  Contracts of package float's small functions, and of the reference's (almonryref05), by walking their text.
-/
import Derived.Test.YtngjfeielpnnnaaRows
import Derived.Test.YtngjfeielpnnnaaFloatPlain
import Derived.WalkKit
import Derived.WalkLawsBesides
import Derived.Laws.Cover2
import Derived.Laws.Externs
import Derived.Lib.Hide
import Derived.Deep.Cut
namespace Go.Proofs.Ytngjfeielpnnnaa
open Go.RowKit
open FloatPlain
set_option linter.unusedVariables false

theorem run_frombits (x : Int) (w : World) : (callFunc 15 #[.int .u64 x]).run Try.prog w = .ok (.value (.float .f64 x.toNat)) w := by
  rw [run_callFunc_extern (fn := Try.f15) (e := Extern.MathFloatBits.float64frombits) (by kernel_rfl) (by kernel_rfl) (by kernel_rfl) (by kernel_rfl) (by kernel_rfl)]
  rfl
theorem run_bits (b : Nat) (w : World) : (callFunc 62 #[.float .f64 b]).run Try.prog w = .ok (.value (.int .u64 b)) w := by
  rw [run_callFunc_extern (fn := Try.f62) (e := Extern.MathFloatBits.float64bits) (by kernel_rfl) (by kernel_rfl) (by kernel_rfl) (by kernel_rfl) (by kernel_rfl)]
  rfl
theorem u64_signed : IntKind.u64.signed = false := rfl
attribute [local go_sem] run_frombits run_bits u64_signed

theorem order_ne (b : Nat) : (FloatKind.f64.format.order b b != some .eq) = isNanB b := order_self_ne b

theorem ret_bool {a b : Bool} (h : a = b) : Ending.returned (.bool a) = .returned (.bool b) := by rw [h]
theorem ret_int {k : IntKind} {a b : Int} (h : a = b) : Ending.returned (.int k a) = .returned (.int k b) := by rw [h]
theorem ret_f64 {a b : Nat} (h : a = b) : Ending.returned (.float .f64 a) = .returned (.float .f64 b) := by rw [h]
set_option maxRecDepth 100000 in
theorem isnan_c (b : Nat) (w : World) : Calls Try.prog 96 #[.float .f64 b] w fun e w' => e = .returned (.bool (isNanB b)) ∧ w = w' := by
  go_enter Try.func96, Try.ntmps96
  go_wp2
  go_ret
  exact ⟨ret_bool (order_ne b), rfl⟩

set_option maxRecDepth 100000 in
theorem raw_c (b : Nat) (w : World) : Calls Try.prog 63 #[.float .f64 b] w fun e w' => e = .returned (.int .u64 (rawB b)) ∧ w = w' := by
  cases h : isNanB b with
  | true =>
    have hr : rawB b = 9221120237041090561 := by unfold rawB; rw [h]; rfl
    have c := isnan_c b
    rw [h] at c
    clear h
    rw [hr]; clear hr
    go_enter Try.func63, Try.ntmps63
    go_wp2_with (go_at_call 96; refine (c _).mono ?_; rintro e w' ⟨rfl, rfl⟩)
    go_ret
    exact ⟨rfl, rfl⟩
  | false =>
    have hr : rawB b = b := by unfold rawB; rw [h]; rfl
    have c := isnan_c b
    rw [h] at c
    clear h
    rw [hr]; clear hr
    go_enter Try.func63, Try.ntmps63
    go_wp2_with (go_at_call 96; refine (c _).mono ?_; rintro e w' ⟨rfl, rfl⟩)
    go_ret
    exact ⟨rfl, rfl⟩

set_option maxRecDepth 100000 in
theorem clean_c (b : Nat) (w : World) : Calls Try.prog 17 #[.float .f64 b] w fun e w' => e = .returned (.float .f64 (rawB b)) ∧ w = w' := by
  go_enter Try.func17, Try.ntmps17
  go_wp2_with (go_at_call 63; refine (raw_c _ _).mono ?_; rintro e w' ⟨rfl, rfl⟩)
  go_ret
  exact ⟨rfl, rfl⟩


/-- A key's number. -/
def ofB (k : Nat) : Nat := if 9223372036854775808 ≤ k then rawB (k - 9223372036854775808) else rawB (18446744073709551615 - k)

set_option maxRecDepth 100000 in
theorem key_lo (b r : Nat) (hr : r < 9223372036854775808) (c : ∀ w : World, Calls Try.prog 63 #[.float .f64 b] w fun e w' => e = .returned (.int .u64 r) ∧ w = w') (w : World) :
    Calls Try.prog 35 #[.float .f64 b] w fun e w' => e = .returned (.int .u64 ((r + 9223372036854775808 : Nat) : Int)) ∧ w = w' := by
  have h1 := and_sign_ne r (by omega)
  rw [decide_eq_false (by omega)] at h1
  have H1 := Lib.hid h1
  have H3 := Lib.hid (or_sign r hr)
  clear hr h1
  go_enter Try.func35, Try.ntmps35
  go_upto_if 8 with (go_at_call 63; refine (c _).mono ?_; rintro e w' ⟨rfl, rfl⟩)
  rw [H1.out]
  go_wp2
  go_ret
  exact ⟨ret_int H3.out, rfl⟩
theorem key_hi (b r : Nat) (hl : 9223372036854775808 ≤ r) (hr : r < 18446744073709551616) (c : ∀ w : World, Calls Try.prog 63 #[.float .f64 b] w fun e w' => e = .returned (.int .u64 r) ∧ w = w') (w : World) :
    Calls Try.prog 35 #[.float .f64 b] w fun e w' => e = .returned (.int .u64 ((18446744073709551615 - r : Nat) : Int)) ∧ w = w' := by
  have h1 := and_sign_ne r hr
  rw [decide_eq_true hl] at h1
  have H1 := Lib.hid h1
  have H3 := Lib.hid (not_u64 r hr)
  clear hl hr h1
  go_enter Try.func35, Try.ntmps35
  go_upto_if 8 with (go_at_call 63; refine (c _).mono ?_; rintro e w' ⟨rfl, rfl⟩)
  rw [H1.out]
  go_wp2
  go_ret
  exact ⟨ret_int H3.out, rfl⟩
theorem key_c (b : Nat) (hb : b < 18446744073709551616) (w : World) : Calls Try.prog 35 #[.float .f64 b] w fun e w' => e = .returned (.int .u64 (keyB b)) ∧ w = w' := by
  unfold keyB
  split
  · exact key_lo b _ ‹_› (raw_c b) w
  · exact key_hi b _ (by omega) (rawB_lt hb) (raw_c b) w

set_option maxRecDepth 100000 in
theorem of_c (k : Nat) (hk : k < 18446744073709551616) (w : World) : Calls Try.prog 37 #[.int .u64 k] w fun e w' => e = .returned (.float .f64 (ofB k)) ∧ w = w' := by
  have h1 := and_sign_ne _ hk
  have h2 := not_u64 _ hk
  have h3 := fun h => andNot_sign k h hk
  have ho : ofB k = if 9223372036854775808 ≤ k then rawB (k - 9223372036854775808) else rawB (18446744073709551615 - k) := rfl
  have HO := Lib.hid ho
  clear ho
  generalize ofB k = o at *
  by_cases hlt : 9223372036854775808 ≤ k
  · rw [decide_eq_true hlt] at h1
    have H1 := Lib.hid h1
    have H3 := Lib.hid (h3 hlt)
    have HL := Lib.hid hlt
    clear h1 h2 h3 hlt hk
    go_enter Try.func37, Try.ntmps37
    go_upto_if 5 with fail
    rw [H1.out]
    go_wp2_with fail
    rw [H3.out, Int.toNat_natCast]
    go_wp2_with (go_at_call 17; refine (clean_c _ _).mono ?_; rintro e w' ⟨rfl, rfl⟩)
    go_ret
    exact ⟨ret_f64 (by rw [HO.out, if_pos HL.out]), rfl⟩
  · rw [decide_eq_false hlt] at h1
    have H1 := Lib.hid h1
    have H2 := Lib.hid h2
    have HL := Lib.hid hlt
    clear h1 h2 h3 hlt hk
    go_enter Try.func37, Try.ntmps37
    go_upto_if 5 with fail
    rw [H1.out]
    go_wp2_with fail
    rw [H2.out, Int.toNat_natCast]
    go_wp2_with (go_at_call 17; refine (clean_c _ _).mono ?_; rintro e w' ⟨rfl, rfl⟩)
    go_ret
    exact ⟨ret_f64 (by rw [HO.out, if_neg HL.out]), rfl⟩

set_option maxRecDepth 100000 in
theorem less_c (a b : Nat) (ha : a < 18446744073709551616) (hb : b < 18446744073709551616) (w : World) : Calls Try.prog 18 #[.float .f64 a, .float .f64 b] w fun e w' => e = .returned (.bool (decide (keyB a < keyB b))) ∧ w = w' := by
  have ca := key_c a ha
  have cb := key_c b hb
  have hd : decide ((keyB a : Int) < (keyB b : Int)) = decide (keyB a < keyB b) := by simp
  have HD := Lib.hid hd
  clear hd
  generalize keyB a = x at *
  generalize keyB b = y at *
  go_enter Try.func18, Try.ntmps18
  go_wp2_with fail
  refine (ca _).mono ?_
  rintro e w' ⟨rfl, rfl⟩
  go_wp2_with fail
  refine (cb _).mono ?_
  rintro e w' ⟨rfl, rfl⟩
  go_wp2
  go_ret
  exact ⟨rfl, rfl⟩

set_option maxRecDepth 100000 in
theorem same_c (a b : Nat) (w : World) : Calls Try.prog 16 #[.float .f64 a, .float .f64 b] w fun e w' => e = .returned (.bool (decide (a = b))) ∧ w = w' := by
  have hd : ((a : Int) == (b : Int)) = decide (a = b) := by
    rw [Bool.eq_iff_iff, beq_iff_eq, decide_eq_true_eq]; omega
  have HD := Lib.hid hd
  clear hd
  go_enter Try.func16, Try.ntmps16
  go_wp2
  go_ret
  exact ⟨ret_bool HD.out, rfl⟩

set_option maxRecDepth 100000 in
theorem rbits_c (b : Nat) (w : World) : Calls Try.prog 68 #[.float .f64 b] w fun e w' => e = .returned (.int .u64 (rawB b)) ∧ w = w' := by
  have ho := order_ne b
  cases h : isNanB b with
  | true =>
    have hr : rawB b = 9221120237041090561 := by unfold rawB; rw [h]; rfl
    rw [h] at ho
    clear h
    rw [hr]; clear hr
    go_enter Try.func68, Try.ntmps68
    go_wp2
    go_ret
    exact ⟨rfl, rfl⟩
  | false =>
    have hr : rawB b = b := by unfold rawB; rw [h]; rfl
    rw [h] at ho
    clear h
    rw [hr]; clear hr
    go_enter Try.func68, Try.ntmps68
    go_wp2
    go_ret
    exact ⟨rfl, rfl⟩

set_option maxRecDepth 100000 in
theorem rclean_c (b : Nat) (w : World) : Calls Try.prog 41 #[.float .f64 b] w fun e w' => e = .returned (.float .f64 (rawB b)) ∧ w = w' := by
  go_enter Try.func41, Try.ntmps41
  go_wp2_with (go_at_call 68; refine (rbits_c _ _).mono ?_; rintro e w' ⟨rfl, rfl⟩)
  go_ret
  exact ⟨rfl, rfl⟩

theorem wrap_u64_nat (n : Nat) (h : n < 18446744073709551616) : IntKind.u64.wrap (n : Int) = (n : Int) := by rw [IntKind.wrap_u64]; omega

set_option maxRecDepth 100000 in
theorem rkey_c (b : Nat) (hb : b < 18446744073709551616) (w : World) : Calls Try.prog 36 #[.float .f64 b] w fun e w' => e = .returned (.int .u64 (keyB b)) ∧ w = w' := by
  have hr := rawB_lt hb
  have h2 := not_u64 _ hr
  have h3 := fun hlt : rawB b < 9223372036854775808 => wrap_u64_nat (rawB b + 9223372036854775808) (by omega)
  have hk : keyB b = if rawB b < 9223372036854775808 then rawB b + 9223372036854775808 else 18446744073709551615 - rawB b := rfl
  have HK := Lib.hid hk
  have c := rbits_c b
  clear hk
  generalize rawB b = r at *
  generalize keyB b = k at *
  have hT : r < 9223372036854775808 → decide ((r : Int) < 9223372036854775808) = true := fun h => decide_eq_true (by omega)
  have hF : ¬ r < 9223372036854775808 → decide ((r : Int) < 9223372036854775808) = false := fun h => decide_eq_false (by omega)
  by_cases hlt : r < 9223372036854775808
  · have HD := Lib.hid (hT hlt)
    have H3 := Lib.hid (h3 hlt)
    have HL := Lib.hid hlt
    clear h2 hlt h3 hr hT hF
    go_enter Try.func36, Try.ntmps36
    go_upto_if 7 with (go_at_call 68; refine (c _).mono ?_; rintro e w' ⟨rfl, rfl⟩)
    rw [HD.out]
    go_wp2
    go_ret
    exact ⟨ret_int (by rw [HK.out, if_pos HL.out]; exact H3.out), rfl⟩
  · have HD := Lib.hid (hF hlt)
    have H2 := Lib.hid h2
    have HL := Lib.hid hlt
    clear h2 hlt h3 hr hT hF
    go_enter Try.func36, Try.ntmps36
    go_upto_if 7 with (go_at_call 68; refine (c _).mono ?_; rintro e w' ⟨rfl, rfl⟩)
    rw [HD.out]
    go_wp2
    go_ret
    exact ⟨ret_int (by rw [H2.out, HK.out, if_neg HL.out]), rfl⟩

set_option maxRecDepth 100000 in
theorem rof_c (k : Nat) (hk : k < 18446744073709551616) (w : World) : Calls Try.prog 38 #[.int .u64 k] w fun e w' => e = .returned (.float .f64 (ofB k)) ∧ w = w' := by
  have h2 := not_u64 _ hk
  have h3 : 9223372036854775808 ≤ k → IntKind.u64.wrap ((k : Int) - 9223372036854775808) = ((k - 9223372036854775808 : Nat) : Int) := by
    intro h
    have := wrap_u64_nat (k - 9223372036854775808) (by omega)
    rw [← this]; congr 1; omega
  have ho : ofB k = if 9223372036854775808 ≤ k then rawB (k - 9223372036854775808) else rawB (18446744073709551615 - k) := rfl
  have HO := Lib.hid ho
  clear ho
  generalize ofB k = o at *
  have hT : 9223372036854775808 ≤ k → decide (9223372036854775808 ≤ (k : Int)) = true := fun h => decide_eq_true (by omega)
  have hF : ¬ 9223372036854775808 ≤ k → decide (9223372036854775808 ≤ (k : Int)) = false := fun h => decide_eq_false (by omega)
  by_cases hlt : 9223372036854775808 ≤ k
  · have HD := Lib.hid (hT hlt)
    have H3 := Lib.hid (h3 hlt)
    have HL := Lib.hid hlt
    clear h2 hlt h3 hk hT hF
    go_enter Try.func38, Try.ntmps38
    go_upto_if 4 with fail
    rw [HD.out]
    go_wp2_with fail
    rw [H3.out, Int.toNat_natCast]
    go_wp2_with fail
    refine (rclean_c _ _).mono ?_
    rintro e w' ⟨rfl, rfl⟩
    go_wp2
    go_ret
    exact ⟨ret_f64 (by rw [HO.out, if_pos HL.out]), rfl⟩
  · have HD := Lib.hid (hF hlt)
    have H2 := Lib.hid h2
    have HL := Lib.hid hlt
    clear h2 hlt h3 hk hT hF
    go_enter Try.func38, Try.ntmps38
    go_upto_if 4 with fail
    rw [HD.out]
    go_wp2_with fail
    rw [H2.out, Int.toNat_natCast]
    go_wp2_with fail
    refine (rclean_c _ _).mono ?_
    rintro e w' ⟨rfl, rfl⟩
    go_wp2
    go_ret
    exact ⟨ret_f64 (by rw [HO.out, if_neg HL.out]), rfl⟩

set_option maxRecDepth 100000 in
theorem rless_c (a b : Nat) (ha : a < 18446744073709551616) (hb : b < 18446744073709551616) (w : World) : Calls Try.prog 44 #[.float .f64 a, .float .f64 b] w fun e w' => e = .returned (.bool (decide (keyB a < keyB b))) ∧ w = w' := by
  have ca := rkey_c a ha
  have cb := rkey_c b hb
  have hd : decide ((keyB a : Int) < (keyB b : Int)) = decide (keyB a < keyB b) := by simp
  have HD := Lib.hid hd
  clear hd
  generalize keyB a = x at *
  generalize keyB b = y at *
  go_enter Try.func44, Try.ntmps44
  go_wp2_with fail
  refine (ca _).mono ?_
  rintro e w' ⟨rfl, rfl⟩
  go_wp2_with fail
  refine (cb _).mono ?_
  rintro e w' ⟨rfl, rfl⟩
  go_wp2
  go_ret
  exact ⟨rfl, rfl⟩
end Go.Proofs.Ytngjfeielpnnnaa
