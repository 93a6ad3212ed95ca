/-
  slices.BinarySearchFunc over sorted keys with hist.Boxes' comparison.
-/
import Derived.Test.YtngjfeielpnnnaaHistPlain
namespace Go.Proofs.Ytngjfeielpnnnaa
open Go.RowKit
open FloatPlain
open Stable
set_option linter.unusedVariables false
set_option linter.unusedSimpArgs false
attribute [local go_sem] run_frombits run_bits u64_signed run_store_float

theorem ret_ib {a b : Int} {c d : Bool} (h : a = b) (h' : c = d) : Ending.returned (.tuple #[.int .i64 a, .bool c]) = .returned (.tuple #[.int .i64 b, .bool d]) := by rw [h, h']

set_option maxRecDepth 100000 in
theorem cmpbox_le (e x : Nat) (h : e ≤ x) (w : World) : Calls Try.prog 70 #[.int .u64 e, .int .u64 x] w fun r w' => r = .returned (.int .i64 (-1)) ∧ w = w' := by
  have h' : (e : Int) ≤ (x : Int) := by omega
  clear h
  go_enter Try.func70, Try.ntmps70
  go_wp2
  go_ret
  exact ⟨rfl, rfl⟩
set_option maxRecDepth 100000 in
theorem cmpbox_gt (e x : Nat) (h : ¬ e ≤ x) (w : World) : Calls Try.prog 70 #[.int .u64 e, .int .u64 x] w fun r w' => r = .returned (.int .i64 1) ∧ w = w' := by
  have h' : ¬ (e : Int) ≤ (x : Int) := by omega
  clear h
  go_enter Try.func70, Try.ntmps70
  go_wp2
  go_ret
  exact ⟨rfl, rfl⟩

set_option maxHeartbeats 1000000 in
set_option maxRecDepth 100000 in
theorem search_c (A : Option Addr) (n c B : Nat) (K : List Nat) (x : Nat) (w : World) (h1 : RdU w B A n K) (hs : ∀ h h', h ≤ h' → h' < n → K.getD h default ≤ K.getD h' default) (hn : n < 1000000) :
    Calls Try.prog 69 #[.slice A n c, .int .u64 x, .func (.func 70) #[] #[]] w fun e w' => e = .returned (.tuple #[.int .i64 (bs K x), .bool false]) ∧ w = w' := by
  have HX := Lib.hid h1.len
  have H1 := Lib.hid h1
  have HS := Lib.hid hs
  clear h1 hs
  generalize hb : bs K x = r
  have HR := Lib.hid hb
  clear hb
  go_enter Try.func69, Try.ntmps69
  go_wp2_with fail
  go_loopw [9, 10] (fun vi vj wr => ∃ (i j : Nat), vi = .int .i64 i ∧ vj = .int .i64 j ∧ i ≤ j ∧ j ≤ n ∧ wr = w ∧ Hid (∀ h, h < i → K.getD h default ≤ x) ∧ Hid (j < n → x < K.getD j default)) (fun vi vj _ => (intOf vj).toNat - (intOf vi).toNat)
  case atStart => exact ⟨0, n, rfl, rfl, by omega, by omega, rfl, fun h hh => absurd hh (by omega), fun h => absurd h (by omega)⟩
  case round =>
    obtain ⟨i, j, rfl, rfl, hij, hjn, rfl, HL, HG⟩ := hrel
    by_cases hlt : i < j
    · obtain ⟨ad, rfl, hc0⟩ := RdU.get H1.out (k := (i + j) / 2) (by omega)
      have e1 : (((i : Int) + j) / 2).toNat = (i + j) / 2 := by omega
      have e2 : (0 : Int) ≤ ((i : Int) + j) / 2 := by omega
      have e3 : ((i : Int) + j) / 2 < (n : Int) := by omega
      have HL2 : Hid (K.getD ((i + j) / 2) default ≤ x → ∀ h, h < (i + j) / 2 + 1 → K.getD h default ≤ x) := fun he h hh => Nat.le_trans (HS.out h ((i + j) / 2) (by omega) (by omega)) he
      have HG2 : Hid (¬ K.getD ((i + j) / 2) default ≤ x → (i + j) / 2 < n → x < K.getD ((i + j) / 2) default) := fun he _ => by omega
      by_cases he : K.getD ((i + j) / 2) default ≤ x
      · have hcm := cmpbox_le _ _ he
        have HL3 := Lib.hid (HL2.out he)
        clear he HL2 HG2
        generalize K.getD ((i + j) / 2) default = y at hcm hc0
        go_wp2_with (go_at_call 70; refine (hcm _).mono ?_; rintro e w' ⟨rfl, rfl⟩)
        go_roundw
        case rel => exact ⟨(i + j) / 2 + 1, j, by go_num, rfl, by omega, by omega, trivial, HL3, HG⟩
        case measure => simp [intOf]; omega
      · have hcm := cmpbox_gt _ _ he
        have HG3 := Lib.hid (HG2.out he)
        clear he HL2 HG2
        generalize K.getD ((i + j) / 2) default = y at hcm hc0
        go_wp2_with (go_at_call 70; refine (hcm _).mono ?_; rintro e w' ⟨rfl, rfl⟩)
        go_roundw
        case rel => exact ⟨i, (i + j) / 2, rfl, by go_num, by omega, by omega, trivial, HL, HG3⟩
        case measure => simp [intOf]; omega
    · obtain rfl : i = j := by omega
      have HE : Hid (bs K x = i) := bs_eq x K i (by rw [HX.out]; exact hjn) HL.out (by rw [HX.out]; exact HG.out)
      by_cases hin : i < n
      · obtain ⟨ad, rfl, hc0⟩ := RdU.get H1.out hin
        have hcm := cmpbox_gt (K.getD i default) x (by have := HG.out hin; omega)
        generalize K.getD i default = y at *
        have hd : decide ((i : Int) < (n : Int)) = true := decide_eq_true (by omega)
        have HI : Hid (i = r) := HE.out.symm.trans HR.out
        clear HL HG HE
        go_wp2_with (go_at_call 70; refine (hcm _).mono ?_; rintro e w' ⟨rfl, rfl⟩)
        go_ret2
        exact ⟨ret_ib (congrArg _ HI.out) rfl, rfl⟩
      · have hd : decide ((i : Int) < (n : Int)) = false := decide_eq_false (by omega)
        have HI : Hid (i = r) := HE.out.symm.trans HR.out
        clear HL HG HE
        go_wp2
        go_ret2
        exact ⟨ret_ib (congrArg _ HI.out) rfl, rfl⟩
end Go.Proofs.Ytngjfeielpnnnaa
