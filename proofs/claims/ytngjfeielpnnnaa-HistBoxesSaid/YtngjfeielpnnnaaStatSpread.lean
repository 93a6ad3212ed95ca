/-
  The reference's Spread (almonryref33): package stats and of the reference's (almonryref33): Sum, Mean, Part, Spread.
-/
import Derived.Test.YtngjfeielpnnnaaStatPlain
import Derived.Test.YtngjfeielpnnnaaStatWalk
import Derived.Deep.RegionWith
namespace Go.Proofs.Ytngjfeielpnnnaa
open Go.RowKit
open FloatPlain
open Stable
set_option linter.unusedVariables false
set_option linter.unusedSimpArgs false
attribute [local go_sem] run_frombits run_bits u64_signed run_store_float run_add_f64 run_sub_f64 run_quo_f64


set_option maxHeartbeats 1000000 in
set_option maxRecDepth 100000 in
theorem rspread_c (A : Option Addr) (n c B : Nat) (xs : List Nat) (w : World) (h1 : RdF w B A n xs) (hB : B ≤ w.heap.size) (hok : ∀ x ∈ xs, W64 x) (hn : n < 1152921504606) :
    Calls Try.prog 30 #[.slice A n c] w fun e w' => e = .returned (.tuple #[.float .f64 (spreadB (srtF xs)), .bool (decide (0 < n))]) ∧ Below w.heap.size w w' := by
  have hs := fun c => rsort_c A n c B xs w h1 hB hok hn
  have hX : (srtF xs).length = n := (srtF_length xs).trans h1.len
  clear h1 hB hok
  change ∀ c, Calls _ _ _ _ (fun e w' => ∃ A' c', e = _ ∧ RdF w' w'.heap.size A' n (srtF xs) ∧ _) at hs
  generalize srtF xs = S at *
  by_cases h0 : n = 0
  · subst h0
    have e3 : spreadB S = 0 := by unfold spreadB; rw [if_pos hX]
    have e4 : decide (0 < 0) = false := rfl
    rw [e3, e4]
    clear e3 e4 hX
    go_enter Try.func30, Try.ntmps30
    go_wp2
    go_ret2
    exact ⟨ret_pair rfl rfl, Below.refl _ _⟩
  · have e3 : spreadB S = arB .sub (S.getD (n - 1) default) (S.getD 0 default) := by unfold spreadB; rw [if_neg (by omega), hX]
    have e4 : decide (0 < n) = true := decide_eq_true (by omega)
    rw [e3, e4]
    clear e3 e4 hX
    generalize hy : S.getD 0 default = y
    generalize hx : S.getD (n - 1) default = x
    have HY := Lib.hid hy
    have HXX := Lib.hid hx
    clear hy hx
    have hcl := rclean_c
    have h0' : ((n : Int) == 0) = false := by rw [beq_eq_false_iff_ne]; omega
    go_enter Try.func30, Try.ntmps30
    go_wp2_with fail
    refine (hs _).mono ?_
    rintro e w1 ⟨A1, c1, rfl, hr1, hb1⟩
    have HB := Lib.hid hb1
    obtain ⟨ad, rfl, c0⟩ := RdF.get hr1 (k := 0) (by omega)
    obtain ⟨ad', e', c9⟩ := RdF.get hr1 (k := n - 1) (by omega)
    injection e' with e'; subst e'
    obtain ⟨b, off, spot⟩ := ad
    have hspot : spot = none := by simpa [Addr.add] using World.cell?_spot c0
    subst hspot
    rw [HY.out] at c0
    rw [HXX.out] at c9
    have d0 : w1.cell? ⟨b, off, none⟩ = some (.float .f64 y) := c0
    have d9 : w1.cell? ⟨b, off + (n - 1), none⟩ = some (.float .f64 x) := by
      rw [← c9]; congr 1; unfold Addr.add; split
      · rename_i e; simp [e]
      · rfl
    have e9 : ((n : Int) - 1).toNat = n - 1 := by omega
    have ew : IntKind.i64.wrap ((n : Int) - 1) = (n : Int) - 1 := by rw [IntKind.wrap_i64]; omega
    have hb : 0 ≤ IntKind.i64.wrap ((n : Int) - 1) ∧ IntKind.i64.wrap ((n : Int) - 1) < (n : Int) := by rw [ew]; omega
    have hb' : 0 ≤ ((n : Int) - 1) ∧ ((n : Int) - 1) < (n : Int) := by omega
    have d8 : w1.cell? ⟨b, off + (IntKind.i64.wrap ((n : Int) - 1)).toNat, none⟩ = some (.float .f64 x) := by rw [ew, e9]; exact d9
    have EW := Lib.hid ew
    clear ew
    have d7 := d9
    rw [← e9] at d9
    have d6 : w1.drew.cell? ⟨b, off + (n - 1), none⟩ = some (.float .f64 x) := d7
    have d5 : w1.drew.cell? ⟨b, off + ((n : Int) - 1).toNat, none⟩ = some (.float .f64 x) := d9
    have d4 : w1.drew.cell? ⟨b, off + (IntKind.i64.wrap ((n : Int) - 1)).toNat, none⟩ = some (.float .f64 x) := d8
    have d3 : w1.drew.cell? ⟨b, off, none⟩ = some (.float .f64 y) := d0
    have hb0 : 0 ≤ (0 : Int) ∧ (0 : Int) < (n : Int) := by omega
    clear hr1 hb1 hs c0 c9 e9
    go_wp2_with fail
    go_region_with (go_at_call 41; refine (hcl _ _).mono ?_; rintro e w' ⟨rfl, rfl⟩)
    all_goals (go_wp2; go_ret2; exact ⟨ret_pair (arW_raw _ _ _ _) rfl, by first | exact below_drewN HB.out _ | exact below_drewN (below_drewN HB.out 1) _⟩)
end Go.Proofs.Ytngjfeielpnnnaa
