/-
  G1
-/
import Derived.Test.YtpehmadeklaebaaZG0
namespace Go.Proofs.Ytpehmadeklaebaa.V
open Go Go.RowKit
set_option linter.unusedVariables false
set_option linter.unusedSimpArgs false

set_option maxRecDepth 100000 in
theorem nanI_e {K : Prop} : FE.ok Try.prog K (fe1 151 (.v cInt) (fun x => True) (fun x => [.td .bool false])) := by
  refine efn1 EB0_ok Try.func151 rfl (by kernel_rfl) 6 rfl _ rfl (by kernel_rfl) fun E hY x hp => ?_
  refine e_run hY 400 (by kernel_rfl) ?_
  refine And.intro (by simp) trivial

set_option maxRecDepth 100000 in
theorem nanB_e {K : Prop} : FE.ok Try.prog K (fe1 106 (.v .str) (fun x => True) (fun x => [.td .bool false])) := by
  refine efn1 EB0_ok Try.func106 rfl (by kernel_rfl) 6 rfl _ rfl (by kernel_rfl) fun E hY x hp => ?_
  refine e_run hY 400 (by kernel_rfl) ?_
  refine And.intro (by simp) trivial

def F1 : List FE := [fe1 151 (.v cInt) (fun _ => True) (fun _ => [.td .bool false]), fe1 106 (.v .str) (fun _ => True) (fun _ => [.td .bool false])]
def EB1 : EB := ebOf TTa F1 QQ
theorem EB1_ok {K : Prop} : EBok EB1 Try.prog K := ebOf_ok mixP TTa_ok ⟨nanI_e, nanB_e, trivial⟩ QQ_ok

set_option maxRecDepth 100000 in
theorem compI_e {K : Prop} : FE.ok Try.prog K (fe2 131 (.v cInt) (.v cInt) (fun x y => True) (fun x y => [.td cInt (cmpI x y)])) := by
  refine efn2 EB1_ok Try.func131 rfl (by kernel_rfl) 20 rfl _ rfl (by kernel_rfl) fun E hY x y hp => ?_
  refine e_run hY 400 (by kernel_rfl) ?_
  repeat' (first | (refine And.intro ?_ ?_ <;> intro _) | (refine And.intro ?_ ?_; (exact trivial)) | (refine And.intro ?_ ?_; (exact Nat.le_of_ble_eq_true rfl)) | (refine And.intro ?_ ?_; (omega)))
  all_goals (refine And.intro ?_ trivial)
  all_goals (simp only [cmpI]; grind)

set_option maxRecDepth 100000 in
theorem compB_e {K : Prop} : FE.ok Try.prog K (fe2 81 (.v .str) (.v .str) (fun x y => True) (fun x y => [.td cInt (cmpB x y)])) := by
  refine efn2 EB1_ok Try.func81 rfl (by kernel_rfl) 20 rfl _ rfl (by kernel_rfl) fun E hY x y hp => ?_
  refine e_run hY 400 (by kernel_rfl) ?_
  repeat' (first | (refine And.intro ?_ ?_ <;> intro _) | (refine And.intro ?_ ?_; (exact trivial)) | (refine And.intro ?_ ?_; (exact Nat.le_of_ble_eq_true rfl)) | (refine And.intro ?_ ?_; (omega)))
  all_goals (refine And.intro ?_ trivial)
  all_goals (simp only [cmpB, byL]; have := gtrS x y; simp only [lessS] at *; grind)

set_option maxRecDepth 100000 in
theorem or_e {K : Prop} : FE.ok Try.prog K (fe1 77 (.v (.list cInt)) (fun x => x.length < 1000000) (fun x => [.td cInt (orI x)])) := by
  refine efn1 EB0_ok Try.func77 rfl (by kernel_rfl) 18 rfl _ rfl (by kernel_rfl) fun E hY x hp => ?_
  refine e_run hY 400 (by kernel_rfl) ?_
  refine e_lp ?_
  refine e_loop hY 0 rfl (α := Nat) (fun i => ([(8, .td cInt (i : Int))], [])) (fun i => i ≤ x.length ∧ orI (x.drop i) = orI x) (fun i => x.length - i) 0 ⟨Nat.zero_le _, by simp⟩ ?_ fun i hi => ?_
  · repeat (first | exact trivial | (refine And.intro ?_ ?_; (rfl)))
  · obtain ⟨hi, hd⟩ := hi
    refine e_run hY 400 (by kernel_rfl) ?_
    refine And.intro (fun h1 => ?_) (fun h1 => ?_)
    · have hlt : i < x.length := by simpa using h1
      refine And.intro ⟨by omega, by omega⟩ ?_
      refine And.intro (fun h2 => ?_) (fun h2 => ?_)
      · refine And.intro ?_ trivial
        have h3 : ¬ x.getD i 0 = 0 := nd_t h2
        show x.getD i 0 = orI x
        rw [← hd, orI_at hlt h3]
      · have h3 : x.getD i 0 = 0 := nd_f h2
        refine And.intro (by omega) ?_
        refine e_back (i + 1) ⟨hlt, by rw [← orI_drop hlt h3, hd]⟩ (by omega) ?_
        repeat (first | exact trivial | (refine And.intro ?_ ?_; (rfl)))
    · have hge : i = x.length := by
        have h : ¬ i < x.length := by simpa using h1
        omega
      refine And.intro ?_ trivial
      rw [← hd, hge, List.drop_length]; rfl

theorem F1_ok {K : Prop} : AllFE Try.prog K F1 := ⟨nanI_e, nanB_e, trivial⟩

def F2 : List FE := [fe2 131 (.v cInt) (.v cInt) (fun x y => True) (fun x y => [.td cInt (cmpI x y)]), fe2 81 (.v .str) (.v .str) (fun x y => True) (fun x y => [.td cInt (cmpB x y)]), fe1 77 (.v (.list cInt)) (fun x => x.length < 1000000) (fun x => [.td cInt (orI x)])] ++ F1
def EB2 : EB := ebOf TTa F2 QQ
theorem F2_ok {K : Prop} : AllFE Try.prog K F2 := AllFE.append ⟨compI_e, compB_e, or_e, trivial⟩ F1_ok
theorem EB2_ok {K : Prop} : EBok EB2 Try.prog K := ebOf_ok mixP TTa_ok F2_ok QQ_ok

set_option maxRecDepth 100000 in
theorem dorder_e {K : Prop} : FE.ok Try.prog K (fe2 96 (.v cDot) (.v cDot) (fun x y => True) (fun x y => [.td cInt (dOrd x y)])) := by
  refine efn2 EB2_ok Try.func96 rfl (by kernel_rfl) 17 rfl _ rfl (by kernel_rfl) fun E hY x y hp => ?_
  refine e_run hY 400 (by kernel_rfl) ?_
  repeat' (first | (refine And.intro ?_ ?_ <;> intro _) | (refine And.intro ?_ ?_; (exact trivial)) | (refine And.intro ?_ ?_; (exact Nat.le_of_ble_eq_true rfl)) | (refine And.intro ?_ ?_; (omega)))
  all_goals exact And.intro rfl trivial

set_option maxRecDepth 100000 in
theorem sorder_e {K : Prop} : FE.ok Try.prog K (fe2 105 (.v cStamp) (.v cStamp) (fun x y => True) (fun x y => [.td cInt (sOrd x y)])) := by
  refine efn2 EB2_ok Try.func105 rfl (by kernel_rfl) 22 rfl _ rfl (by kernel_rfl) fun E hY x y hp => ?_
  refine e_run hY 400 (by kernel_rfl) ?_
  repeat' (first | (refine And.intro ?_ ?_ <;> intro _) | (refine And.intro ?_ ?_; (exact trivial)) | (refine And.intro ?_ ?_; (exact Nat.le_of_ble_eq_true rfl)) | (refine And.intro ?_ ?_; (omega)))
  all_goals exact And.intro rfl trivial

set_option maxRecDepth 100000 in
theorem rdless_e {K : Prop} : FE.ok Try.prog K (fe2 86 (.v cDot) (.v cDot) (fun x y => True) (fun x y => [.td .bool (dLt x y)])) := by
  refine efn2 EB2_ok Try.func86 rfl (by kernel_rfl) 24 rfl _ rfl (by kernel_rfl) fun E hY x y hp => ?_
  refine e_run hY 400 (by kernel_rfl) ?_
  repeat' (first | (refine And.intro ?_ ?_ <;> intro _) | (refine And.intro ?_ ?_; (exact trivial)) | (refine And.intro ?_ ?_; (exact Nat.le_of_ble_eq_true rfl)) | (refine And.intro ?_ ?_; (omega)))
  all_goals (refine And.intro ?_ trivial)
  all_goals (simp only [dLt]; grind)

set_option maxRecDepth 100000 in
theorem rsless_e {K : Prop} : FE.ok Try.prog K (fe2 87 (.v cStamp) (.v cStamp) (fun x y => True) (fun x y => [.td .bool (sLt x y)])) := by
  refine efn2 EB2_ok Try.func87 rfl (by kernel_rfl) 30 rfl _ rfl (by kernel_rfl) fun E hY x y hp => ?_
  refine e_run hY 400 (by kernel_rfl) ?_
  repeat' (first | (refine And.intro ?_ ?_ <;> intro _) | (refine And.intro ?_ ?_; (exact trivial)) | (refine And.intro ?_ ?_; (exact Nat.le_of_ble_eq_true rfl)) | (refine And.intro ?_ ?_; (omega)))
  all_goals (refine And.intro ?_ trivial)
  all_goals (simp only [sLt]; grind)

def F3 : List FE := [fe2 96 (.v cDot) (.v cDot) (fun x y => True) (fun x y => [.td cInt (dOrd x y)]), fe2 105 (.v cStamp) (.v cStamp) (fun x y => True) (fun x y => [.td cInt (sOrd x y)]), fe2 86 (.v cDot) (.v cDot) (fun x y => True) (fun x y => [.td .bool (dLt x y)]), fe2 87 (.v cStamp) (.v cStamp) (fun x y => True) (fun x y => [.td .bool (sLt x y)])] ++ F2
def EB3 : EB := ebOf TTa F3 QQ
theorem F3_ok {K : Prop} : AllFE Try.prog K F3 := AllFE.append ⟨dorder_e, sorder_e, rdless_e, rsless_e, trivial⟩ F2_ok
theorem EB3_ok {K : Prop} : EBok EB3 Try.prog K := ebOf_ok mixP TTa_ok F3_ok QQ_ok

set_option maxRecDepth 100000 in
theorem dless_e {K : Prop} : FE.ok Try.prog K (fe2 80 (.v cDot) (.v cDot) (fun x y => True) (fun x y => [.td .bool (dLt x y)])) := by
  refine efn2 EB3_ok Try.func80 rfl (by kernel_rfl) 9 rfl _ rfl (by kernel_rfl) fun E hY x y hp => ?_
  refine e_run hY 400 (by kernel_rfl) ?_
  repeat' (first | (refine And.intro ?_ ?_ <;> intro _) | (refine And.intro ?_ ?_; (exact trivial)) | (refine And.intro ?_ ?_; (exact Nat.le_of_ble_eq_true rfl)) | (refine And.intro ?_ ?_; (omega)))
  all_goals (refine And.intro ?_ trivial)
  all_goals exact dOrd_lt x y

set_option maxRecDepth 100000 in
theorem sless_e {K : Prop} : FE.ok Try.prog K (fe2 79 (.v cStamp) (.v cStamp) (fun x y => True) (fun x y => [.td .bool (sLt x y)])) := by
  refine efn2 EB3_ok Try.func79 rfl (by kernel_rfl) 11 rfl _ rfl (by kernel_rfl) fun E hY x y hp => ?_
  refine e_run hY 400 (by kernel_rfl) ?_
  repeat' (first | (refine And.intro ?_ ?_ <;> intro _) | (refine And.intro ?_ ?_; (exact trivial)) | (refine And.intro ?_ ?_; (exact Nat.le_of_ble_eq_true rfl)) | (refine And.intro ?_ ?_; (omega)))
  all_goals (refine And.intro ?_ trivial)
  all_goals exact sOrd_lt x y

def F4 : List FE := [fe2 80 (.v cDot) (.v cDot) (fun x y => True) (fun x y => [.td .bool (dLt x y)]), fe2 79 (.v cStamp) (.v cStamp) (fun x y => True) (fun x y => [.td .bool (sLt x y)])] ++ F3
def EB4 : EB := ebOf TTa F4 QQ
theorem F4_ok {K : Prop} : AllFE Try.prog K F4 := AllFE.append ⟨dless_e, sless_e, trivial⟩ F3_ok
theorem EB4_ok {K : Prop} : EBok EB4 Try.prog K := ebOf_ok mixP TTa_ok F4_ok QQ_ok

end Go.Proofs.Ytpehmadeklaebaa.V
