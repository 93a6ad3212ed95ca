/-
  GL17 GL17b
-/
import Derived.Test.YtpehmadeklaebaaZGR
namespace Go.Proofs.Ytpehmadeklaebaa.V
open Go Go.RowKit
set_option linter.unusedVariables false
set_option linter.unusedSimpArgs false

theorem elR_len (l : List FactT) : (elR l).length ≤ l.length := by
  have := sortK_length_le (lt := lessS) (l.map valR)
  rw [List.length_map] at this; exact this
theorem and_sw {a b : Prop} (h2 : b) (h1 : a) : a ∧ b := ⟨h1, h2⟩
def okF (f : FactT) : Bool := decide (f.2.2.2.1.size ≤ 100) && decide (f.2.2.2.2.size ≤ 1000)
def fewF (l : List FactT) : Bool := decide (l.length ≤ 30) && l.all okF
theorem fewF_len {l : List FactT} (h : fewF l = true) : l.length ≤ 30 := by
  simp only [fewF, Bool.and_eq_true, decide_eq_true_eq] at h; exact h.1

set_option maxHeartbeats 4000000 in
set_option maxRecDepth 100000 in
theorem few_e : FE.ok Try.prog False (fe1 20 (.v cFacts) (fun x => True) (fun x => [.td .bool (fewF x)])) := by
  refine efn1 EB5_ok Try.func20 rfl (by kernel_rfl) 29 rfl _ rfl (by kernel_rfl) fun E hY x hp => ?_
  refine e_run hY 400 (by kernel_rfl) ?_
  refine And.intro (fun h1 => ?_) (fun h1 => ?_)
  · have h2 := d_t h1
    refine And.intro ?_ trivial
    simp only [fewF]; rw [decide_eq_false (by omega)]; rfl
  · have h2 : x.length ≤ 30 := by have := d_f h1; omega
    refine e_lp ?_
    refine e_loop hY 0 rfl (α := Nat) (fun i => ([(3, .td cInt (i : Int))], [])) (fun i => i ≤ x.length ∧ ∀ j, j < i → okF (x.getD j dF) = true) (fun i => x.length - i) 0 ⟨Nat.zero_le _, fun j hj => by omega⟩ ?_ fun i hi => ?_
    · repeat (first | exact trivial | (refine And.intro ?_ ?_; (rfl)))
    · obtain ⟨hi, hd⟩ := hi
      have no : i < x.length → okF (x.getD i dF) = false → false = fewF x := fun h3 h4 => by
        simp only [fewF]
        have : x.all okF = false := by
          rw [List.all_eq_false]
          exact ⟨_, mem_getD dF h3, by rw [h4]; decide⟩
        rw [this, Bool.and_false]
      have yes : okF (x.getD i dF) = true → ∀ j, j < i + 1 → okF (x.getD j dF) = true := fun h j hj => by
        by_cases hji : j = i
        · subst hji; exact h
        · exact hd j (by omega)
      refine e_run hY 400 (by kernel_rfl) ?_
      refine And.intro (fun h3 => ?_) (fun h3 => ?_)
      · have hlt := nat_t h3
        repeat (first | (refine And.intro ?_ ?_; (first | (exact trivial) | (exact Nat.le_of_ble_eq_true rfl) | (omega) | (simp only [Int.toNat_natCast, List.length_append, List.length_cons, List.length_nil, List.length_take, List.length_drop]; omega))))
        refine And.intro (fun h4 => ?_) (fun h4 => ?_)
        · repeat (first | (refine And.intro ?_ ?_; (first | (exact trivial) | (exact Nat.le_of_ble_eq_true rfl) | (omega) | (simp only [Int.toNat_natCast, List.length_append, List.length_cons, List.length_nil, List.length_take, List.length_drop]; omega))))
          refine And.intro (no hlt ?_) trivial
          have h5 : 100 < (x.getD i dF).2.2.2.1.size := by have : (100 : Int) < ((x.getD i dF).2.2.2.1.size : Int) := d_t h4; omega
          unfold okF; rw [decide_eq_false (by omega)]; rfl
        · have h5 : (x.getD i dF).2.2.2.1.size ≤ 100 := by have : ¬ (100 : Int) < ((x.getD i dF).2.2.2.1.size : Int) := d_f h4; omega
          repeat (first | (refine And.intro ?_ ?_; (first | (exact trivial) | (exact Nat.le_of_ble_eq_true rfl) | (omega) | (simp only [Int.toNat_natCast, List.length_append, List.length_cons, List.length_nil, List.length_take, List.length_drop]; omega))))
          refine And.intro (fun h6 => ?_) (fun h6 => ?_)
          · repeat (first | (refine And.intro ?_ ?_; (first | (exact trivial) | (exact Nat.le_of_ble_eq_true rfl) | (omega) | (simp only [Int.toNat_natCast, List.length_append, List.length_cons, List.length_nil, List.length_take, List.length_drop]; omega))))
            refine And.intro (no hlt ?_) trivial
            have h7 : 1000 < (x.getD i dF).2.2.2.2.size := by have : (1000 : Int) < ((x.getD i dF).2.2.2.2.size : Int) := d_t h6; omega
            unfold okF; rw [decide_eq_false (p := (x.getD i dF).2.2.2.2.size ≤ 1000) (by omega), Bool.and_false]
          · have h7 : (x.getD i dF).2.2.2.2.size ≤ 1000 := by have : ¬ (1000 : Int) < ((x.getD i dF).2.2.2.2.size : Int) := d_f h6; omega
            repeat (first | (refine And.intro ?_ ?_; (first | (exact trivial) | (exact Nat.le_of_ble_eq_true rfl) | (omega) | (simp only [Int.toNat_natCast, List.length_append, List.length_cons, List.length_nil, List.length_take, List.length_drop]; omega))))
            refine e_back (i + 1) ⟨hlt, yes (by unfold okF; rw [decide_eq_true h5, decide_eq_true h7]; rfl)⟩ (by omega) ?_
            repeat (first | exact trivial | (refine And.intro ?_ ?_; (rfl)))
      · have hge := nat_f h3
        refine And.intro ?_ trivial
        simp only [fewF]
        rw [decide_eq_true h2, List.all_eq_true.2 fun f hf => ?_]
        · rfl
        · obtain ⟨j, hj, rfl⟩ := List.getElem_of_mem hf
          have := hd j (by omega)
          rw [getD_at dF hj] at this; exact this

set_option maxHeartbeats 4000000 in
set_option maxRecDepth 100000 in
theorem at_e : FE.ok Try.prog False (fe3 49 (.v cInt) (.v cInt) (.v .str) (fun x y z => True) (fun x y z => [.td cFact ((0, x), (x, 0, 0), y, ⟨#[97]⟩, z)])) := by
  refine efn3 EB5_ok Try.func49 rfl (by kernel_rfl) 14 rfl _ rfl (by kernel_rfl) fun E hY x y z hp => ?_
  refine e_run hY 400 (by kernel_rfl) ?_
  exact And.intro rfl trivial

def FL : List FE := [fe2 24 (.v (.list cFact)) (.v (.list cFact)) (fun x y => x.length < 1000000) (fun x y => [.td .bool (eqB (α := FactT) x y)]), fe2 27 (.v (.list .str)) (.v (.list .str)) (fun x y => x.length < 1000000) (fun x y => [.td .bool (eqB (α := ByteArray) x y)]), fe1 32 (.v (.list cFact)) (fun x => x.length < 1000000) (fun x => [.td (.list cFact) (sortK fLt x)]), fe1 22 (.v cFacts) (fun x => x.length < 1000000) (fun x => [.td .str (lastR x), .td .bool (decide (0 < x.length))]), fe1 23 (.v cFacts) (fun x => x.length < 1000000) (fun x => [.td .str (lastR x), .td .bool (decide (0 < x.length))]), fe3 25 (.v cFacts) (.v cInt) (.v .str) (fun x y z => x.length < 1000000) (fun x y z => [.td cFacts (x.filter (ofP y z))]), fe3 26 (.v cFacts) (.v cInt) (.v .str) (fun x y z => x.length < 1000000) (fun x y z => [.td cFacts (x.filter (ofP y z))]), fe1 28 (.v cFacts) (fun x => x.length < 1000000) (fun x => [.td (.list .str) (allR x)]), fe1 29 (.v cFacts) (fun x => x.length < 1000000) (fun x => [.td (.list .str) (allR x)]), fe1 30 (.v cFacts) (fun x => x.length < 1000000) (fun x => [.td (.list .str) (elR x)]), fe1 31 (.v cFacts) (fun x => x.length < 1000000) (fun x => [.td (.list .str) (elR x)]), fe1 20 (.v cFacts) (fun x => True) (fun x => [.td .bool (fewF x)]), fe3 49 (.v cInt) (.v cInt) (.v .str) (fun x y z => True) (fun x y z => [.td cFact ((0, x), (x, 0, 0), y, ⟨#[97]⟩, z)])] ++ F5
def EBL : EB := ebOf TTa FL QQ
theorem FL_ok : AllFE Try.prog False FL := AllFE.append ⟨rfsame_e, texts_e, rfsort_e, last_e, rlast_e, of_e, rof_e, all_e, rall_e, el_e, rel_e, few_e, at_e, trivial⟩ F5_ok
theorem EBL_ok : EBok EBL Try.prog False := ebOf_ok mixP TTa_ok FL_ok QQ_ok

def bA : ByteArray := ⟨#[97]⟩
def bB : ByteArray := ⟨#[98]⟩
def awF (t k : Int) (v : ByteArray) : FactT := ((0, t), (t, 0, 0), k, ⟨#[97]⟩, v)
def aw0 : List FactT := [awF 3 3 bB, awF 1 3 bA, awF 2 3 bB, awF 9 2 ⟨#[122]⟩]
def aw3 : List FactT := [awF 3 3 bB, awF 1 3 bA, awF 2 3 bB]
theorem aw_of : aw0.filter (ofP 3 bA) = aw3 := by kernel_rfl
theorem aw_all : allR aw3 = [bA, bB, bB] := by kernel_rfl
theorem lessS_data (a b : ByteArray) : lessS a b = Op.bytesLess a.data.toList b.data.toList := by
  unfold lessS; rw [ByteArray.toList_eq, ByteArray.toList_eq]
theorem aw_el : elR aw3 = [bA, bB] := by
  rw [← elR_of (l := aw3) (s := [bA, bB, bB]) (by rw [aw_all]) (by
    simp only [List.pairwise_cons, lessS_data]
    refine ⟨fun a ha => ?_, fun a ha => ?_, fun a ha => ?_, .nil⟩
    · rcases List.mem_cons.1 ha with rfl | ha
      · kernel_rfl
      · obtain rfl : a = bB := by simpa using ha
        kernel_rfl
    · obtain rfl : a = bB := by simpa using ha
      kernel_rfl
    · cases ha)]
  kernel_rfl

set_option maxHeartbeats 4000000 in
set_option maxRecDepth 100000 in
theorem awake_e : FE.ok Try.prog False (fe0 21  (True) ([.td .bool true])) := by
  refine efn0 EBL_ok Try.func21 rfl (by kernel_rfl) 61 rfl _ rfl (by kernel_rfl) fun E hY  hp => ?_
  refine e_run hY 400 (by kernel_rfl) ?_
  have e1 : eqB (elR (aw0.filter (ofP 3 bA))) [bA, bB] = true := by rw [aw_of, aw_el]; exact decide_eq_true rfl
  repeat (first
    | (refine And.intro ?_ ?_; (first | exact trivial | (show List.length _ < 1000000; exact of_decide_eq_true (by kernel_rfl))))
    | (refine And.intro (fun h => ?_) (fun h => absurd (h.symm.trans e1) (by decide)))
    | (refine And.intro (fun h => ?_) (fun h => absurd (h.symm.trans (by kernel_rfl : _ = true)) (by decide)))
    | (refine And.intro (fun h => absurd (h.symm.trans (by kernel_rfl : _ = false)) (by decide)) (fun h => ?_)))
  exact And.intro (by kernel_rfl) trivial

def FM : List FE := [fe0 21  (True) [.td .bool true]] ++ FL
def EBM : EB := ebOf TTa FM QQ
theorem FM_ok : AllFE Try.prog False FM := AllFE.append ⟨awake_e, trivial⟩ FL_ok
theorem EBM_ok : EBok EBM Try.prog False := ebOf_ok mixP TTa_ok FM_ok QQ_ok

end Go.Proofs.Ytpehmadeklaebaa.V

namespace Go.Proofs.Ytpehmadeklaebaa.V
open Go Go.RowKit
set_option linter.unusedVariables false
set_option linter.unusedSimpArgs false

theorem eqB_self {α : Type} [DecidableEq α] (l : List α) : eqB l l = true := decide_eq_true rfl

end Go.Proofs.Ytpehmadeklaebaa.V
