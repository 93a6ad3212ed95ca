/-
  Frc
-/
import Derived.Test.YtmhkalalcmkpbaaGreatZFrb
namespace Go.Proofs.YtmhkalalcmkpbaaGreat
open Go Go.RowKit
set_option linter.unusedVariables false
set_option linter.unusedSimpArgs false

theorem freadE_long {s : ByteArray} (h : 4096 < (rdN (s, 0)).1) : freadE s = 3 := if_pos h
theorem freadE_done {s : ByteArray} (h : ¬ 4096 < (rdN (s, 0)).1) (h2 : doneE (rF s).2 ≠ 0) : freadE s = doneE (rF s).2 := by unfold freadE; rw [if_neg h, if_pos h2]
theorem freadE_may {s : ByteArray} (h : ¬ 4096 < (rdN (s, 0)).1) (h2 : doneE (rF s).2 = 0) : freadE s = mayG chkF ltF (rF s).1 := by unfold freadE; rw [if_neg h, if_neg (by simpa using h2)]
theorem freadL_err {s : ByteArray} (h : freadE s ≠ 0) : freadL s = [] := if_pos h
theorem freadL_ok {s : ByteArray} (h : freadE s = 0) : freadL s = (rF s).1 := if_neg (by simpa using h)
theorem sub_nilF {l : List FactT} (h : l = []) : Sub (.x (.slice none 0 0)) (slF l) := by subst h; exact Sub.nil_
/-- What the loop has read, and what is left. -/
structure RdI (s : ByteArray) (i : Nat) (acc : List FactT) (st : ByteArray × Int) : Prop where
  len : acc.length = i
  le : i ≤ (rdN (s, 0)).1
  size : st.1.size < 9223372036854775807
  eq : rF s = (acc ++ (rdFs ((rdN (s, 0)).1 - i) st).1, (rdFs ((rdN (s, 0)).1 - i) st).2)
theorem RdI.start {s : ByteArray} (hs : s.size < 9223372036854775807) : RdI s 0 [] (rdN (s, 0)).2 := ⟨rfl, Nat.zero_le _, Nat.lt_of_le_of_lt (rdN_size (s, 0)) hs, rfl⟩
theorem RdI.step {s : ByteArray} {i : Nat} {acc : List FactT} {st : ByteArray × Int} (h : RdI s i acc st) (hi : i < (rdN (s, 0)).1) (he : st.2 = 0) : RdI s (i + 1) (acc ++ [(rdF st).1]) (rdF st).2 := by
  refine ⟨by simp [h.len], hi, Nat.lt_of_le_of_lt (rF7_size st).2.2.2.2.2.2 h.size, ?_⟩
  rw [h.eq, show (rdN (s, 0)).1 - i = ((rdN (s, 0)).1 - (i + 1)) + 1 by omega, rdFs_step _ _ he]
  simp
theorem RdI.stop {s : ByteArray} {i : Nat} {acc : List FactT} {st : ByteArray × Int} (h : RdI s i acc st) (hb : (decide ((i : Int) < ((rdN (s, 0)).1 : Nat)) && decide (st.2 = 0)) = false) : rF s = (acc, st) := by
  have e : rdFs ((rdN (s, 0)).1 - i) st = ([], st) := by
    by_cases hi : i < (rdN (s, 0)).1
    · have : ¬ st.2 = 0 := by
        intro hz
        rw [decide_eq_true hz, Bool.and_true, decide_eq_false_iff_not] at hb
        omega
      exact rdFs_stop _ _ this
    · rw [show (rdN (s, 0)).1 - i = 0 by omega]; rfl
  rw [h.eq, e]; simp
theorem RdI.ok {s : ByteArray} {i : Nat} {acc : List FactT} {st : ByteArray × Int} (h : RdI s i acc st) : ∀ f ∈ acc, okF f := fun f hf => by
  have := rdFs_ok (rdN (s, 0)).1 (rdN (s, 0)).2 f
  have e := h.eq
  unfold rF at e
  rw [e] at this
  exact this (by simp [hf])
theorem and_t {a b : Bool} (h : (a && b) = true) : a = true ∧ b = true := by simpa using h
theorem snoc_flat (acc : List FactT) (d : FactT) : (acc ++ [d]).flatMap encF = acc.flatMap encF ++ encF d := by simp

end Go.Proofs.YtmhkalalcmkpbaaGreat
