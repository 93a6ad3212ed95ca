/-
  FacR
-/
import Derived.Test.YtmhkalalcmkpbaaZFacB
namespace Go.Proofs.Ytmhkalalcmkpbaa
open Go.RowKit
set_option linter.unusedVariables false

def rF1 (st : ByteArray × Int) : ByteArray × Int := (rdN st).2
def rF2 (st : ByteArray × Int) : ByteArray × Int := (rdN (rF1 st)).2
def rF3 (st : ByteArray × Int) : ByteArray × Int := (rdN (rF2 st)).2
def rF4 (st : ByteArray × Int) : ByteArray × Int := (rdN (rF3 st)).2
def rF5 (st : ByteArray × Int) : ByteArray × Int := (rdN (rF4 st)).2
def rF6 (st : ByteArray × Int) : ByteArray × Int := (rdT (rF5 st)).2
def rF7 (st : ByteArray × Int) : ByteArray × Int := (rdT (rF6 st)).2
/-- A fact out of bytes. -/
def rdF (st : ByteArray × Int) : FactT × (ByteArray × Int) :=
  (((((rdN st).1 : Nat), ((rdN (rF1 st)).1 : Nat)), (((rdN (rF2 st)).1 : Nat), ((rdN (rF3 st)).1 : Nat), ((rdN st).1 : Nat)), ((rdN (rF4 st)).1 : Nat), (rdT (rF5 st)).1, (rdT (rF6 st)).1), rF7 st)
def rdFs : Nat → ByteArray × Int → List FactT × (ByteArray × Int)
  | 0, st => ([], st)
  | n + 1, st => if st.2 ≠ 0 then ([], st) else ((rdF st).1 :: (rdFs n (rdF st).2).1, (rdFs n (rdF st).2).2)
theorem rdFs_step (n : Nat) (st : ByteArray × Int) (h : st.2 = 0) : rdFs (n + 1) st = ((rdF st).1 :: (rdFs n (rdF st).2).1, (rdFs n (rdF st).2).2) := by
  show (if st.2 ≠ 0 then _ else _) = _
  rw [if_neg (by simpa using h)]
theorem rdFs_stop (n : Nat) (st : ByteArray × Int) (h : st.2 ≠ 0) : rdFs n st = ([], st) := by
  cases n with
  | zero => rfl
  | succ n =>
    show (if st.2 ≠ 0 then _ else _) = _
    rw [if_pos h]
theorem rF7_size (st : ByteArray × Int) : (rF1 st).1.size ≤ st.1.size ∧ (rF2 st).1.size ≤ st.1.size ∧ (rF3 st).1.size ≤ st.1.size ∧ (rF4 st).1.size ≤ st.1.size ∧ (rF5 st).1.size ≤ st.1.size ∧ (rF6 st).1.size ≤ st.1.size ∧ (rF7 st).1.size ≤ st.1.size := by
  have h1 : (rF1 st).1.size ≤ st.1.size := rdN_size st
  have h2 : (rF2 st).1.size ≤ (rF1 st).1.size := rdN_size (rF1 st)
  have h3 : (rF3 st).1.size ≤ (rF2 st).1.size := rdN_size (rF2 st)
  have h4 : (rF4 st).1.size ≤ (rF3 st).1.size := rdN_size (rF3 st)
  have h5 : (rF5 st).1.size ≤ (rF4 st).1.size := rdN_size (rF4 st)
  have h6 : (rF6 st).1.size ≤ (rF5 st).1.size := rdT_size (rF5 st)
  have h7 : (rF7 st).1.size ≤ (rF6 st).1.size := rdT_size (rF6 st)
  omega
theorem rdT_text (st : ByteArray × Int) : (rdT st).1.size ≤ 65536 := by
  unfold rdT
  split
  · exact Nat.zero_le _
  · split
    · exact Nat.zero_le _
    · rename_i h
      unfold textR at h ⊢
      split
      · exact Nat.zero_le _
      · split
        · exact Nat.zero_le _
        · split
          · exact Nat.zero_le _
          · show (ByteArray.extract _ _ _).size ≤ _
            rw [ByteArray.size_extract]; omega
theorem rdF_ok (st : ByteArray × Int) : okF (rdF st).1 := by
  have h1 := rdT_text (rF5 st)
  have h2 := rdT_text (rF6 st)
  exact ⟨by show (rdT (rF5 st)).1.size < _; omega, by show (rdT (rF6 st)).1.size < _; omega⟩
theorem rdFs_ok : ∀ (n : Nat) (st : ByteArray × Int), ∀ f ∈ (rdFs n st).1, okF f := by
  intro n
  induction n with
  | zero => intro st f hf; simp [rdFs] at hf
  | succ n ih =>
    intro st f hf
    by_cases h : st.2 = 0
    · rw [rdFs_step n st h] at hf
      rcases List.mem_cons.1 hf with rfl | hf
      · exact rdF_ok st
      · exact ih _ f hf
    · rw [rdFs_stop _ st h] at hf; simp at hf
def rF (s : ByteArray) : List FactT × (ByteArray × Int) := rdFs (rdN (s, 0)).1 (rdN (s, 0)).2
end Go.Proofs.Ytmhkalalcmkpbaa
