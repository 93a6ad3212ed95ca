/-
  WirePlain2
-/
import Derived.Test.YtmhkalalcmkpbaaZWirePlain
namespace Go.Proofs.Ytmhkalalcmkpbaa
open Go.RowKit
set_option linter.unusedVariables false

def isMore (c : UInt8) : Bool := decide (128 ≤ c.toNat)
/-- The place of the first byte below the mark. -/
def endB (l : List UInt8) : Nat := (l.takeWhile isMore).length
theorem endB_le (l : List UInt8) : endB l ≤ l.length := by
  unfold endB
  induction l with
  | nil => simp
  | cons e K ih => rw [List.takeWhile_cons]; split <;> simp <;> omega
theorem endB_eq : ∀ (l : List UInt8) (i : Nat), i ≤ l.length → (∀ j, j < i → 128 ≤ (l.getD j 0).toNat) → (i < l.length → (l.getD i 0).toNat < 128) → endB l = i := by
  intro l
  induction l with
  | nil => intro i hi _ _; have : i = 0 := by simpa using hi
           subst this; rfl
  | cons e K ih =>
    intro i hi h1 h2
    cases i with
    | zero =>
      have := h2 (by simp)
      unfold endB
      rw [List.takeWhile_cons, if_neg (by unfold isMore; simpa using this)]; rfl
    | succ i =>
      have h0 := h1 0 (by omega)
      have hr := ih i (by simpa using hi) (fun j hj => by simpa using h1 (j + 1) (by omega)) (fun h => by simpa using h2 (by simpa using h))
      unfold endB at hr ⊢
      rw [List.takeWhile_cons, if_pos (by unfold isMore; simpa using h0), List.length_cons, hr]
def valB : List UInt8 → Nat
  | [] => 0
  | c :: r => c.toNat % 128 + 128 * valB r
theorem valB_snoc (l : List UInt8) (c : UInt8) : valB (l ++ [c]) = valB l + (c.toNat % 128) * 128 ^ l.length := by
  induction l with
  | nil => simp [valB]
  | cons d l ih =>
    show d.toNat % 128 + 128 * valB (l ++ [c]) = d.toNat % 128 + 128 * valB l + _
    rw [ih, List.length_cons, Nat.pow_succ, Nat.mul_add, Nat.mul_comm (128 ^ l.length) 128, Nat.mul_left_comm, Nat.add_assoc]
theorem valB_lt (l : List UInt8) : valB l < 128 ^ l.length := by
  induction l with
  | nil => simp [valB]
  | cons d l ih =>
    show d.toNat % 128 + 128 * valB l < _
    rw [List.length_cons, Nat.pow_succ]
    omega
/-- A number's reading: the error, the number, how many bytes. -/
def numR (l : List UInt8) : Int × Nat × Nat :=
  if endB l = l.length then (4, 0, 0) else if 7 < endB l then (2, 0, 0) else if 0 < endB l ∧ (l.getD (endB l) 0).toNat = 0 then (5, 0, 0) else
  if 9007199254740992 < valB (l.take (endB l + 1)) then (2, 0, 0) else (0, valB (l.take (endB l + 1)), endB l + 1)
theorem take_one (l : List UInt8) (k : Nat) (h : k < l.length) : l.take (k + 1) = l.take k ++ [l.getD k 0] := by
  rw [List.take_succ_eq_append_getElem h]; simp [List.getD, h]
theorem at_get (s : ByteArray) (k : Nat) (h : k < s.size) : s[k] = s.data.toList.getD k 0 := by
  have : k < s.data.toList.length := by simpa using h
  simp only [List.getD, List.getElem?_eq_getElem this, Option.getD_some]; rfl
end Go.Proofs.Ytmhkalalcmkpbaa
