/-
  WirePlain
-/
import Derived.WalkKit
import Derived.Laws.BytesArg
import Derived.Test.YtmhkalalcmkpbaaRows
namespace Go.Proofs.Ytmhkalalcmkpbaa
open Go.RowKit
set_option linter.unusedVariables false

/-- A number's bytes. -/
def putF : Nat → Nat → List Int
  | 0, n => [(n : Int)]
  | f + 1, n => if n < 128 then [(n : Int)] else ((n % 128 + 128 : Nat) : Int) :: putF f (n / 128)
def putN (n : Nat) : List Int := putF n n
theorem putF_same : ∀ (f g n : Nat), n ≤ f → n ≤ g → putF f n = putF g n := by
  intro f
  induction f with
  | zero =>
    intro g n h1 h2
    obtain rfl : n = 0 := by omega
    cases g <;> rfl
  | succ f ih =>
    intro g n h1 h2
    cases g with
    | zero => obtain rfl : n = 0 := by omega
              rfl
    | succ g =>
      unfold putF
      by_cases h : n < 128
      · rw [if_pos h, if_pos h]
      · rw [if_neg h, if_neg h, ih g (n / 128) (by omega) (by omega)]
theorem putN_small {n : Nat} (h : n < 128) : putN n = [(n : Int)] := by
  unfold putN; cases n with
  | zero => rfl
  | succ n => unfold putF; rw [if_pos h]
theorem putN_step {n : Nat} (h : ¬ n < 128) : putN n = ((n % 128 + 128 : Nat) : Int) :: putN (n / 128) := by
  unfold putN
  cases n with
  | zero => omega
  | succ n =>
    rw [show putF (n + 1) (n + 1) = if n + 1 < 128 then [((n + 1 : Nat) : Int)] else (((n + 1) % 128 + 128 : Nat) : Int) :: putF n ((n + 1) / 128) from rfl, if_neg h, putF_same n ((n + 1) / 128) _ (by omega) (by omega)]
theorem putN_length : ∀ (k n : Nat), n < 128 ^ (k + 1) → (putN n).length ≤ k + 1 := by
  intro k
  induction k with
  | zero => intro n h; rw [putN_small (by simpa using h)]; simp
  | succ k ih =>
    intro n h
    by_cases hn : n < 128
    · rw [putN_small hn]; simp
    · rw [putN_step hn]
      have := ih (n / 128) (by rw [Nat.pow_succ] at h; omega)
      simp; omega
theorem or_128 : ∀ x : Fin 256, bits .or .u8 ((x.val : Nat) : Int) 128 = ((x.val % 128 + 128 : Nat) : Int) := by decide +kernel
theorem or_more (n : Nat) : bits .or .u8 (IntKind.u8.wrap (n : Int)) 128 = ((n % 128 + 128 : Nat) : Int) := by
  have h := or_128 ⟨n % 256, by omega⟩
  simp only at h
  have e : IntKind.u8.wrap (n : Int) = ((n % 256 : Nat) : Int) := by rw [IntKind.wrap_u8]; omega
  rw [e, h]; omega
end Go.Proofs.Ytmhkalalcmkpbaa
