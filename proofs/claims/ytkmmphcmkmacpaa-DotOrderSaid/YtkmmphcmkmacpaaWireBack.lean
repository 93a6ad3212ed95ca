/-
  A number's bytes read back, and the other way round: plain.
-/
import Derived.Test.YtkmmphcmkmacpaaWirePlain2
namespace Go.Proofs.Ytkmmphcmkmacpaa
open Go.RowKit
set_option linter.unusedVariables false

/-- A number's bytes, as bytes. -/
def bytesN (n : Nat) : List UInt8 := (putN n).map fun n => UInt8.ofNat n.toNat
theorem bytesN_str (n : Nat) : (strOfNums (putN n)).data.toList = bytesN n := rfl
theorem bytesN_small {n : Nat} (h : n < 128) : bytesN n = [UInt8.ofNat n] := by unfold bytesN; rw [putN_small h]; rfl
theorem bytesN_step {n : Nat} (h : ¬ n < 128) : bytesN n = UInt8.ofNat (n % 128 + 128) :: bytesN (n / 128) := by unfold bytesN; rw [putN_step h]; rfl
theorem bytesN_length (n : Nat) : (bytesN n).length = (putN n).length := by unfold bytesN; simp
theorem ofNat_toNat (n : Nat) (h : n < 256) : (UInt8.ofNat n).toNat = n := by simp; omega
theorem endB_cons (c : UInt8) (l : List UInt8) : endB (c :: l) = if 128 ≤ c.toNat then endB l + 1 else 0 := by
  unfold endB
  rw [List.takeWhile_cons]
  by_cases h : 128 ≤ c.toNat
  · rw [if_pos (by unfold isMore; simpa using h), if_pos h, List.length_cons]
  · rw [if_neg (by unfold isMore; simpa using h), if_neg h]; rfl
theorem put_read_all : ∀ (f n : Nat) (r : List UInt8), n ≤ f → endB (bytesN n ++ r) + 1 = (bytesN n).length ∧ valB (bytesN n) = n ∧
    (((bytesN n ++ r).getD (endB (bytesN n ++ r)) 0).toNat = 0 → n = 0) := by
  intro f
  induction f with
  | zero =>
    intro n r h
    obtain rfl : n = 0 := by omega
    rw [bytesN_small (by decide)]
    refine ⟨?_, by decide, fun _ => Eq.refl 0⟩
    show endB (UInt8.ofNat 0 :: r) + 1 = 1
    rw [endB_cons, if_neg (by decide)]
  | succ f ih =>
    intro n r h
    by_cases hn : n < 128
    · rw [bytesN_small hn]
      simp only [List.cons_append, List.nil_append]
      have e := ofNat_toNat n (by omega)
      rw [endB_cons, e, if_neg (by omega)]
      refine ⟨rfl, ?_, ?_⟩
      · show (UInt8.ofNat n).toNat % 128 + 128 * 0 = n
        rw [e]; omega
      · intro h; simpa using e ▸ h
    · obtain ⟨h1, h2, h3⟩ := ih (n / 128) r (by omega)
      rw [bytesN_step hn]
      have e := ofNat_toNat (n % 128 + 128) (by omega)
      rw [List.cons_append, endB_cons, e, if_pos (by omega)]
      refine ⟨by rw [List.length_cons, h1], ?_, ?_⟩
      · show (UInt8.ofNat (n % 128 + 128)).toNat % 128 + 128 * valB (bytesN (n / 128)) = n
        rw [h2, e]; omega
      · rw [List.getD_cons_succ]
        intro h; have := h3 h; omega
theorem putN_len8 (n : Nat) (h : n ≤ 9007199254740992) : (putN n).length ≤ 8 := by
  have e : (128 : Nat) ^ (7 + 1) = 72057594037927936 := by decide
  exact putN_length 7 n (by omega)
/-- A number comes back from its bytes. -/
theorem numR_put (n : Nat) (r : List UInt8) (h : n ≤ 9007199254740992) : numR (bytesN n ++ r) = (0, n, (bytesN n).length) := by
  obtain ⟨h1, h2, h3⟩ := put_read_all n n r (Nat.le_refl _)
  have h8 := putN_len8 n h
  rw [← bytesN_length] at h8
  have h9 : endB (bytesN n ++ r) ≤ 7 := by omega
  have ht : (bytesN n ++ r).take (endB (bytesN n ++ r) + 1) = bytesN n := by rw [h1, List.take_left]
  unfold numR
  rw [ht, h1, h2, if_neg (by rw [List.length_append]; omega), if_neg (by omega), if_neg, if_neg (by omega)]
  rintro ⟨a, b⟩
  have := h3 b
  subst this
  rw [bytesN_small (by decide)] at h1 a
  rw [List.length_singleton] at h1
  omega
theorem valB_pos : ∀ (e : Nat) (l : List UInt8), e < l.length → (l.getD e 0).toNat % 128 ≠ 0 → 1 ≤ valB (l.take (e + 1)) := by
  intro e
  induction e with
  | zero =>
    intro l hl h
    cases l with
    | nil => simp at hl
    | cons c l => simp only [List.getD_cons_zero] at h
                  show 1 ≤ c.toNat % 128 + 128 * _
                  omega
  | succ e ih =>
    intro l hl h
    cases l with
    | nil => simp at hl
    | cons c l =>
      have := ih l (by simpa using hl) (by simpa using h)
      show 1 ≤ c.toNat % 128 + 128 * valB (l.take (e + 1))
      omega
theorem read_put_all : ∀ (e : Nat) (l : List UInt8), endB l = e → e < l.length → ¬ (0 < e ∧ (l.getD e 0).toNat = 0) → bytesN (valB (l.take (e + 1))) = l.take (e + 1) ∧ (l.getD e 0).toNat < 128 := by
  intro e
  induction e with
  | zero =>
    intro l he hl h0
    cases l with
    | nil => simp at hl
    | cons c l =>
      rw [endB_cons] at he
      have hc : ¬ 128 ≤ c.toNat := by intro g; rw [if_pos g] at he; omega
      have hv : valB (List.take (0 + 1) (c :: l)) = c.toNat := by show c.toNat % 128 + 128 * 0 = _; omega
      rw [hv, bytesN_small (by omega)]
      exact ⟨by simp, by simpa using hc⟩
  | succ e ih =>
    intro l he hl h0
    cases l with
    | nil => simp at hl
    | cons c l =>
      rw [endB_cons] at he
      by_cases hc : 128 ≤ c.toNat
      · rw [if_pos hc] at he
        have hl2 : e < l.length := by simpa using hl
        have hz : (l.getD e 0).toNat ≠ 0 := fun g => h0 ⟨by omega, by simpa using g⟩
        obtain ⟨h1, h2⟩ := ih l (by omega) hl2 (fun g => hz g.2)
        have hp := valB_pos e l hl2 (by omega)
        have hv : valB (List.take (e + 1 + 1) (c :: l)) = c.toNat % 128 + 128 * valB (l.take (e + 1)) := rfl
        rw [hv, bytesN_step (by omega)]
        have hlt := c.toNat_lt
        have e1 : (c.toNat % 128 + 128 * valB (l.take (e + 1))) % 128 + 128 = c.toNat := by omega
        have e2 : (c.toNat % 128 + 128 * valB (l.take (e + 1))) / 128 = valB (l.take (e + 1)) := by omega
        rw [e1, e2, h1]
        exact ⟨by simp, by simpa using h2⟩
      · rw [if_neg hc] at he; omega
/-- Bytes come back from their number. -/
theorem numR_back (l : List UInt8) (h : (numR l).1 = 0) : l.take (numR l).2.2 = bytesN (numR l).2.1 ∧ (numR l).2.2 ≤ l.length ∧ (numR l).2.1 ≤ 9007199254740992 ∧ 0 < (numR l).2.2 := by
  have hle := endB_le l
  unfold numR at h ⊢
  by_cases h1 : endB l = l.length
  · rw [if_pos h1] at h; cases h
  · rw [if_neg h1] at h ⊢
    by_cases h2 : 7 < endB l
    · rw [if_pos h2] at h; cases h
    · rw [if_neg h2] at h ⊢
      by_cases h3 : 0 < endB l ∧ (l.getD (endB l) 0).toNat = 0
      · rw [if_pos h3] at h; cases h
      · rw [if_neg h3] at h ⊢
        by_cases h4 : 9007199254740992 < valB (l.take (endB l + 1))
        · rw [if_pos h4] at h; cases h
        · rw [if_neg h4]
          exact ⟨(read_put_all _ l rfl (by omega) h3).1.symm, by show endB l + 1 ≤ _; omega, by show valB _ ≤ _; omega, by show 0 < endB l + 1; omega⟩
theorem numR_pos (l : List UInt8) : (numR l).1 = 0 ∨ (numR l).1 = 2 ∨ (numR l).1 = 4 ∨ (numR l).1 = 5 := by
  unfold numR
  split
  · exact .inr (.inr (.inl rfl))
  · split
    · exact .inr (.inl rfl)
    · split
      · exact .inr (.inr (.inr rfl))
      · split
        · exact .inr (.inl rfl)
        · exact .inl rfl
end Go.Proofs.Ytkmmphcmkmacpaa
