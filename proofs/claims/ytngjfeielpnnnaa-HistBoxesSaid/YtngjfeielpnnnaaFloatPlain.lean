/-
  Plain facts on binary64 words: NaNs, keys, their order. No program in sight.
-/
import Ieee.Arith
import Derived.Laws.Cover2
import Derived.Laws.BitsAllLaws
namespace Go.Proofs.Ytngjfeielpnnnaa.FloatPlain
open Ieee

def rungOf (b : Nat) : Nat := b % 9223372036854775808
def isNanB (b : Nat) : Bool := decide (9218868437227405312 < rungOf b)
def rawB (b : Nat) : Nat := if isNanB b then 9221120237041090561 else b
def keyB (b : Nat) : Nat := if rawB b < 9223372036854775808 then rawB b + 9223372036854775808 else 18446744073709551615 - rawB b

theorem signWeight_d : double.signWeight = 9223372036854775808 := by decide +kernel
theorem binade_d : double.binade = 4503599627370496 := by decide +kernel
theorem infRung_d : double.infRung = 9218868437227405312 := by decide +kernel
theorem least_d : double.leastPlace = -1074 := by decide +kernel

/-- the size of a finite rung, in units of the least place -/
def valR (r : Nat) : Nat := if r < 4503599627370496 then r else (4503599627370496 + r % 4503599627370496) * 2 ^ (r / 4503599627370496 - 1)

theorem valR_succ_le (r : Nat) : valR r < valR (r + 1) := by
  unfold valR
  by_cases h : r + 1 < 4503599627370496
  · rw [if_pos (by omega), if_pos h]; omega
  · by_cases h2 : r < 4503599627370496
    · have : r = 4503599627370495 := by omega
      subst this; decide
    · rw [if_neg h2, if_neg h]
      by_cases h3 : (r + 1) % 4503599627370496 = 0
      · have e1 : (r + 1) / 4503599627370496 - 1 = (r / 4503599627370496 - 1) + 1 := by omega
        rw [e1, h3, Nat.pow_succ]
        have hp : 0 < 2 ^ (r / 4503599627370496 - 1) := Nat.two_pow_pos _
        have hm : r % 4503599627370496 < 4503599627370496 := Nat.mod_lt _ (by decide)
        generalize 2 ^ (r / 4503599627370496 - 1) = p at hp
        generalize r % 4503599627370496 = m at hm
        have : (4503599627370496 + m) * p < (9007199254740992) * p := Nat.mul_lt_mul_of_pos_right (by omega) hp
        have e : (4503599627370496 + 0) * (p * 2) = 9007199254740992 * p := by omega
        rw [e]; exact this
      · have e1 : (r + 1) / 4503599627370496 = r / 4503599627370496 := by omega
        have e2 : (r + 1) % 4503599627370496 = r % 4503599627370496 + 1 := by omega
        rw [e1, e2]
        exact Nat.mul_lt_mul_of_pos_right (by omega) (Nat.two_pow_pos _)

theorem valR_mono {r s : Nat} (h : r < s) : valR r < valR s := by
  induction s with
  | zero => omega
  | succ s ih =>
    rcases Nat.lt_or_ge r s with h' | h'
    · exact Nat.lt_trans (ih h') (valR_succ_le s)
    · have : r = s := by omega
      subst this; exact valR_succ_le r

theorem valR_inj {r s : Nat} (h : valR r = valR s) : r = s := by
  rcases Nat.lt_trichotomy r s with h' | h' | h'
  · have := valR_mono h'; omega
  · exact h'
  · have := valR_mono h'; omega

theorem valR_lt_iff {r s : Nat} : valR r < valR s ↔ r < s := by
  constructor
  · intro h
    rcases Nat.lt_trichotomy r s with h' | h' | h'
    · exact h'
    · subst h'; omega
    · have := valR_mono h'; omega
  · exact valR_mono

def negB (b : Nat) : Bool := b / 9223372036854775808 % 2 == 1

theorem read_d (b : Nat) : double.read b =
    if rungOf b < 4503599627370496 then .number (negB b) (rungOf b) (-1074)
    else if rungOf b < 9218868437227405312 then .number (negB b) (4503599627370496 + rungOf b % 4503599627370496) (-1074 + (rungOf b / 4503599627370496 - 1 : Nat))
    else if rungOf b = 9218868437227405312 then .infinity (negB b)
    else .nan (negB b) (rungOf b - 9218868437227405312) := by
  unfold Format.read
  simp only [signWeight_d, binade_d, infRung_d, least_d]
  rfl

/-- A finite number, as its sign, and its size in units of the least place. -/
theorem read_fin (b : Nat) (h : rungOf b < 9218868437227405312) : ∃ m : Nat, ∃ i : Nat, double.read b = .number (negB b) m (-1074 + (i : Int)) ∧ m * 2 ^ i = valR (rungOf b) := by
  rw [read_d]
  by_cases h1 : rungOf b < 4503599627370496
  · rw [if_pos h1]; exact ⟨rungOf b, 0, by simp, by simp [valR, h1]⟩
  · rw [if_neg h1, if_pos h]; exact ⟨_, _, rfl, by simp [valR, h1]⟩

theorem signed_val (s : Bool) (m i : Nat) : signed s m i = if s then -((m * 2 ^ i : Nat) : Int) else ((m * 2 ^ i : Nat) : Int) := by
  unfold signed; simp [Nat.shiftLeft_eq]

def sval (b : Nat) : Int := if negB b then -(valR (rungOf b) : Int) else (valR (rungOf b) : Int)

theorem compare_mul (x y : Int) (p : Int) (hp : 0 < p) : compare (x * p) (y * p) = compare x y := by
  simp only [compare, compareOfLessAndEq]
  have h1 : (x * p < y * p) ↔ x < y := ⟨fun h => by
    rcases Int.lt_trichotomy x y with h' | h' | h'
    · exact h'
    · subst h'; exact absurd h (Int.lt_irrefl _)
    · exact absurd (Int.mul_lt_mul_of_pos_right h' hp) (by omega), fun h => Int.mul_lt_mul_of_pos_right h hp⟩
  have h2 : (x * p = y * p) ↔ x = y := ⟨fun h => Int.eq_of_mul_eq_mul_right (by omega) h, fun h => by rw [h]⟩
  by_cases a : x < y <;> by_cases b : x = y <;> simp [h1, h2, a, b]

theorem order_fin {a b : Nat} (ha : rungOf a < 9218868437227405312) (hb : rungOf b < 9218868437227405312) : double.order a b = some (compare (sval a) (sval b)) := by
  obtain ⟨m, i, e1, v1⟩ := read_fin a ha
  obtain ⟨n, j, e2, v2⟩ := read_fin b hb
  unfold Format.order
  rw [e1, e2]
  simp only [Datum.order, signed_val]
  have key : ∀ k : Nat, k ≤ i → k ≤ j → compare (if negB a then -((m * 2 ^ (i - k) : Nat) : Int) else ((m * 2 ^ (i - k) : Nat) : Int)) (if negB b then -((n * 2 ^ (j - k) : Nat) : Int) else ((n * 2 ^ (j - k) : Nat) : Int)) = compare (sval a) (sval b) := by
    intro k hi hj
    have f1 : m * 2 ^ (i - k) * 2 ^ k = valR (rungOf a) := by rw [← v1, Nat.mul_assoc, ← Nat.pow_add, Nat.sub_add_cancel hi]
    have f2 : n * 2 ^ (j - k) * 2 ^ k = valR (rungOf b) := by rw [← v2, Nat.mul_assoc, ← Nat.pow_add, Nat.sub_add_cancel hj]
    have hp : (0 : Int) < ((2 ^ k : Nat) : Int) := by have := Nat.two_pow_pos k; omega
    rw [← compare_mul _ _ _ hp]
    unfold sval
    rw [← f1, ← f2]
    congr 1
    · split <;> simp [Int.neg_mul]
    · split <;> simp [Int.neg_mul]
  rcases Nat.le_total i j with h | h
  · have e : min ((-1074 : Int) + i) (-1074 + j) = -1074 + i := by omega
    rw [e]
    have g1 : ((-1074 : Int) + i - (-1074 + i)).toNat = i - i := by omega
    have g2 : ((-1074 : Int) + j - (-1074 + i)).toNat = j - i := by omega
    rw [g1, g2]; exact congrArg some (key i (Nat.le_refl _) h)
  · have e : min ((-1074 : Int) + i) (-1074 + j) = -1074 + j := by omega
    rw [e]
    have g1 : ((-1074 : Int) + i - (-1074 + j)).toNat = i - j := by omega
    have g2 : ((-1074 : Int) + j - (-1074 + j)).toNat = j - j := by omega
    rw [g1, g2]; exact congrArg some (key j h (Nat.le_refl _))

theorem read_inf {b : Nat} (h : rungOf b = 9218868437227405312) : double.read b = .infinity (negB b) := by
  rw [read_d, if_neg (by omega), if_neg (by omega), if_pos h]
theorem read_nan {b : Nat} (h : isNanB b = true) : double.read b = .nan (negB b) (rungOf b - 9218868437227405312) := by
  unfold isNanB at h
  have h := of_decide_eq_true h
  rw [read_d, if_neg (by omega), if_neg (by omega), if_neg (by omega)]

theorem order_nan_left {a : Nat} (b : Nat) (h : isNanB a = true) : double.order a b = none := by
  unfold Format.order; rw [read_nan h]; cases double.read b <;> rfl
theorem order_nan_right (a : Nat) {b : Nat} (h : isNanB b = true) : double.order a b = none := by
  unfold Format.order; rw [read_nan h]; cases double.read a <;> rfl

theorem order_self (b : Nat) : (double.order b b == some .eq) = !isNanB b := by
  cases h : isNanB b with
  | true => rw [order_nan_left b h]; rfl
  | false =>
    unfold isNanB at h
    have h := of_decide_eq_false h
    rcases Nat.lt_or_ge (rungOf b) 9218868437227405312 with h1 | h1
    · rw [order_fin h1 h1]; simp [compare, compareOfLessAndEq]
    · have h2 : rungOf b = 9218868437227405312 := by omega
      unfold Format.order; rw [read_inf h2]; simp [Datum.order]

theorem order_self_ne (b : Nat) : (double.order b b != some .eq) = isNanB b := by
  show (!(double.order b b == some .eq)) = _
  rw [order_self]; simp

theorem negB_iff {b : Nat} (hb : b < 18446744073709551616) : negB b = decide (9223372036854775808 ≤ b) := by
  unfold negB
  by_cases h : 9223372036854775808 ≤ b
  · rw [decide_eq_true h]; have : b / 9223372036854775808 = 1 := by omega
    rw [this]; rfl
  · rw [decide_eq_false h]; have : b / 9223372036854775808 = 0 := by omega
    rw [this]; rfl

/-- What '<' says, the keys say. -/
theorem order_lt_key {a b : Nat} (ha : a < 18446744073709551616) (hb : b < 18446744073709551616) (h : double.order a b = some .lt) : keyB a < keyB b := by
  have na : isNanB a = false := by
    cases e : isNanB a with
    | false => rfl
    | true => rw [order_nan_left b e] at h; cases h
  have nb : isNanB b = false := by
    cases e : isNanB b with
    | false => rfl
    | true => rw [order_nan_right a e] at h; cases h
  have ra : rawB a = a := by unfold rawB; rw [na]; rfl
  have rb : rawB b = b := by unfold rawB; rw [nb]; rfl
  unfold keyB; rw [ra, rb]
  have sa := negB_iff ha
  have sb := negB_iff hb
  unfold isNanB at na nb
  have na := of_decide_eq_false na
  have nb := of_decide_eq_false nb
  rcases Nat.lt_or_ge (rungOf a) 9218868437227405312 with h1 | h1 <;> rcases Nat.lt_or_ge (rungOf b) 9218868437227405312 with h2 | h2
  · rw [order_fin h1 h2] at h
    have h : compare (sval a) (sval b) = .lt := by injection h
    have h : sval a < sval b := by
      simp only [compare, compareOfLessAndEq] at h
      split at h
      · assumption
      · split at h <;> cases h
    unfold sval at h
    rw [sa, sb] at h
    unfold rungOf at h h1 h2
    by_cases p : 9223372036854775808 ≤ a <;> by_cases q : 9223372036854775808 ≤ b
    · rw [decide_eq_true p, decide_eq_true q] at h
      have h : valR (b % 9223372036854775808) < valR (a % 9223372036854775808) := by simp at h; omega
      have := valR_lt_iff.1 h
      rw [if_neg (by omega), if_neg (by omega)]; omega
    · rw [if_neg (by omega), if_pos (by omega)]; omega
    · rw [decide_eq_false p, decide_eq_true q] at h
      simp at h; omega
    · rw [decide_eq_false p, decide_eq_false q] at h
      have h : valR (a % 9223372036854775808) < valR (b % 9223372036854775808) := by simp at h; omega
      have := valR_lt_iff.1 h
      rw [if_pos (by omega), if_pos (by omega)]; omega
  · have h2 : rungOf b = 9218868437227405312 := by omega
    obtain ⟨m, i, e1, v1⟩ := read_fin a h1
    unfold Format.order at h
    rw [e1, read_inf h2] at h
    simp only [Datum.order] at h
    unfold rungOf at h1 h2
    by_cases q : 9223372036854775808 ≤ b
    · rw [sb, decide_eq_true q] at h; cases h
    · split <;> split <;> omega
  · have h1 : rungOf a = 9218868437227405312 := by omega
    obtain ⟨m, i, e1, v1⟩ := read_fin b h2
    unfold Format.order at h
    rw [e1, read_inf h1] at h
    simp only [Datum.order] at h
    unfold rungOf at h1 h2
    by_cases q : 9223372036854775808 ≤ a
    · split <;> split <;> omega
    · rw [sa, decide_eq_false q] at h; cases h
  · have h1 : rungOf a = 9218868437227405312 := by omega
    have h2 : rungOf b = 9218868437227405312 := by omega
    unfold Format.order at h
    rw [read_inf h1, read_inf h2] at h
    simp only [Datum.order] at h
    unfold rungOf at h1 h2
    by_cases p : 9223372036854775808 ≤ a <;> by_cases q : 9223372036854775808 ≤ b
    · rw [sa, sb, decide_eq_true p, decide_eq_true q] at h; cases h
    · split <;> split <;> omega
    · rw [sa, sb, decide_eq_false p, decide_eq_true q] at h; cases h
    · rw [sa, sb, decide_eq_false p, decide_eq_false q] at h; cases h

theorem rawB_lt {b : Nat} (h : b < 18446744073709551616) : rawB b < 18446744073709551616 := by unfold rawB; split <;> omega
theorem rawB_raw (b : Nat) : rawB (rawB b) = rawB b := by
  cases h : isNanB b with
  | true => unfold rawB; rw [h]; simp only [if_true]; decide
  | false => have : rawB b = b := by unfold rawB; rw [h]; rfl
             rw [this]; exact this
theorem keyB_lt {b : Nat} (h : b < 18446744073709551616) : keyB b < 18446744073709551616 := by
  have := rawB_lt h; unfold keyB; split <;> omega
theorem keyB_inj {a b : Nat} (ha : a < 18446744073709551616) (hb : b < 18446744073709551616) : keyB a = keyB b ↔ rawB a = rawB b := by
  have := rawB_lt ha; have := rawB_lt hb
  constructor
  · intro h; unfold keyB at h; split at h <;> split at h <;> omega
  · intro h; unfold keyB; rw [h]
theorem keyB_raw (b : Nat) : keyB (rawB b) = keyB b := by unfold keyB; rw [rawB_raw]
theorem umax : IntKind.u64.max = 18446744073709551615 := by decide +kernel
theorem and_sign (x : Nat) (h : x < 18446744073709551616) : bits .and .u64 (x : Int) 9223372036854775808 = if x < 9223372036854775808 then 0 else 9223372036854775808 := by
  have e := u64_and_nat x 9223372036854775808 h (by decide)
  rw [nat_hi64_63] at e
  refine Eq.trans e ?_
  split <;> omega
theorem and_sign_ne (x : Nat) (h : x < 18446744073709551616) : (bits .and .u64 (x : Int) 9223372036854775808 != 0) = decide (9223372036854775808 ≤ x) := by
  rw [and_sign x h]
  by_cases g : x < 9223372036854775808
  · rw [if_pos g, decide_eq_false (by omega)]; rfl
  · rw [if_neg g, decide_eq_true (by omega)]; rfl
theorem xor_ones (x : Nat) (h : x < 18446744073709551616) : 18446744073709551615 ^^^ x = 18446744073709551615 - x := by
  have e : (~~~ (BitVec.ofNat 64 x)).toNat = 18446744073709551615 - x := by
    rw [BitVec.toNat_not, BitVec.toNat_ofNat]; omega
  have f : (BitVec.allOnes 64 ^^^ BitVec.ofNat 64 x).toNat = 18446744073709551615 ^^^ x := by
    rw [BitVec.toNat_xor, BitVec.toNat_ofNat, BitVec.toNat_allOnes]
    congr 1; omega
  rw [← f, BitVec.allOnes_xor, e]
theorem not_u64 (x : Nat) (h : x < 18446744073709551616) : bits .xor .u64 IntKind.u64.max (x : Int) = ((18446744073709551615 - x : Nat) : Int) := by
  rw [umax]
  have e := u64_xor_nat 18446744073709551615 x (by decide) h
  rw [xor_ones x h] at e
  exact e
theorem or_sign (x : Nat) (h : x < 9223372036854775808) : bits .or .u64 (x : Int) 9223372036854775808 = ((x + 9223372036854775808 : Nat) : Int) := by
  have e := u64_or_nat x 9223372036854775808 (by omega) (by decide)
  have j := nat_join 63 9223372036854775808 x (by decide) h
  rw [Nat.or_comm] at j
  rw [j, Nat.add_comm] at e
  exact e
theorem andNot_sign (x : Nat) (h1 : 9223372036854775808 ≤ x) (h : x < 18446744073709551616) : bits .andNot .u64 (x : Int) 9223372036854775808 = ((x - 9223372036854775808 : Nat) : Int) := by
  have e := u64_andNot_nat x 9223372036854775808 h (by decide)
  refine Eq.trans e ?_
  have f : x &&& (18446744073709551615 - 9223372036854775808) = x % 9223372036854775808 := Nat.and_two_pow_sub_one_eq_mod x 63
  rw [f]; omega
end Go.Proofs.Ytngjfeielpnnnaa.FloatPlain
