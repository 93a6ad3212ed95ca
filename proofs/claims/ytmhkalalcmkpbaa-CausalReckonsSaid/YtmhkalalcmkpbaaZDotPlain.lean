/-
  WireBack DotPlain
-/
import Derived.Test.YtmhkalalcmkpbaaZDotMay
import Derived.Test.YtmhkalalcmkpbaaZOrd
import Derived.Test.YtmhkalalcmkpbaaZWirePlain2
namespace Go.Proofs.Ytmhkalalcmkpbaa
open Go.RowKit
set_option linter.unusedVariables false

/-- A number's bytes, as bytes. -/
def bytesN (n : Nat) : List UInt8 := (putN n).map fun n => UInt8.ofNat n.toNat
theorem bytesN_str (n : Nat) : (strOfNums (putN n)).data.toList = bytesN n := rfl
theorem bytesN_small {n : Nat} (h : n < 128) : bytesN n = [UInt8.ofNat n] := by unfold bytesN; rw [putN_small h]; rfl
theorem bytesN_step {n : Nat} (h : ¬ n < 128) : bytesN n = UInt8.ofNat (n % 128 + 128) :: bytesN (n / 128) := by unfold bytesN; rw [putN_step h]; rfl
theorem bytesN_length (n : Nat) : (bytesN n).length = (putN n).length := by unfold bytesN; simp
theorem ofNat_toNat (n : Nat) (h : n < 256) : (UInt8.ofNat n).toNat = n := by simp; omega
theorem endB_cons (c : UInt8) (l : List UInt8) : endB (c :: l) = if 128 ≤ c.toNat then endB l + 1 else 0 := by
  unfold endB
  rw [List.takeWhile_cons]
  by_cases h : 128 ≤ c.toNat
  · rw [if_pos (by unfold isMore; simpa using h), if_pos h, List.length_cons]
  · rw [if_neg (by unfold isMore; simpa using h), if_neg h]; rfl
theorem put_read_all : ∀ (f n : Nat) (r : List UInt8), n ≤ f → endB (bytesN n ++ r) + 1 = (bytesN n).length ∧ valB (bytesN n) = n ∧
    (((bytesN n ++ r).getD (endB (bytesN n ++ r)) 0).toNat = 0 → n = 0) := by
  intro f
  induction f with
  | zero =>
    intro n r h
    obtain rfl : n = 0 := by omega
    rw [bytesN_small (by decide)]
    refine ⟨?_, by decide, fun _ => Eq.refl 0⟩
    show endB (UInt8.ofNat 0 :: r) + 1 = 1
    rw [endB_cons, if_neg (by decide)]
  | succ f ih =>
    intro n r h
    by_cases hn : n < 128
    · rw [bytesN_small hn]
      simp only [List.cons_append, List.nil_append]
      have e := ofNat_toNat n (by omega)
      rw [endB_cons, e, if_neg (by omega)]
      refine ⟨rfl, ?_, ?_⟩
      · show (UInt8.ofNat n).toNat % 128 + 128 * 0 = n
        rw [e]; omega
      · intro h; simpa using e ▸ h
    · obtain ⟨h1, h2, h3⟩ := ih (n / 128) r (by omega)
      rw [bytesN_step hn]
      have e := ofNat_toNat (n % 128 + 128) (by omega)
      rw [List.cons_append, endB_cons, e, if_pos (by omega)]
      refine ⟨by rw [List.length_cons, h1], ?_, ?_⟩
      · show (UInt8.ofNat (n % 128 + 128)).toNat % 128 + 128 * valB (bytesN (n / 128)) = n
        rw [h2, e]; omega
      · rw [List.getD_cons_succ]
        intro h; have := h3 h; omega
theorem putN_len8 (n : Nat) (h : n ≤ 9007199254740992) : (putN n).length ≤ 8 := by
  have e : (128 : Nat) ^ (7 + 1) = 72057594037927936 := by decide
  exact putN_length 7 n (by omega)
/-- A number comes back from its bytes. -/
theorem numR_put (n : Nat) (r : List UInt8) (h : n ≤ 9007199254740992) : numR (bytesN n ++ r) = (0, n, (bytesN n).length) := by
  obtain ⟨h1, h2, h3⟩ := put_read_all n n r (Nat.le_refl _)
  have h8 := putN_len8 n h
  rw [← bytesN_length] at h8
  have h9 : endB (bytesN n ++ r) ≤ 7 := by omega
  have ht : (bytesN n ++ r).take (endB (bytesN n ++ r) + 1) = bytesN n := by rw [h1, List.take_left]
  unfold numR
  rw [ht, h1, h2, if_neg (by rw [List.length_append]; omega), if_neg (by omega), if_neg, if_neg (by omega)]
  rintro ⟨a, b⟩
  have := h3 b
  subst this
  rw [bytesN_small (by decide)] at h1 a
  rw [List.length_singleton] at h1
  omega
theorem valB_pos : ∀ (e : Nat) (l : List UInt8), e < l.length → (l.getD e 0).toNat % 128 ≠ 0 → 1 ≤ valB (l.take (e + 1)) := by
  intro e
  induction e with
  | zero =>
    intro l hl h
    cases l with
    | nil => simp at hl
    | cons c l => simp only [List.getD_cons_zero] at h
                  show 1 ≤ c.toNat % 128 + 128 * _
                  omega
  | succ e ih =>
    intro l hl h
    cases l with
    | nil => simp at hl
    | cons c l =>
      have := ih l (by simpa using hl) (by simpa using h)
      show 1 ≤ c.toNat % 128 + 128 * valB (l.take (e + 1))
      omega
theorem read_put_all : ∀ (e : Nat) (l : List UInt8), endB l = e → e < l.length → ¬ (0 < e ∧ (l.getD e 0).toNat = 0) → bytesN (valB (l.take (e + 1))) = l.take (e + 1) ∧ (l.getD e 0).toNat < 128 := by
  intro e
  induction e with
  | zero =>
    intro l he hl h0
    cases l with
    | nil => simp at hl
    | cons c l =>
      rw [endB_cons] at he
      have hc : ¬ 128 ≤ c.toNat := by intro g; rw [if_pos g] at he; omega
      have hv : valB (List.take (0 + 1) (c :: l)) = c.toNat := by show c.toNat % 128 + 128 * 0 = _; omega
      rw [hv, bytesN_small (by omega)]
      exact ⟨by simp, by simpa using hc⟩
  | succ e ih =>
    intro l he hl h0
    cases l with
    | nil => simp at hl
    | cons c l =>
      rw [endB_cons] at he
      by_cases hc : 128 ≤ c.toNat
      · rw [if_pos hc] at he
        have hl2 : e < l.length := by simpa using hl
        have hz : (l.getD e 0).toNat ≠ 0 := fun g => h0 ⟨by omega, by simpa using g⟩
        obtain ⟨h1, h2⟩ := ih l (by omega) hl2 (fun g => hz g.2)
        have hp := valB_pos e l hl2 (by omega)
        have hv : valB (List.take (e + 1 + 1) (c :: l)) = c.toNat % 128 + 128 * valB (l.take (e + 1)) := rfl
        rw [hv, bytesN_step (by omega)]
        have hlt := c.toNat_lt
        have e1 : (c.toNat % 128 + 128 * valB (l.take (e + 1))) % 128 + 128 = c.toNat := by omega
        have e2 : (c.toNat % 128 + 128 * valB (l.take (e + 1))) / 128 = valB (l.take (e + 1)) := by omega
        rw [e1, e2, h1]
        exact ⟨by simp, by simpa using h2⟩
      · rw [if_neg hc] at he; omega
/-- Bytes come back from their number. -/
theorem numR_back (l : List UInt8) (h : (numR l).1 = 0) : l.take (numR l).2.2 = bytesN (numR l).2.1 ∧ (numR l).2.2 ≤ l.length ∧ (numR l).2.1 ≤ 9007199254740992 ∧ 0 < (numR l).2.2 := by
  have hle := endB_le l
  unfold numR at h ⊢
  by_cases h1 : endB l = l.length
  · rw [if_pos h1] at h; cases h
  · rw [if_neg h1] at h ⊢
    by_cases h2 : 7 < endB l
    · rw [if_pos h2] at h; cases h
    · rw [if_neg h2] at h ⊢
      by_cases h3 : 0 < endB l ∧ (l.getD (endB l) 0).toNat = 0
      · rw [if_pos h3] at h; cases h
      · rw [if_neg h3] at h ⊢
        by_cases h4 : 9007199254740992 < valB (l.take (endB l + 1))
        · rw [if_pos h4] at h; cases h
        · rw [if_neg h4]
          exact ⟨(read_put_all _ l rfl (by omega) h3).1.symm, by show endB l + 1 ≤ _; omega, by show valB _ ≤ _; omega, by show 0 < endB l + 1; omega⟩
end Go.Proofs.Ytmhkalalcmkpbaa

namespace Go.Proofs.Ytmhkalalcmkpbaa
open Go.RowKit
set_option linter.unusedVariables false

theorem ext_data (s : ByteArray) (k : Nat) : (s.extract k s.size).data.toList = s.data.toList.drop k := by
  have h : s.data.size = s.size := rfl
  simp [ByteArray.data_extract]
  exact List.take_of_length_le (by rw [List.length_drop, Array.length_toList, h]; exact Nat.le_refl _)
theorem ba_ext {a b : ByteArray} (h : a.data.toList = b.data.toList) : a = b := by
  obtain ⟨⟨a⟩⟩ := a; obtain ⟨⟨b⟩⟩ := b
  simp at h; subst h; rfl
theorem app_data (a b : ByteArray) : (a ++ b).data.toList = a.data.toList ++ b.data.toList := by simp
theorem rdN_put (s : ByteArray) (n : Nat) (r : List UInt8) (h : n ≤ 9007199254740992) (hs : s.data.toList = bytesN n ++ r) : ∃ s', rdN (s, 0) = (n, (s', 0)) ∧ s'.data.toList = r := by
  have hr := numR_put n r h
  refine ⟨s.extract (bytesN n).length s.size, ?_, ?_⟩
  · unfold rdN
    simp only [hs, hr]
    rfl
  · rw [ext_data, hs, List.drop_left]
/-- A name's bytes behind others. -/
def putL (l : List (Int × Int)) (s : ByteArray) : ByteArray := l.foldl (fun s d => s ++ (numS d.1 ++ numS d.2)) s
theorem putL_snoc (l : List (Int × Int)) (d : Int × Int) (s : ByteArray) : putL (l ++ [d]) s = putL l s ++ (numS d.1 ++ numS d.2) := by unfold putL; rw [List.foldl_append]; rfl
theorem numS_size (n : Int) : (numS n).size ≤ 8 := by
  unfold numS
  split
  · exact Nat.zero_le _
  · rw [strOfNums_size]; exact putN_len8 _ (by omega)
theorem putL_size : ∀ (l : List (Int × Int)) (s : ByteArray), (putL l s).size ≤ s.size + 16 * l.length := by
  intro l
  induction l with
  | nil => intro s; simp [putL]
  | cons d l ih =>
    intro s
    have h := ih (s ++ (numS d.1 ++ numS d.2))
    have h1 := numS_size d.1
    have h2 := numS_size d.2
    show (putL l (s ++ (numS d.1 ++ numS d.2))).size ≤ _
    rw [ByteArray.size_append, ByteArray.size_append] at h
    rw [List.length_cons]; omega
def putE (l : List (Int × Int)) : Int := if 4096 < l.length then 3 else mayE l
def putS (l : List (Int × Int)) : ByteArray := if putE l ≠ 0 then ⟨#[]⟩ else putL l (numS l.length)
/-- Names out of bytes. -/
def rdL : Nat → ByteArray × Int → List (Int × Int) × (ByteArray × Int)
  | 0, st => ([], st)
  | n + 1, st => if st.2 ≠ 0 then ([], st) else
    ((((rdN st).1 : Int), ((rdN (rdN st).2).1 : Int)) :: (rdL n (rdN (rdN st).2).2).1, (rdL n (rdN (rdN st).2).2).2)
def readD (s : ByteArray) : List (Int × Int) × Int :=
  if 4096 < (rdN (s, 0)).1 then ([], 3) else
  if doneE (rdL (rdN (s, 0)).1 (rdN (s, 0)).2).2 ≠ 0 then ([], doneE (rdL (rdN (s, 0)).1 (rdN (s, 0)).2).2) else
  if mayE (rdL (rdN (s, 0)).1 (rdN (s, 0)).2).1 ≠ 0 then ([], mayE (rdL (rdN (s, 0)).1 (rdN (s, 0)).2).1) else
  ((rdL (rdN (s, 0)).1 (rdN (s, 0)).2).1, 0)
def flatD (l : List (Int × Int)) : List UInt8 := l.flatMap fun d => bytesN d.1.toNat ++ bytesN d.2.toNat
theorem numS_data (n : Int) (h0 : 0 ≤ n) (h1 : n ≤ 9007199254740992) : (numS n).data.toList = bytesN n.toNat := by
  unfold numS; rw [if_neg (by omega)]; exact bytesN_str _
theorem putL_data : ∀ (l : List (Int × Int)) (s : ByteArray), (∀ d ∈ l, 0 ≤ d.1 ∧ d.1 ≤ 9007199254740992 ∧ 0 ≤ d.2 ∧ d.2 ≤ 9007199254740992) → (putL l s).data.toList = s.data.toList ++ flatD l := by
  intro l
  induction l with
  | nil => intro s _; simp [putL, flatD]
  | cons d l ih =>
    intro s h
    have hd := h d (by simp)
    have := ih (s ++ (numS d.1 ++ numS d.2)) (fun x hx => h x (by simp [hx]))
    show (putL l (s ++ (numS d.1 ++ numS d.2))).data.toList = _
    rw [this, app_data, app_data, numS_data _ hd.1 hd.2.1, numS_data _ hd.2.2.1 hd.2.2.2]
    unfold flatD
    rw [List.flatMap_cons, List.append_assoc]
theorem rdL_put : ∀ (l : List (Int × Int)) (s : ByteArray), (∀ d ∈ l, 0 ≤ d.1 ∧ d.1 ≤ 9007199254740992 ∧ 0 ≤ d.2 ∧ d.2 ≤ 9007199254740992) → ∀ r, s.data.toList = flatD l ++ r → ∃ s', rdL l.length (s, 0) = (l, (s', 0)) ∧ s'.data.toList = r := by
  intro l
  induction l with
  | nil => intro s _ r hs; exact ⟨s, rfl, by simpa [flatD] using hs⟩
  | cons d l ih =>
    intro s h r hs
    have hd := h d (by simp)
    have hs' : s.data.toList = bytesN d.1.toNat ++ (bytesN d.2.toNat ++ (flatD l ++ r)) := by rw [hs]; unfold flatD; rw [List.flatMap_cons]; simp
    obtain ⟨s1, e1, d1⟩ := rdN_put s d.1.toNat _ (by omega) hs'
    obtain ⟨s2, e2, d2⟩ := rdN_put s1 d.2.toNat _ (by omega) d1
    obtain ⟨s3, e3, d3⟩ := ih s2 (fun x hx => h x (by simp [hx])) r d2
    refine ⟨s3, ?_, d3⟩
    show (if (0 : Int) ≠ 0 then _ else ((((rdN (s, 0)).1 : Int), ((rdN (rdN (s, 0)).2).1 : Int)) :: (rdL l.length (rdN (rdN (s, 0)).2).2).1, (rdL l.length (rdN (rdN (s, 0)).2).2).2)) = _
    rw [if_neg (by simp), e1]
    simp only [e2, e3]
    rw [Int.toNat_of_nonneg hd.1, Int.toNat_of_nonneg hd.2.2.1]
theorem chkTo_all (l : List (Int × Int)) : ∀ k, k ≤ l.length → (chkTo l k = 0 ↔ ∀ i, i < k → chk (l.getD i default) = 0) := by
  intro k
  induction k with
  | zero => intro _; exact ⟨fun _ i h => by omega, fun _ => rfl⟩
  | succ k ih =>
    intro hk
    have := ih (by omega)
    show (if chkTo l k ≠ 0 then chkTo l k else chk (l.getD k default)) = 0 ↔ _
    constructor
    · intro h i hi
      by_cases h0 : chkTo l k = 0
      · rw [if_neg (by simpa using h0)] at h
        rcases Nat.lt_or_ge i k with g | g
        · exact this.1 h0 i g
        · obtain rfl : i = k := by omega
          exact h
      · rw [if_pos h0] at h; exact absurd h h0
    · intro h
      rw [if_neg (by simpa using this.2 (fun i hi => h i (by omega)))]
      exact h k (by omega)
theorem chk_zero {d : Int × Int} (h : chk d = 0) : 0 ≤ d.1 ∧ d.1 < 16 ∧ 1 ≤ d.2 ∧ d.2 ≤ 1099511627776 := by
  unfold chk at h; split at h
  · cases h
  · omega
theorem mayE_zero {l : List (Int × Int)} (h : mayE l = 0) : (∀ d ∈ l, chk d = 0) ∧ Rises l l.length := by
  unfold mayE at h
  by_cases h1 : chkTo l l.length = 0
  · rw [if_neg (by simpa using h1)] at h
    by_cases h2 : Rises l l.length
    · refine ⟨fun d hd => ?_, h2⟩
      obtain ⟨i, hi, rfl⟩ := List.mem_iff_getElem.1 hd
      have := (chkTo_all l _ (Nat.le_refl _)).1 h1 i hi
      simpa [List.getD, hi] using this
    · rw [if_neg h2] at h; cases h
  · rw [if_pos h1] at h; exact absurd h h1
theorem readD_put (l : List (Int × Int)) (h : putE l = 0) : readD (putS l) = (l, 0) := by
  have h2 : ¬ 4096 < l.length ∧ mayE l = 0 := by
    unfold putE at h; split at h
    · cases h
    · exact ⟨by assumption, h⟩
  have hb := (mayE_zero h2.2).1
  have hall : ∀ d ∈ l, 0 ≤ d.1 ∧ d.1 ≤ 9007199254740992 ∧ 0 ≤ d.2 ∧ d.2 ≤ 9007199254740992 := fun d hd => by
    have := chk_zero (hb d hd); omega
  have hs : (putS l).data.toList = bytesN l.length ++ (flatD l ++ []) := by
    unfold putS
    rw [if_neg (by simpa using h), putL_data _ _ hall, numS_data _ (by simp) (by omega), Int.toNat_natCast, List.append_nil]
  obtain ⟨s1, e1, d1⟩ := rdN_put _ l.length _ (by omega) hs
  obtain ⟨s2, e2, d2⟩ := rdL_put l s1 hall [] d1
  unfold readD
  rw [e1]
  simp only [e2]
  have hz : s2.size = 0 := by
    have := congrArg List.length d2
    simpa using this
  have hd : doneE (s2, 0) = 0 := by unfold doneE; rw [if_neg (by simp), if_pos hz]
  rw [if_neg h2.1, hd, if_neg (by simp), if_neg (by simpa using h2.2)]
end Go.Proofs.Ytmhkalalcmkpbaa
