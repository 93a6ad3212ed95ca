/-
  What the symmetric merge's searches find, in plain Lean.
-/
import Derived.Test.YtngjfeielpnnnaaStable
namespace Go.Proofs.Ytngjfeielpnnnaa.Stable
section
variable {α : Type} [Inhabited α]

theorem getD_mid (P B Q : List α) (h : Nat) (h1 : P.length ≤ h) (h2 : h < P.length + B.length) : (P ++ (B ++ Q)).getD h default = B.getD (h - P.length) default := by
  simp only [List.getD]
  rw [List.getElem?_append_right h1, List.getElem?_append_left (by omega)]
theorem getD_mem (B : List α) (h : Nat) (hh : h < B.length) : B.getD h default ∈ B := by simp [List.getD, hh]
theorem mem_take_get (B : List α) (k : Nat) (y : α) (hy : y ∈ B.take k) : ∃ h, h < k ∧ h < B.length ∧ B.getD h default = y := by
  obtain ⟨h, hh, e⟩ := List.getElem_of_mem hy
  rw [List.length_take] at hh
  refine ⟨h, by omega, by omega, ?_⟩
  rw [List.getElem_take] at e
  rw [← e]; simp [List.getD, show h < B.length by omega]
theorem mem_drop_get (B : List α) (k : Nat) (y : α) (hy : y ∈ B.drop k) : ∃ h, k ≤ h ∧ h < B.length ∧ B.getD h default = y := by
  obtain ⟨h, hh, e⟩ := List.getElem_of_mem hy
  rw [List.length_drop] at hh
  refine ⟨k + h, by omega, by omega, ?_⟩
  rw [List.getElem_drop] at e
  rw [← e]; simp [List.getD, show k + h < B.length by omega]

variable {lt : α → α → Bool}
theorem srt_get (o : Swo lt) (B : List α) (hB : Srt lt B) (h h' : Nat) (hh : h ≤ h') (hl : h' < B.length) : lt (B.getD h' default) (B.getD h default) = false := by
  rcases Nat.lt_or_ge h h' with g | g
  · have := (List.pairwise_iff_getElem.1 hB) h h' (by omega) hl g
    simpa [List.getD, hl, show h < B.length by omega] using this
  · obtain rfl : h = h' := by omega
    exact o.irrefl _

/-- The search for the place of one element that stands ahead of a sorted run. -/
theorem sym1_step_lo (o : Swo lt) (P : List α) (x : α) (B Q : List α) (hB : Srt lt B) (h h' : Nat) (h1 : P.length + 1 ≤ h) (hh : h ≤ h') (h2 : h' < P.length + 1 + B.length)
    (e : lt ((P ++ x :: (B ++ Q)).getD h' default) x = true) : lt ((P ++ x :: (B ++ Q)).getD h default) x = true := by
  have g : P ++ x :: (B ++ Q) = (P ++ [x]) ++ (B ++ Q) := by simp
  rw [g] at e ⊢
  have hl : (P ++ [x]).length = P.length + 1 := by simp
  rw [getD_mid _ _ _ _ (by omega) (by omega)] at e ⊢
  exact o.le_lt (srt_get o B hB _ _ (by omega) (by omega)) e
theorem sym1_step_hi (o : Swo lt) (P : List α) (x : α) (B Q : List α) (hB : Srt lt B) (h h' : Nat) (h1 : P.length + 1 ≤ h) (hh : h ≤ h') (h2 : h' < P.length + 1 + B.length)
    (e : lt ((P ++ x :: (B ++ Q)).getD h default) x = false) : lt ((P ++ x :: (B ++ Q)).getD h' default) x = false := by
  cases e' : lt ((P ++ x :: (B ++ Q)).getD h' default) x with
  | false => rfl
  | true => rw [sym1_step_lo o P x B Q hB h h' h1 hh h2 e'] at e; cases e
theorem sym1_fin (P : List α) (x : α) (B Q : List α) (i : Nat) (hi1 : P.length + 1 ≤ i) (hi2 : i ≤ P.length + 1 + B.length)
    (hlo : ∀ h, P.length + 1 ≤ h → h < i → lt ((P ++ x :: (B ++ Q)).getD h default) x = true) (hhi : ∀ h, i ≤ h → h < P.length + 1 + B.length → lt ((P ++ x :: (B ++ Q)).getD h default) x = false) :
    rolR (P ++ x :: (B ++ Q)) P.length (i - 1 - P.length) = P ++ (mrg lt [x] B ++ Q) := by
  have g : P ++ x :: (B ++ Q) = (P ++ [x]) ++ (B ++ Q) := by simp
  have hl : (P ++ [x]).length = P.length + 1 := by simp
  have hm := mrg_split lt [x] (B.drop (i - 1 - P.length)) _ [] (B.take (i - 1 - P.length)) rfl (by simp) (by
    intro y hy z hz
    obtain rfl : z = x := by simpa using hz
    obtain ⟨h, h1, h2, rfl⟩ := mem_take_get _ _ _ hy
    have := hlo (P.length + 1 + h) (by omega) (by omega)
    rw [g, getD_mid _ _ _ _ (by omega) (by omega), hl, Nat.add_sub_cancel_left] at this
    exact this)
  rw [List.take_append_drop, nil_mrg] at hm
  have hm2 : mrg lt [x] (B.drop (i - 1 - P.length)) = x :: B.drop (i - 1 - P.length) := by
    cases hd : B.drop (i - 1 - P.length) with
    | nil => rw [mrg_nil]
    | cons y t =>
      have hy : y ∈ B.drop (i - 1 - P.length) := by rw [hd]; simp
      obtain ⟨h, h1, h2, rfl⟩ := mem_drop_get _ _ _ hy
      have := hhi (P.length + 1 + h) (by omega) (by omega)
      rw [g, getD_mid _ _ _ _ (by omega) (by omega), hl, Nat.add_sub_cancel_left] at this
      rw [mrg_cons, if_neg (by rw [this]; simp), nil_mrg]
  have e : B ++ Q = B.take (i - 1 - P.length) ++ (B.drop (i - 1 - P.length) ++ Q) := by rw [← List.append_assoc, List.take_append_drop]
  simp only [List.nil_append] at hm
  rw [hm, hm2, e, rolR_spec P x _ _ _ (by rw [List.length_take]; omega)]
  simp

/-- .. of one element that stands behind a sorted run. -/
theorem sym2_step_hi (o : Swo lt) (P A : List α) (y : α) (Q : List α) (hA : Srt lt A) (h h' : Nat) (h1 : P.length ≤ h) (hh : h ≤ h') (h2 : h' < P.length + A.length)
    (e : lt y ((P ++ (A ++ y :: Q)).getD h default) = true) : lt y ((P ++ (A ++ y :: Q)).getD h' default) = true := by
  rw [getD_mid _ _ _ _ (by omega) (by omega)] at e ⊢
  exact o.lt_le e (srt_get o A hA _ _ (by omega) (by omega))
theorem sym2_step_lo (o : Swo lt) (P A : List α) (y : α) (Q : List α) (hA : Srt lt A) (h h' : Nat) (h1 : P.length ≤ h) (hh : h ≤ h') (h2 : h' < P.length + A.length)
    (e : lt y ((P ++ (A ++ y :: Q)).getD h' default) = false) : lt y ((P ++ (A ++ y :: Q)).getD h default) = false := by
  cases e' : lt y ((P ++ (A ++ y :: Q)).getD h default) with
  | false => rfl
  | true => rw [sym2_step_hi o P A y Q hA h h' h1 hh h2 e'] at e; cases e
theorem sym2_fin (P A : List α) (y : α) (Q : List α) (i : Nat) (hi1 : P.length ≤ i) (hi2 : i ≤ P.length + A.length)
    (hlo : ∀ h, P.length ≤ h → h < i → lt y ((P ++ (A ++ y :: Q)).getD h default) = false) (hhi : ∀ h, i ≤ h → h < P.length + A.length → lt y ((P ++ (A ++ y :: Q)).getD h default) = true) :
    rolL (P ++ (A ++ y :: Q)) (P.length + A.length) (P.length + A.length - i) = P ++ (mrg lt A [y] ++ Q) := by
  have hm := mrg_split lt (A.drop (i - P.length)) [y] _ (A.take (i - P.length)) [] rfl (by
    intro x hx z hz
    obtain rfl : z = y := by simpa using hz
    obtain ⟨h, h1, h2, rfl⟩ := mem_take_get _ _ _ hx
    have := hlo (P.length + h) (by omega) (by omega)
    rw [getD_mid _ _ _ _ (by omega) (by omega), Nat.add_sub_cancel_left] at this
    exact this) (by simp)
  rw [List.take_append_drop, mrg_nil] at hm
  have hm2 : mrg lt (A.drop (i - P.length)) [y] = y :: A.drop (i - P.length) := by
    cases hd : A.drop (i - P.length) with
    | nil => rw [nil_mrg]
    | cons x t =>
      have hx : x ∈ A.drop (i - P.length) := by rw [hd]; simp
      obtain ⟨h, h1, h2, rfl⟩ := mem_drop_get _ _ _ hx
      have := hhi (P.length + h) (by omega) (by omega)
      rw [getD_mid _ _ _ _ (by omega) (by omega), Nat.add_sub_cancel_left] at this
      rw [mrg_cons, if_pos this, mrg_nil]
  simp only [List.nil_append] at hm
  have hdl : (A.drop (i - P.length)).length = P.length + A.length - i := by rw [List.length_drop]; omega
  have e : P ++ (A ++ y :: Q) = (P ++ A.take (i - P.length)) ++ (A.drop (i - P.length) ++ y :: Q) := by
    rw [List.append_assoc, ← List.append_assoc (A.take _), List.take_append_drop]
  rw [hm, hm2, e]
  have hr := rolL_spec y (P.length + A.length - i) (P ++ A.take (i - P.length)) (A.drop (i - P.length)) Q hdl
  rw [show (P ++ A.take (i - P.length)).length + (P.length + A.length - i) = P.length + A.length by rw [List.length_append, List.length_take]; omega] at hr
  rw [hr]
  simp

/-- The symmetric search. -/
theorem sym3_step_lo (o : Swo lt) (P A B Q : List α) (hA : Srt lt A) (hB : Srt lt B) (p c c' : Nat) (hc : P.length ≤ c') (hcc : c' ≤ c) (hcm : c < P.length + A.length)
    (hp1 : P.length + A.length + c ≤ p) (hp2 : p < P.length + A.length + B.length + c')
    (e : lt ((P ++ (A ++ (B ++ Q))).getD (p - c) default) ((P ++ (A ++ (B ++ Q))).getD c default) = false) :
    lt ((P ++ (A ++ (B ++ Q))).getD (p - c') default) ((P ++ (A ++ (B ++ Q))).getD c' default) = false := by
  have g : P ++ (A ++ (B ++ Q)) = (P ++ A) ++ (B ++ Q) := by simp
  have hl : (P ++ A).length = P.length + A.length := by simp
  have a1 := getD_mid P A (B ++ Q) c (by omega) (by omega)
  have a2 := getD_mid P A (B ++ Q) c' (by omega) (by omega)
  have b1 := getD_mid (P ++ A) B Q (p - c) (by omega) (by omega)
  have b2 := getD_mid (P ++ A) B Q (p - c') (by omega) (by omega)
  rw [← g] at b1 b2
  rw [a1, b1] at e
  rw [a2, b2]
  have s1 := srt_get o A hA (c' - P.length) (c - P.length) (by omega) (by omega)
  have s2 := srt_get o B hB (p - c - (P ++ A).length) (p - c' - (P ++ A).length) (by omega) (by omega)
  exact o.ntrans _ _ _ s1 (o.ntrans _ _ _ e s2)
theorem sym3_step_hi (o : Swo lt) (P A B Q : List α) (hA : Srt lt A) (hB : Srt lt B) (p c c' : Nat) (hc : P.length ≤ c') (hcc : c' ≤ c) (hcm : c < P.length + A.length)
    (hp1 : P.length + A.length + c ≤ p) (hp2 : p < P.length + A.length + B.length + c')
    (e : lt ((P ++ (A ++ (B ++ Q))).getD (p - c') default) ((P ++ (A ++ (B ++ Q))).getD c' default) = true) :
    lt ((P ++ (A ++ (B ++ Q))).getD (p - c) default) ((P ++ (A ++ (B ++ Q))).getD c default) = true := by
  cases e' : lt ((P ++ (A ++ (B ++ Q))).getD (p - c) default) ((P ++ (A ++ (B ++ Q))).getD c default) with
  | true => rfl
  | false => rw [sym3_step_lo o P A B Q hA hB p c c' hc hcc hcm hp1 hp2 e'] at e; cases e

/-- What the search's end means: the two halves may be merged each for itself. -/
theorem sym3_fin (o : Swo lt) (P A B Q : List α) (hA : Srt lt A) (hB : Srt lt B) (s e' : Nat) (h1 : P.length ≤ s) (h2 : s ≤ P.length + A.length) (h3 : P.length + A.length ≤ e') (h4 : e' ≤ P.length + A.length + B.length)
    (hlo : s = P.length ∨ e' = P.length + A.length + B.length ∨ lt ((P ++ (A ++ (B ++ Q))).getD e' default) ((P ++ (A ++ (B ++ Q))).getD (s - 1) default) = false)
    (hhi : s = P.length + A.length ∨ e' = P.length + A.length ∨ lt ((P ++ (A ++ (B ++ Q))).getD (e' - 1) default) ((P ++ (A ++ (B ++ Q))).getD s default) = true) :
    mrg lt A B = mrg lt (A.take (s - P.length)) (B.take (e' - (P.length + A.length))) ++ mrg lt (A.drop (s - P.length)) (B.drop (e' - (P.length + A.length))) := by
  have g : P ++ (A ++ (B ++ Q)) = (P ++ A) ++ (B ++ Q) := by simp
  have hl : (P ++ A).length = P.length + A.length := by simp
  have hm := mrg_split lt (A.drop (s - P.length)) (B.drop (e' - (P.length + A.length))) _ (A.take (s - P.length)) (B.take (e' - (P.length + A.length))) rfl ?_ ?_
  · rw [List.take_append_drop, List.take_append_drop] at hm; exact hm
  · intro x hx y hy
    obtain ⟨i, i1, i2, rfl⟩ := mem_take_get _ _ _ hx
    obtain ⟨j, j1, j2, rfl⟩ := mem_drop_get _ _ _ hy
    rcases hlo with h | h | h
    · omega
    · omega
    · have b1 := getD_mid (P ++ A) B Q e' (by omega) (by omega)
      rw [← g] at b1
      rw [b1, getD_mid P A (B ++ Q) (s - 1) (by omega) (by omega)] at h
      have s1 := srt_get o A hA i (s - 1 - P.length) (by omega) (by omega)
      have s2 := srt_get o B hB (e' - (P ++ A).length) j (by omega) j2
      exact o.ntrans _ _ _ s1 (o.ntrans _ _ _ h s2)
  · intro y hy x hx
    obtain ⟨i, i1, i2, rfl⟩ := mem_drop_get _ _ _ hx
    obtain ⟨j, j1, j2, rfl⟩ := mem_take_get _ _ _ hy
    rcases hhi with h | h | h
    · omega
    · omega
    · have b1 := getD_mid (P ++ A) B Q (e' - 1) (by omega) (by omega)
      rw [← g] at b1
      rw [b1, getD_mid P A (B ++ Q) s (by omega) (by omega)] at h
      have s1 := srt_get o A hA (s - P.length) i (by omega) (by omega)
      have s2 := srt_get o B hB j (e' - 1 - (P ++ A).length) (by omega) (by omega)
      exact o.lt_le (o.le_lt s2 h) s1
end
end Go.Proofs.Ytngjfeielpnnnaa.Stable
