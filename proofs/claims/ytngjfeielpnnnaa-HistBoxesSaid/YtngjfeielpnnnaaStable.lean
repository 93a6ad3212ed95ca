/-
  Stable sorting, in plain Lean: insertion, merging, what Go's block insertion sort and symmetric merge come to. No program in sight.
-/
namespace Go.Proofs.Ytngjfeielpnnnaa.Stable
section
variable {α : Type} (lt : α → α → Bool)
theorem set_at (A C : List α) (x y : α) : (A ++ x :: C).set A.length y = A ++ y :: C := by
  induction A with
  | nil => rfl
  | cons a A ih => simp

/-- Insertion from the right, on the reversed list. -/
def insV (x : α) : List α → List α
  | [] => [x]
  | s :: r => if lt x s = true then s :: insV x r else x :: s :: r
def insR (S : List α) (x : α) : List α := (insV lt x S.reverse).reverse
def ssort (l : List α) : List α := l.foldl (insR lt) []

theorem insR_nil (x : α) : insR lt [] x = [x] := rfl
theorem insR_snoc (S : List α) (s x : α) : insR lt (S ++ [s]) x = if lt x s = true then insR lt S x ++ [s] else S ++ [s] ++ [x] := by
  unfold insR
  rw [List.reverse_append]
  show (insV lt x (s :: S.reverse)).reverse = _
  rw [show insV lt x (s :: S.reverse) = if lt x s = true then s :: insV lt x S.reverse else x :: s :: S.reverse from rfl]
  split
  · simp
  · simp
theorem insV_length (x : α) (l : List α) : (insV lt x l).length = l.length + 1 := by
  induction l with
  | nil => rfl
  | cons s r ih => unfold insV; split <;> simp [ih]
theorem insR_length (S : List α) (x : α) : (insR lt S x).length = S.length + 1 := by unfold insR; rw [List.length_reverse, insV_length, List.length_reverse]
theorem foldl_length (l S : List α) : (l.foldl (insR lt) S).length = S.length + l.length := by
  induction l generalizing S with
  | nil => simp
  | cons x l ih => simp only [List.foldl_cons]; rw [ih, insR_length]; simp; omega
theorem ssort_length (l : List α) : (ssort lt l).length = l.length := by unfold ssort; rw [foldl_length]; simp

/-! Merging. -/
def mrg : List α → List α → List α
  | [], b => b
  | x :: a, [] => x :: a
  | x :: a, y :: b => if lt y x = true then y :: mrg (x :: a) b else x :: mrg a (y :: b)
  termination_by a b => a.length + b.length

theorem mrg_nil (a : List α) : mrg lt a [] = a := by cases a <;> simp [mrg]
theorem nil_mrg (b : List α) : mrg lt [] b = b := by simp [mrg]
theorem mrg_cons (x y : α) (a b : List α) : mrg lt (x :: a) (y :: b) = if lt y x = true then y :: mrg lt (x :: a) b else x :: mrg lt a (y :: b) := by rw [mrg]

theorem mrg_split (A2 B2 : List α) : ∀ (n : Nat) (A1 B1 : List α), A1.length + B1.length = n → (∀ x ∈ A1, ∀ y ∈ B2, lt y x = false) → (∀ y ∈ B1, ∀ x ∈ A2, lt y x = true) →
    mrg lt (A1 ++ A2) (B1 ++ B2) = mrg lt A1 B1 ++ mrg lt A2 B2 := by
  intro n
  induction n with
  | zero =>
    intro A1 B1 h _ _
    obtain rfl := List.eq_nil_of_length_eq_zero (show A1.length = 0 by omega)
    obtain rfl := List.eq_nil_of_length_eq_zero (show B1.length = 0 by omega)
    simp [nil_mrg]
  | succ n ih =>
    intro A1 B1 h hA hB
    cases A1 with
    | nil =>
      cases B1 with
      | nil => simp at h
      | cons y B1 =>
        cases A2 with
        | nil => simp [nil_mrg]
        | cons x A2 =>
          have hyx := hB y (by simp) x (by simp)
          show mrg lt (x :: A2) (y :: (B1 ++ B2)) = _
          rw [mrg_cons, if_pos hyx, nil_mrg]
          have := ih [] B1 (by simp at h ⊢; omega) (by simp) (fun y' h' => hB y' (by simp [h']))
          rw [nil_mrg] at this
          simp only [List.nil_append] at this
          rw [this]; rfl
    | cons x A1 =>
      cases B1 with
      | nil =>
        cases B2 with
        | nil => simp [mrg_nil]
        | cons y B2 =>
          have hyx := hA x (by simp) y (by simp)
          show mrg lt (x :: (A1 ++ A2)) (y :: B2) = _
          rw [mrg_cons, if_neg (by rw [hyx]; simp), mrg_nil]
          have := ih A1 [] (by simp at h ⊢; omega) (fun x' h' => hA x' (by simp [h'])) (by simp)
          rw [mrg_nil] at this
          simp only [List.nil_append] at this
          rw [this]; rfl
      | cons y B1 =>
        show mrg lt (x :: (A1 ++ A2)) (y :: (B1 ++ B2)) = _
        rw [mrg_cons, mrg_cons]
        by_cases hyx : lt y x = true
        · rw [if_pos hyx, if_pos hyx]
          have := ih (x :: A1) B1 (by simp at h ⊢; omega) hA (fun y' h' => hB y' (by simp [h']))
          simp only [List.cons_append] at this
          rw [this]; rfl
        · rw [if_neg hyx, if_neg hyx]
          have := ih A1 (y :: B1) (by simp at h ⊢; omega) (fun x' h' => hA x' (by simp [h'])) hB
          simp only [List.cons_append] at this
          rw [this]; rfl

theorem mrg_length : ∀ (n : Nat) (A B : List α), A.length + B.length = n → (mrg lt A B).length = n := by
  intro n
  induction n with
  | zero =>
    intro A B h
    obtain rfl := List.eq_nil_of_length_eq_zero (show A.length = 0 by omega)
    obtain rfl := List.eq_nil_of_length_eq_zero (show B.length = 0 by omega)
    rw [nil_mrg]; rfl
  | succ n ih =>
    intro A B h
    cases A with
    | nil => rw [nil_mrg]; simpa using h
    | cons x A =>
      cases B with
      | nil => rw [mrg_nil]; simpa using h
      | cons y B =>
        rw [mrg_cons]
        split
        · rw [List.length_cons, ih (x :: A) B (by simp at h ⊢; omega)]
        · rw [List.length_cons, ih A (y :: B) (by simp at h ⊢; omega)]

/-- What a strict weak order is asked. -/
structure Swo : Prop where
  asym : ∀ x y, lt x y = true → lt y x = false
  ntrans : ∀ x y z, lt y x = false → lt z y = false → lt z x = false

variable {lt}
theorem Swo.lt_le (h : Swo lt) {x y z : α} (h1 : lt x y = true) (h2 : lt z y = false) : lt x z = true := by
  cases e : lt x z with
  | true => rfl
  | false => have := h.ntrans y z x h2 e; rw [h1] at this; cases this
theorem Swo.le_lt (h : Swo lt) {x y z : α} (h1 : lt y x = false) (h2 : lt y z = true) : lt x z = true := by
  cases e : lt x z with
  | true => rfl
  | false => have := h.ntrans z x y e h1; rw [h2] at this; cases this
theorem Swo.irrefl (h : Swo lt) (x : α) : lt x x = false := by
  cases e : lt x x with
  | false => rfl
  | true => have := h.asym x x e; rw [e] at this; cases this

variable (lt)
def Srt (l : List α) : Prop := l.Pairwise (fun x y => lt y x = false)

variable {lt}
theorem insV_filter (h : Swo lt) (x : α) : ∀ (r : List α), r.Pairwise (fun a b => lt a b = false) →
    insV lt x r = r.filter (fun s => lt x s) ++ x :: r.filter (fun s => !lt x s) := by
  intro r
  induction r with
  | nil => intro _; rfl
  | cons s r ih =>
    intro hp
    rw [List.pairwise_cons] at hp
    unfold insV
    by_cases hs : lt x s = true
    · rw [if_pos hs, ih hp.2]; simp [hs]
    · have hs : lt x s = false := by simpa using hs
      rw [if_neg (by rw [hs]; simp)]
      have hall : ∀ t ∈ r, lt x t = false := fun t ht => by
        cases e : lt x t with
        | false => rfl
        | true => have := h.ntrans t s x (hp.1 t ht) hs; rw [e] at this; cases this
      have f1 : r.filter (fun s => lt x s) = [] := by rw [List.filter_eq_nil_iff]; intro t ht; rw [hall t ht]; simp
      have f2 : r.filter (fun s => !lt x s) = r := by rw [List.filter_eq_self]; intro t ht; rw [hall t ht]; rfl
      simp [hs, f1, f2]
theorem insR_filter (h : Swo lt) (S : List α) (x : α) (hS : Srt lt S) : insR lt S x = S.filter (fun s => !lt x s) ++ x :: S.filter (fun s => lt x s) := by
  unfold insR
  rw [insV_filter h x S.reverse (by rw [List.pairwise_reverse]; exact hS)]
  simp [List.filter_reverse]
theorem insR_srt (h : Swo lt) (S : List α) (x : α) (hS : Srt lt S) : Srt lt (insR lt S x) := by
  rw [insR_filter h S x hS]
  unfold Srt at hS ⊢
  rw [List.pairwise_append]
  refine ⟨hS.filter _, ?_, ?_⟩
  · rw [List.pairwise_cons]
    refine ⟨fun y hy => ?_, hS.filter _⟩
    rw [List.mem_filter] at hy
    exact h.asym x y hy.2
  · intro a ha b hb
    rw [List.mem_filter] at ha
    have hax : lt x a = false := by simpa using ha.2
    rcases List.mem_cons.1 hb with rfl | hb
    · exact hax
    · rw [List.mem_filter] at hb
      exact h.ntrans a x b hax (h.asym x b hb.2)
theorem foldl_srt (h : Swo lt) (l : List α) : ∀ S, Srt lt S → Srt lt (l.foldl (insR lt) S) := by
  induction l with
  | nil => intro S hS; exact hS
  | cons x l ih => intro S hS; exact ih _ (insR_srt h S x hS)
theorem ssort_srt (h : Swo lt) (l : List α) : Srt lt (ssort lt l) := foldl_srt h l [] List.Pairwise.nil

theorem filter_split (h : Swo lt) (S : List α) (x : α) (hS : Srt lt S) : S = S.filter (fun s => !lt x s) ++ S.filter (fun s => lt x s) := by
  induction S with
  | nil => rfl
  | cons s r ih =>
    unfold Srt at hS
    rw [List.pairwise_cons] at hS
    by_cases hs : lt x s = true
    · have hall : ∀ t ∈ r, lt x t = true := fun t ht => h.lt_le hs (hS.1 t ht)
      have f1 : r.filter (fun s => !lt x s) = [] := by rw [List.filter_eq_nil_iff]; intro t ht; rw [hall t ht]; simp
      have f2 : r.filter (fun s => lt x s) = r := by rw [List.filter_eq_self]; intro t ht; exact hall t ht
      simp [hs, f1, f2]
    · have hs : lt x s = false := by simpa using hs
      have := ih hS.2
      simp only [List.filter_cons, hs, Bool.not_false, if_true, List.cons_append, Bool.false_eq_true, if_false]
      rw [← this]

theorem mrg_srt (h : Swo lt) : ∀ (n : Nat) (A B : List α), A.length + B.length = n → Srt lt A → Srt lt B → Srt lt (mrg lt A B) ∧ (∀ z ∈ mrg lt A B, z ∈ A ∨ z ∈ B) := by
  intro n
  induction n with
  | zero =>
    intro A B hn _ _
    obtain rfl := List.eq_nil_of_length_eq_zero (show A.length = 0 by omega)
    obtain rfl := List.eq_nil_of_length_eq_zero (show B.length = 0 by omega)
    exact ⟨by rw [nil_mrg]; exact List.Pairwise.nil, by rw [nil_mrg]; simp⟩
  | succ n ih =>
    intro A B hn hA hB
    cases A with
    | nil => rw [nil_mrg]; exact ⟨hB, fun z hz => .inr hz⟩
    | cons x A =>
      cases B with
      | nil => rw [mrg_nil]; exact ⟨hA, fun z hz => .inl hz⟩
      | cons y B =>
        rw [mrg_cons]
        have hA' := hA; have hB' := hB
        unfold Srt at hA' hB'
        rw [List.pairwise_cons] at hA' hB'
        by_cases hyx : lt y x = true
        · rw [if_pos hyx]
          obtain ⟨i1, i2⟩ := ih (x :: A) B (by simp at hn ⊢; omega) hA hB'.2
          refine ⟨?_, ?_⟩
          · unfold Srt; rw [List.pairwise_cons]
            refine ⟨fun z hz => ?_, i1⟩
            rcases i2 z hz with hz | hz
            · rcases List.mem_cons.1 hz with rfl | hz
              · exact h.asym _ _ hyx
              · exact h.ntrans y x z (h.asym _ _ hyx) (hA'.1 z hz)
            · exact hB'.1 z hz
          · intro z hz
            rcases List.mem_cons.1 hz with rfl | hz
            · right; simp
            · rcases i2 z hz with hz | hz
              · exact .inl hz
              · exact .inr (by simp [hz])
        · have hyx' : lt y x = false := by simpa using hyx
          rw [if_neg hyx]
          obtain ⟨i1, i2⟩ := ih A (y :: B) (by simp at hn ⊢; omega) hA'.2 hB
          refine ⟨?_, ?_⟩
          · unfold Srt; rw [List.pairwise_cons]
            refine ⟨fun z hz => ?_, i1⟩
            rcases i2 z hz with hz | hz
            · exact hA'.1 z hz
            · rcases List.mem_cons.1 hz with rfl | hz
              · exact hyx'
              · exact h.ntrans x y z hyx' (hB'.1 z hz)
          · intro z hz
            rcases List.mem_cons.1 hz with rfl | hz
            · left; simp
            · rcases i2 z hz with hz | hz
              · exact .inl (by simp [hz])
              · exact .inr hz

theorem ins_mrg (h : Swo lt) (A B : List α) (y : α) (hA : Srt lt A) (hB : Srt lt B) : insR lt (mrg lt A B) y = mrg lt A (insR lt B y) := by
  have sA := filter_split h A y hA
  have sB := filter_split h B y hB
  have e1 : mrg lt A B = mrg lt (A.filter (fun s => !lt y s)) (B.filter (fun s => !lt y s)) ++ mrg lt (A.filter (fun s => lt y s)) (B.filter (fun s => lt y s)) := by
    conv => lhs; rw [sA, sB]
    refine mrg_split lt _ _ _ _ _ rfl ?_ ?_
    · intro a ha b hb
      rw [List.mem_filter] at ha hb
      have : lt y a = false := by simpa using ha.2
      exact h.ntrans a y b this (h.asym y b hb.2)
    · intro b hb a ha
      rw [List.mem_filter] at ha hb
      have : lt y b = false := by simpa using hb.2
      exact h.le_lt this ha.2
  have e2 : mrg lt A (insR lt B y) = mrg lt (A.filter (fun s => !lt y s)) (B.filter (fun s => !lt y s) ++ [y]) ++ mrg lt (A.filter (fun s => lt y s)) (B.filter (fun s => lt y s)) := by
    rw [insR_filter h B y hB]
    conv => lhs; rw [sA]
    have e : B.filter (fun s => !lt y s) ++ y :: B.filter (fun s => lt y s) = (B.filter (fun s => !lt y s) ++ [y]) ++ B.filter (fun s => lt y s) := by simp
    rw [e]
    refine mrg_split lt _ _ _ _ _ rfl ?_ ?_
    · intro a ha b hb
      rw [List.mem_filter] at ha hb
      have : lt y a = false := by simpa using ha.2
      exact h.ntrans a y b this (h.asym y b hb.2)
    · intro b hb a ha
      rw [List.mem_filter] at ha
      rcases List.mem_append.1 hb with hb | hb
      · rw [List.mem_filter] at hb
        have : lt y b = false := by simpa using hb.2
        exact h.le_lt this ha.2
      · obtain rfl : b = y := by simpa using hb
        exact ha.2
  have e3 : mrg lt (A.filter (fun s => !lt y s)) (B.filter (fun s => !lt y s) ++ [y]) = mrg lt (A.filter (fun s => !lt y s)) (B.filter (fun s => !lt y s)) ++ [y] := by
    have := mrg_split lt [] [y] _ (A.filter (fun s => !lt y s)) (B.filter (fun s => !lt y s)) rfl
      (by intro a ha b hb; obtain rfl : b = y := by simpa using hb
          rw [List.mem_filter] at ha; simpa using ha.2) (by simp)
    rw [nil_mrg, List.append_nil] at this
    exact this
  have hM := (mrg_srt h _ A B rfl hA hB).1
  rw [insR_filter h _ y hM, e2, e3, e1]
  have hlo : ∀ z ∈ mrg lt (A.filter (fun s => !lt y s)) (B.filter (fun s => !lt y s)), lt y z = false := by
    intro z hz
    rcases (mrg_srt h _ _ _ rfl (hA.filter _) (hB.filter _)).2 z hz with hz | hz <;> · rw [List.mem_filter] at hz; simpa using hz.2
  have hhi : ∀ z ∈ mrg lt (A.filter (fun s => lt y s)) (B.filter (fun s => lt y s)), lt y z = true := by
    intro z hz
    rcases (mrg_srt h _ _ _ rfl (hA.filter _) (hB.filter _)).2 z hz with hz | hz <;> · rw [List.mem_filter] at hz; exact hz.2
  generalize mrg lt (A.filter (fun s => !lt y s)) (B.filter (fun s => !lt y s)) = U at hlo ⊢
  generalize mrg lt (A.filter (fun s => lt y s)) (B.filter (fun s => lt y s)) = V at hhi ⊢
  have f1 : U.filter (fun s => !lt y s) = U := by rw [List.filter_eq_self]; intro t ht; rw [hlo t ht]; rfl
  have f2 : V.filter (fun s => !lt y s) = [] := by rw [List.filter_eq_nil_iff]; intro t ht; rw [hhi t ht]; simp
  have f3 : U.filter (fun s => lt y s) = [] := by rw [List.filter_eq_nil_iff]; intro t ht; rw [hlo t ht]; simp
  have f4 : V.filter (fun s => lt y s) = V := by rw [List.filter_eq_self]; intro t ht; exact hhi t ht
  rw [List.filter_append, List.filter_append, f1, f2, f3, f4]
  simp

theorem foldl_mrg (h : Swo lt) (A : List α) (hA : Srt lt A) : ∀ (Y B : List α), Srt lt B → Y.foldl (insR lt) (mrg lt A B) = mrg lt A (Y.foldl (insR lt) B) := by
  intro Y
  induction Y with
  | nil => intro B _; rfl
  | cons y Y ih => intro B hB; rw [List.foldl_cons, List.foldl_cons, ins_mrg h A B y hA hB]; exact ih _ (insR_srt h B y hB)
/-- Sorting two pieces and merging them is sorting the whole. -/
theorem ssort_append (h : Swo lt) (X Y : List α) : ssort lt (X ++ Y) = mrg lt (ssort lt X) (ssort lt Y) := by
  unfold ssort
  rw [List.foldl_append]
  have := foldl_mrg h (X.foldl (insR lt) []) (ssort_srt h X) Y [] List.Pairwise.nil
  rw [mrg_nil] at this
  exact this

end
section
variable {α : Type} [Inhabited α]
def swp (l : List α) (i j : Nat) : List α := (l.set i (l.getD j default)).set j (l.getD i default)
theorem swp_length (l : List α) (i j : Nat) : (swp l i j).length = l.length := by simp [swp]

theorem getD_at (A C : List α) (x : α) : (A ++ x :: C).getD A.length default = x := by simp [List.getD]
theorem swp_at (A B C : List α) (x y : α) (i j : Nat) (hi : i = A.length) (hj : j = A.length + B.length + 1) :
    swp (A ++ x :: (B ++ y :: C)) i j = A ++ y :: (B ++ x :: C) := by
  subst hi hj
  have e : A ++ x :: (B ++ y :: C) = (A ++ x :: B) ++ y :: C := by simp
  have h1 : (A ++ x :: (B ++ y :: C)).getD (A.length + B.length + 1) default = y := by
    rw [e, show A.length + B.length + 1 = (A ++ x :: B).length by simp; omega]; exact getD_at _ _ _
  unfold swp
  rw [h1, getD_at, set_at]
  have e2 : A ++ y :: (B ++ y :: C) = (A ++ y :: B) ++ y :: C := by simp
  rw [e2, show A.length + B.length + 1 = (A ++ y :: B).length by simp; omega, set_at]
  simp
theorem swp_at' (A B C : List α) (x y : α) (i j : Nat) (hi : i = A.length) (hj : j = A.length + B.length + 1) :
    swp (A ++ x :: (B ++ y :: C)) j i = A ++ y :: (B ++ x :: C) := by
  have hne : i ≠ j := by omega
  have : swp (A ++ x :: (B ++ y :: C)) j i = swp (A ++ x :: (B ++ y :: C)) i j := by
    unfold swp
    rw [List.set_comm _ _ (by omega)]
  rw [this]; exact swp_at A B C x y i j hi hj

variable (lt : α → α → Bool)
/-! Go's insertion sort. -/
def insInner (a : Nat) : Nat → List α → List α
  | 0, m => m
  | j + 1, m => if a < j + 1 ∧ lt (m.getD (j + 1) default) (m.getD j default) = true then insInner a j (swp m (j + 1) j) else m
def insOuter (a : Nat) : Nat → Nat → List α → List α
  | 0, _, l => l
  | n + 1, i, l => insOuter a n (i + 1) (insInner lt a i l)
def insSort (a b : Nat) (l : List α) : List α := insOuter lt a (b - (a + 1)) (a + 1) l

theorem insInner_length (a j : Nat) (m : List α) : (insInner lt a j m).length = m.length := by
  induction j generalizing m with
  | zero => rfl
  | succ j ih => unfold insInner; split
                 · rw [ih, swp_length]
                 · rfl
theorem insInner_spec (P : List α) (x : α) : ∀ (n : Nat) (S Q : List α) (j : Nat), S.length = n → j = P.length + S.length →
    insInner lt P.length j (P ++ (S ++ x :: Q)) = P ++ (insR lt S x ++ Q) := by
  intro n
  induction n with
  | zero =>
    intro S Q j hn hj
    obtain rfl := List.eq_nil_of_length_eq_zero hn
    rw [insR_nil]
    subst hj
    show insInner lt P.length (P.length + 0) _ = _
    cases hP : P.length + 0 with
    | zero => rfl
    | succ k => unfold insInner; rw [if_neg (by omega)]; simp
  | succ n ih =>
    intro S Q j hn hj
    have hne : S ≠ [] := by intro e; subst e; simp at hn
    obtain ⟨S', s, rfl⟩ : ∃ S' s, S = S' ++ [s] := ⟨_, _, (List.dropLast_concat_getLast hne).symm⟩
    have hS' : S'.length = n := by simpa using hn
    rw [insR_snoc]
    obtain ⟨jp, rfl⟩ : ∃ q, j = q + 1 := ⟨P.length + n, by simp at hj; omega⟩
    have hjp : jp = (P ++ S').length := by simp at hj ⊢; omega
    have e : P ++ ((S' ++ [s]) ++ x :: Q) = (P ++ S') ++ s :: ([] ++ x :: Q) := by simp
    have g1 : (P ++ ((S' ++ [s]) ++ x :: Q)).getD jp default = s := by rw [e, hjp]; exact getD_at _ _ _
    have g2 : (P ++ ((S' ++ [s]) ++ x :: Q)).getD (jp + 1) default = x := by
      have e' : P ++ ((S' ++ [s]) ++ x :: Q) = (P ++ S' ++ [s]) ++ x :: Q := by simp
      rw [e', show jp + 1 = (P ++ S' ++ [s]).length by rw [List.length_append, hjp]; simp]; exact getD_at _ _ _
    unfold insInner
    rw [g1, g2]
    by_cases h : lt x s = true
    · rw [if_pos ⟨by rw [hjp]; simp; omega, h⟩, if_pos h, e, swp_at' (P ++ S') [] Q s x jp (jp + 1) hjp (by rw [hjp]; simp)]
      have e3 : (P ++ S') ++ x :: ([] ++ s :: Q) = P ++ (S' ++ x :: (s :: Q)) := by simp
      rw [e3, ih S' (s :: Q) jp hS' (by rw [hjp]; simp)]
      simp
    · rw [if_neg (by intro hh; exact h hh.2), if_neg h]; simp

theorem insOuter_spec (P : List α) : ∀ (T S Q : List α) (n i : Nat), n = T.length → i = P.length + S.length →
    insOuter lt P.length n i (P ++ (S ++ (T ++ Q))) = P ++ (T.foldl (insR lt) S ++ Q) := by
  intro T
  induction T with
  | nil => intro S Q n i hn hi; subst hn; rfl
  | cons x T ih =>
    intro S Q n i hn hi
    subst hn
    show insOuter lt P.length T.length (i + 1) (insInner lt P.length i (P ++ (S ++ x :: (T ++ Q)))) = _
    rw [insInner_spec lt P x S.length S (T ++ Q) i rfl hi, ih (insR lt S x) Q T.length (i + 1) rfl (by rw [insR_length]; omega)]
    rfl

theorem insSort_spec (P X Q : List α) (a b : Nat) (ha : a = P.length) (hb : b = P.length + X.length) : insSort lt a b (P ++ (X ++ Q)) = P ++ (ssort lt X ++ Q) := by
  subst ha hb
  unfold insSort
  cases X with
  | nil => simp [insOuter, ssort]
  | cons x T =>
    have e : P ++ ((x :: T) ++ Q) = P ++ ([x] ++ (T ++ Q)) := by simp
    rw [e, insOuter_spec lt P T [x] Q _ _ (by simp; omega) (by simp)]
    rfl

/-! Rotations by exchanges. -/
def rolR (l : List α) (a : Nat) : Nat → List α
  | 0 => l
  | n + 1 => swp (rolR l a n) (a + n) (a + n + 1)
def rolL (l : List α) (m : Nat) : Nat → List α
  | 0 => l
  | n + 1 => swp (rolL l m n) (m - n) (m - n - 1)
def swpN (l : List α) (a b : Nat) : Nat → List α
  | 0 => l
  | n + 1 => swp (swpN l a b n) (a + n) (b + n)
theorem rolR_length (l : List α) (a n : Nat) : (rolR l a n).length = l.length := by induction n with
  | zero => rfl
  | succ n ih => rw [rolR, swp_length, ih]
theorem rolL_length (l : List α) (a n : Nat) : (rolL l a n).length = l.length := by induction n with
  | zero => rfl
  | succ n ih => rw [rolL, swp_length, ih]
theorem swpN_length (l : List α) (a b n : Nat) : (swpN l a b n).length = l.length := by induction n with
  | zero => rfl
  | succ n ih => rw [swpN, swp_length, ih]
theorem rolR_spec (P : List α) (x : α) : ∀ (n : Nat) (B1 R : List α), B1.length = n → rolR (P ++ x :: (B1 ++ R)) P.length n = P ++ (B1 ++ x :: R) := by
  intro n
  induction n with
  | zero => intro B1 R h; obtain rfl := List.eq_nil_of_length_eq_zero h; rfl
  | succ n ih =>
    intro B1 R h
    have hne : B1 ≠ [] := by intro e; subst e; simp at h
    obtain ⟨S', s, rfl⟩ : ∃ S' s, B1 = S' ++ [s] := ⟨_, _, (List.dropLast_concat_getLast hne).symm⟩
    have e : P ++ x :: ((S' ++ [s]) ++ R) = P ++ x :: (S' ++ (s :: R)) := by simp
    rw [rolR, e, ih S' (s :: R) (by simpa using h)]
    have e2 : P ++ (S' ++ x :: (s :: R)) = (P ++ S') ++ x :: ([] ++ s :: R) := by simp
    have hl : S'.length = n := by simpa using h
    rw [e2, swp_at (P ++ S') [] R x s _ _ (by simp [hl]) (by simp [hl])]
    simp
theorem rolL_spec (y : α) : ∀ (n : Nat) (P B1 R : List α), B1.length = n → rolL (P ++ (B1 ++ y :: R)) (P.length + n) n = P ++ y :: (B1 ++ R) := by
  intro n
  induction n with
  | zero => intro P B1 R h; obtain rfl := List.eq_nil_of_length_eq_zero h; rfl
  | succ n ih =>
    intro P B1 R h
    cases B1 with
    | nil => simp at h
    | cons s S' =>
      have hl : S'.length = n := by simpa using h
      have e : P ++ ((s :: S') ++ y :: R) = (P ++ [s]) ++ (S' ++ y :: R) := by simp
      have e1 : P.length + (n + 1) = (P ++ [s]).length + n := by simp; omega
      rw [rolL, e, e1, ih (P ++ [s]) S' R hl]
      have e2 : (P ++ [s]) ++ y :: (S' ++ R) = P ++ s :: ([] ++ y :: (S' ++ R)) := by simp
      rw [e2, swp_at' P [] (S' ++ R) s y _ _ (by simp) (by simp)]
      simp
theorem swpN_spec (X Y : List α) : ∀ (n : Nat) (A B Z Z' : List α), A.length = n → B.length = n →
    swpN (X ++ (A ++ (Z' ++ (Y ++ (B ++ Z))))) X.length (X.length + n + Z'.length + Y.length) n = X ++ (B ++ (Z' ++ (Y ++ (A ++ Z)))) := by
  intro n
  induction n with
  | zero =>
    intro A B Z Z' hA hB
    obtain rfl := List.eq_nil_of_length_eq_zero hA
    obtain rfl := List.eq_nil_of_length_eq_zero hB
    rfl
  | succ n ih =>
    intro A B Z Z' hA hB
    have hne : A ≠ [] := by intro e; subst e; simp at hA
    have hne' : B ≠ [] := by intro e; subst e; simp at hB
    obtain ⟨A', a, rfl⟩ : ∃ S' s, A = S' ++ [s] := ⟨_, _, (List.dropLast_concat_getLast hne).symm⟩
    obtain ⟨B', b, rfl⟩ : ∃ S' s, B = S' ++ [s] := ⟨_, _, (List.dropLast_concat_getLast hne').symm⟩
    have hA' : A'.length = n := by simpa using hA
    have hB' : B'.length = n := by simpa using hB
    have e : X ++ ((A' ++ [a]) ++ (Z' ++ (Y ++ ((B' ++ [b]) ++ Z)))) = X ++ (A' ++ ((a :: Z') ++ (Y ++ (B' ++ (b :: Z))))) := by simp
    have e1 : X.length + (n + 1) + Z'.length + Y.length = X.length + n + (a :: Z').length + Y.length := by simp; omega
    rw [swpN, e, e1, ih A' B' (b :: Z) (a :: Z') hA' hB']
    have e2 : X ++ (B' ++ ((a :: Z') ++ (Y ++ (A' ++ (b :: Z))))) = (X ++ B') ++ a :: ((Z' ++ (Y ++ A')) ++ b :: Z) := by simp
    rw [e2, swp_at (X ++ B') (Z' ++ (Y ++ A')) Z a b _ _ (by simp [hB']) (by simp [hA', hB']; omega)]
    simp
end
end Go.Proofs.Ytngjfeielpnnnaa.Stable
