/-
  Ord
-/
import Derived.Test.YtpehmadeklaebaaRows
namespace Go.Proofs.Ytpehmadeklaebaa
set_option linter.unusedVariables false

/-- A strict order that tells any two things apart. -/
structure STO {α : Type} (lt : α → α → Bool) : Prop where
  irrefl : ∀ a, lt a a = false
  trans : ∀ a b c, lt a b = true → lt b c = true → lt a c = true
  total : ∀ a b, lt a b = false → lt b a = false → a = b
section
variable {α : Type} {lt : α → α → Bool}
theorem STO.asymm (h : STO lt) {a b : α} (g : lt a b = true) : lt b a = false := by
  cases e : lt b a with
  | false => rfl
  | true => have := h.trans a b a g e; rw [h.irrefl] at this; cases this
def Inc (lt : α → α → Bool) (l : List α) : Prop := l.Pairwise (fun a b => lt a b = true)
theorem inc_unique (h : STO lt) : ∀ (l m : List α), Inc lt l → Inc lt m → (∀ x, x ∈ l ↔ x ∈ m) → l = m := by
  intro l
  induction l with
  | nil =>
    intro m _ _ e
    cases m with
    | nil => rfl
    | cons y m => have := (e y).2 (by simp); simp at this
  | cons x l ih =>
    intro m hl hm e
    cases m with
    | nil => have := (e x).1 (by simp); simp at this
    | cons y m =>
      have hl' := List.pairwise_cons.1 hl
      have hm' := List.pairwise_cons.1 hm
      have hxy : x = y := by
        have h1 := (e x).1 (by simp)
        have h2 := (e y).2 (by simp)
        rcases List.mem_cons.1 h1 with g | g
        · exact g
        · rcases List.mem_cons.1 h2 with g2 | g2
          · exact g2.symm
          · have a1 := hm'.1 x g
            have a2 := hl'.1 y g2
            have := h.asymm a1; rw [a2] at this; cases this
      subst hxy
      congr 1
      refine ih m hl'.2 hm'.2 (fun z => ?_)
      constructor
      · intro hz
        rcases List.mem_cons.1 ((e z).1 (by simp [hz])) with g | g
        · subst g; have := hl'.1 z hz; rw [h.irrefl] at this; cases this
        · exact g
      · intro hz
        rcases List.mem_cons.1 ((e z).2 (by simp [hz])) with g | g
        · subst g; have := hm'.1 z hz; rw [h.irrefl] at this; cases this
        · exact g

variable [DecidableEq α]
/-- One more thing, where it belongs. -/
def insK (lt : α → α → Bool) (l : List α) (d : α) : List α := if d ∈ l then l else l.takeWhile (fun x => lt x d) ++ d :: l.dropWhile (fun x => lt x d)
def sortK (lt : α → α → Bool) (l : List α) : List α := l.foldl (insK lt) []
theorem insK_mem (l : List α) (d x : α) : x ∈ insK lt l d ↔ x ∈ l ∨ x = d := by
  unfold insK
  split
  · rename_i hd
    constructor
    · exact .inl
    · rintro (h | h)
      · exact h
      · exact h ▸ hd
  · rw [List.mem_append, List.mem_cons]
    conv => rhs; rw [← List.takeWhile_append_dropWhile (p := fun x => lt x d) (l := l), List.mem_append]
    constructor
    · rintro (h | h | h)
      · exact .inl (.inl h)
      · exact .inr h
      · exact .inl (.inr h)
    · rintro ((h | h) | h)
      · exact .inl h
      · exact .inr (.inr h)
      · exact .inr (.inl h)
omit [DecidableEq α] in
theorem dropWhile_head (p : α → Bool) : ∀ (l : List α) (x : α) (r : List α), l.dropWhile p = x :: r → p x = false := by
  intro l
  induction l with
  | nil => intro x r h; cases h
  | cons y l ih =>
    intro x r h
    rw [List.dropWhile_cons] at h
    split at h
    · exact ih x r h
    · rename_i g; injection h with h1 h2; subst h1; simpa using g
theorem insK_inc (h : STO lt) (l : List α) (d : α) (hl : Inc lt l) : Inc lt (insK lt l d) := by
  unfold insK
  split
  · exact hl
  · rename_i hd
    have he := List.takeWhile_append_dropWhile (p := fun x => lt x d) (l := l)
    have hl2 := hl
    unfold Inc at hl2
    rw [← he, List.pairwise_append] at hl2
    obtain ⟨h1, h2, h3⟩ := hl2
    have hall : ∀ y ∈ l.dropWhile (fun x => lt x d), lt d y = true := by
      cases hdw : l.dropWhile (fun x => lt x d) with
      | nil => intro y hy; cases hy
      | cons z r =>
        have hz := dropWhile_head _ _ _ _ hdw
        have hzl : z ∈ l := by rw [← he, hdw]; simp
        have hdz : lt d z = true := by
          cases e : lt d z with
          | true => rfl
          | false => exact absurd (h.total _ _ hz e ▸ hzl) hd
        intro y hy
        rcases List.mem_cons.1 hy with g | g
        · subst g; exact hdz
        · rw [hdw] at h2
          exact h.trans _ _ _ hdz ((List.pairwise_cons.1 h2).1 y g)
    refine List.pairwise_append.2 ⟨h1, List.pairwise_cons.2 ⟨hall, h2⟩, ?_⟩
    intro a ha b hb
    have had : lt a d = true := by
      have := List.all_takeWhile (p := fun x => lt x d) (l := l)
      exact List.all_eq_true.1 this a ha
    rcases List.mem_cons.1 hb with g | g
    · subst g; exact had
    · exact h3 a ha b g
theorem sortK_snoc (l : List α) (d : α) : sortK lt (l ++ [d]) = insK lt (sortK lt l) d := by unfold sortK; rw [List.foldl_append]; rfl
theorem sortK_facts (h : STO lt) (l : List α) : Inc lt (sortK lt l) ∧ ∀ x, x ∈ sortK lt l ↔ x ∈ l := by
  have key : ∀ (l acc : List α), Inc lt acc → Inc lt (l.foldl (insK lt) acc) ∧ ∀ x, x ∈ l.foldl (insK lt) acc ↔ x ∈ acc ∨ x ∈ l := by
    intro l
    induction l with
    | nil => intro acc ha; exact ⟨ha, fun x => by simp⟩
    | cons d l ih =>
      intro acc ha
      obtain ⟨h1, h2⟩ := ih (insK lt acc d) (insK_inc h acc d ha)
      refine ⟨h1, fun x => ?_⟩
      rw [List.foldl_cons, h2, insK_mem, List.mem_cons, or_assoc]
  obtain ⟨h1, h2⟩ := key l [] List.Pairwise.nil
  exact ⟨h1, fun x => by
    have := h2 x
    show x ∈ l.foldl (insK lt) [] ↔ _
    rw [this]; simp⟩
theorem sortK_length_le (l : List α) : (sortK lt l).length ≤ l.length := by
  have key : ∀ (l acc : List α), (l.foldl (insK lt) acc).length ≤ acc.length + l.length := by
    intro l
    induction l with
    | nil => intro acc; simp
    | cons d l ih =>
      intro acc
      have := ih (insK lt acc d)
      have h2 : (insK lt acc d).length ≤ acc.length + 1 := by
        unfold insK
        split
        · omega
        · have he := congrArg List.length (List.takeWhile_append_dropWhile (p := fun x => lt x d) (l := acc))
          rw [List.length_append] at he
          simp only [List.length_append, List.length_cons]; omega
      simp only [List.foldl_cons, List.length_cons]; omega
  have := key l []
  simpa [sortK] using this

/-- What stands side by side but once. -/
def cpush (acc : List α) (x : α) : List α := if acc.getLast? = some x then acc else acc ++ [x]
def compact (l : List α) : List α := l.foldl cpush []
theorem compact_snoc (l : List α) (x : α) : compact (l ++ [x]) = cpush (compact l) x := by unfold compact; rw [List.foldl_append]; rfl
omit [DecidableEq α] in
theorem snoc_cases (l : List α) : l = [] ∨ ∃ m x, l = m ++ [x] := by
  rcases Nat.eq_zero_or_pos l.length with h | h
  · exact .inl (List.eq_nil_of_length_eq_zero h)
  · have hne : l ≠ [] := by intro e; subst e; simp at h
    exact .inr ⟨l.dropLast, l.getLast hne, (List.dropLast_concat_getLast hne).symm⟩
theorem compact_last (l : List α) : (compact l).getLast? = l.getLast? := by
  rcases snoc_cases l with rfl | ⟨m, x, rfl⟩
  · rfl
  · rw [compact_snoc]
    unfold cpush
    split
    · rename_i h; rw [h]; simp
    · simp
theorem compact_mem : ∀ (n : Nat) (l : List α), l.length = n → ∀ x, x ∈ compact l ↔ x ∈ l := by
  intro n
  induction n with
  | zero => intro l h x; obtain rfl := List.eq_nil_of_length_eq_zero h; simp [compact]
  | succ n ih =>
    intro l h x
    rcases snoc_cases l with rfl | ⟨m, y, rfl⟩
    · simp at h
    · have := ih m (by simpa using h) x
      rw [compact_snoc]; unfold cpush
      split
      · rename_i g
        rw [this, List.mem_append]
        constructor
        · exact .inl
        · rintro (a | a)
          · exact a
          · obtain rfl : x = y := by simpa using a
            rw [compact_last] at g
            exact List.mem_of_getLast? g
      · rw [List.mem_append, List.mem_append, this]
theorem compact_inc (h : STO lt) : ∀ (n : Nat) (l : List α), l.length = n → l.Pairwise (fun a b => lt b a = false) → Inc lt (compact l) := by
  intro n
  induction n with
  | zero => intro l hn _; obtain rfl := List.eq_nil_of_length_eq_zero hn; exact List.Pairwise.nil
  | succ n ih =>
    intro l hn hp
    rcases snoc_cases l with rfl | ⟨m, y, rfl⟩
    · simp at hn
    · obtain ⟨p1, _, p3⟩ := List.pairwise_append.1 hp
      have hi := ih m (by simpa using hn) p1
      rw [compact_snoc]; unfold cpush
      split
      · exact hi
      · rename_i g
        refine List.pairwise_append.2 ⟨hi, List.pairwise_singleton _ _, ?_⟩
        intro a ha b hb
        obtain rfl : b = y := by simpa using hb
        have ham : a ∈ m := (compact_mem _ m rfl a).1 ha
        have hle := p3 a ham b (by simp)
        cases e : lt a b with
        | true => rfl
        | false =>
          have hab : a = b := h.total _ _ e hle
          subst hab
          rw [compact_last] at g
          rcases snoc_cases m with rfl | ⟨m2, z, rfl⟩
          · cases ham
          · have hz : z ≠ a := by intro hz; subst hz; simp at g
            have hzm : lt a z = false := p3 z (by simp) a (by simp)
            rcases List.mem_append.1 ham with q | q
            · have haz : lt z a = false := (List.pairwise_append.1 p1).2.2 a q z (by simp)
              exact absurd (h.total _ _ haz hzm) hz
            · exact absurd (Eq.symm (by simpa using q)) hz
theorem compact_sortK (h : STO lt) (l s : List α) (hp : s.Perm l) (hs : s.Pairwise (fun a b => lt b a = false)) : compact s = sortK lt l := by
  have h1 := compact_inc h _ s rfl hs
  have h2 := sortK_facts h l
  refine inc_unique h _ _ h1 h2.1 (fun x => ?_)
  rw [compact_mem _ s rfl, h2.2, hp.mem_iff]
end
end Go.Proofs.Ytpehmadeklaebaa
