/-
  Inv
-/
import Derived.Orders
import Derived.Test.YtpehmadeklaebaaRows
namespace Go.Proofs.Ytpehmadeklaebaa
open Go
set_option linter.unusedVariables false

section
variable {P : Program} {ops : Array Oper} {Q : Exit → Act → World → Prop} {md : Region.Mode}

/-- How many of the operations have not come up. -/
def unl (n : Nat) (listed : Array Bool) : Nat := ((List.range n).filter fun i => !listed.getD i true).length

theorem unl_set_aux (listed : Array Bool) (i : Nat) (hi : listed.getD i true = false) :
    ∀ (l : List Nat), i ∈ l → (l.filter fun j => !(listed.setIfInBounds i true).getD j true).length < (l.filter fun j => !listed.getD j true).length := by
  have hlt : i < listed.size := by
    rcases Nat.lt_or_ge i listed.size with h' | h'
    · exact h'
    · simp [Array.getElem?_eq_none h'] at hi
  have hself : (listed.setIfInBounds i true).getD i true = true := by simp [hlt]
  have hle : ∀ (l : List Nat), (l.filter fun j => !(listed.setIfInBounds i true).getD j true).length ≤ (l.filter fun j => !listed.getD j true).length := by
    intro l
    induction l with
    | nil => simp
    | cons x xs ih =>
      by_cases hx : i = x
      · subst hx
        rw [List.filter_cons, List.filter_cons, hself, hi]
        simp only [Bool.not_true, Bool.not_false, if_true, List.length_cons]
        simp only [Bool.false_eq_true, if_false]
        omega
      · rw [List.filter_cons, List.filter_cons, getD_set_ne true hx]
        split
        · simp only [List.length_cons]; omega
        · exact ih
  intro l
  induction l with
  | nil => intro h; cases h
  | cons x xs ih =>
    intro h
    by_cases hx : i = x
    · subst hx
      have := hle xs
      rw [List.filter_cons, List.filter_cons, hself, hi]
      simp only [Bool.not_true, Bool.not_false, if_true, List.length_cons]
      simp only [Bool.false_eq_true, if_false]
      omega
    · have hm : i ∈ xs := by rcases List.mem_cons.1 h with e | e; exact absurd e hx; exact e
      have := ih hm
      rw [List.filter_cons, List.filter_cons, getD_set_ne true hx]
      split
      · simp only [List.length_cons]; omega
      · exact this

theorem unl_set {listed : Array Bool} {i : Nat} (h : i ∈ Region.ready md ops listed) :
    unl ops.size (listed.setIfInBounds i true) < unl ops.size listed := by
  obtain ⟨h0, o, ho, _⟩ := mem_ready.1 h
  exact unl_set_aux listed i h0 _ (List.mem_range.2 (Array.getElem?_eq_some_iff.1 ho).1)

theorem unl_zero {listed : Array Bool} (h : unl ops.size listed = 0) : Region.ready md ops listed = [] := by
  cases hr : Region.ready md ops listed with
  | nil => rfl
  | cons x xs =>
    have := unl_set (md := md) (ops := ops) (listed := listed) (i := x) (by rw [hr]; exact List.mem_cons_self)
    omega

/-- The rule: what every operation that may come up keeps, holds at the end, whatever order is picked. -/
theorem wpAny_inv (J : Array Bool → Act → World → Prop)
    (hstep : ∀ listed a w i, J listed a w → i ∈ Region.ready md ops listed → wpOp P ops Q i (J (listed.setIfInBounds i true)) a w)
    (hend : ∀ listed a w, J listed a w → Region.ready md ops listed = [] → Q .normal a w) :
    ∀ (fuel : Nat) (listed : Array Bool) (a : Act) (w : World), unl ops.size listed ≤ fuel → J listed a w → wpAny P md ops Q fuel listed a w := by
  intro fuel
  induction fuel with
  | zero =>
    intro listed a w hu hJ
    have hr : Region.ready md ops listed = [] := unl_zero (by omega)
    exact ⟨hr, hend listed a w hJ hr⟩
  | succ fuel ih =>
    intro listed a w hu hJ
    refine ⟨hend listed a w hJ, fun i hi => ?_⟩
    have hlt := unl_set hi
    exact wpOp_mono (fun a' w' h' => ih _ a' w' (by omega) h') (hstep listed a w i hJ hi)

/-- The act of a region on its way: the slots of the operations that have come up hold what they should, the others what they held. -/
def Held (ops : Array Oper) (a₀ : Act) (G : Nat → Value → World → Prop) (R : World → World → Prop) (w₀ : World) (listed : Array Bool) (a : Act) (w : World) : Prop :=
  listed.size = ops.size ∧ R w₀ w ∧ a.defers = a₀.defers ∧ a.tmps.size = a₀.tmps.size ∧
  (∀ (t : Nat), (∀ (i : Nat) (o : Oper), ops[i]? = some o → o.dst ≠ some t) → a.tmps[t]? = a₀.tmps[t]?) ∧
  ∀ (i : Nat) o d, ops[i]? = some o → o.dst = some d → listed.getD i false = true → ∃ v, a.tmps[d]? = some v ∧ G i v w

theorem getD_set_or {listed : Array Bool} {i j : Nat} (h : (listed.setIfInBounds i true).getD j false = true) : i = j ∨ listed.getD j false = true := by
  by_cases hij : i = j
  · exact .inl hij
  · rw [getD_set_ne false hij] at h; exact .inr h

/-- One operation of such a region. -/
theorem Held.put {a₀ : Act} {G : Nat → Value → World → Prop} {R : World → World → Prop} {w₀ : World} {listed : Array Bool} {a : Act} {w w' : World}
    {i : Nat} {o : Oper} {v : Value} (h : Held ops a₀ G R w₀ listed a w) (ho : ops[i]? = some o)
    (hR : ∀ w₁ w₂ w₃, R w₁ w₂ → R w₂ w₃ → R w₁ w₃) (hG : ∀ j v w₁ w₂, R w₁ w₂ → G j v w₁ → G j v w₂)
    (hd : ∀ (j k : Nat) p q d, ops[j]? = some p → ops[k]? = some q → p.dst = some d → q.dst = some d → j = k)
    (hin : ∀ d, o.dst = some d → d < a₀.tmps.size)
    (hw : R w w') (hv : G i v w') : Held ops a₀ G R w₀ (listed.setIfInBounds i true) (a.put o.dst v) w' := by
  obtain ⟨h1, h2, h3, h4, h5, h6⟩ := h
  refine ⟨by simpa using h1, hR _ _ _ h2 hw, ?_, ?_, ?_, ?_⟩
  · cases ho' : o.dst <;> exact h3
  · cases ho' : o.dst
    · exact h4
    · simpa [Act.put] using h4
  · intro t ht
    rw [← h5 t ht]
    cases ho' : o.dst with
    | none => rfl
    | some d =>
      have : d ≠ t := fun e => ht i o ho (by rw [ho', e])
      simp [Act.put, Array.getElem?_setIfInBounds_ne this]
  · intro j p d hp hpd hl
    rcases getD_set_or hl with e | e
    · subst e
      rw [ho] at hp
      cases hp
      refine ⟨v, ?_, hv⟩
      have := hin d hpd
      simp [Act.put, hpd, h4, this]
    · by_cases hij : i = j
      · subst hij
        rw [ho] at hp
        cases hp
        refine ⟨v, ?_, hv⟩
        have := hin d hpd
        simp [Act.put, hpd, h4, this]
      · obtain ⟨u, hu, hg⟩ := h6 j p d hp hpd e
        refine ⟨u, ?_, hG _ _ _ _ hw hg⟩
        rw [← hu]
        cases ho' : o.dst with
        | none => rfl
        | some b =>
          have : b ≠ d := fun e => hij (hd i j o p d ho hp (by rw [ho', e]) hpd)
          simp [Act.put, Array.getElem?_setIfInBounds_ne this]

end
end Go.Proofs.Ytpehmadeklaebaa
