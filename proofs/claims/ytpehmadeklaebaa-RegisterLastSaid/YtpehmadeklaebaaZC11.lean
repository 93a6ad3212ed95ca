/-
  C11
-/
import Derived.Test.YtpehmadeklaebaaZC8
namespace Go.Proofs.Ytpehmadeklaebaa
open Go Go.RowKit
set_option linter.unusedVariables false
set_option linter.unusedSimpArgs false

section
variable {P : Program} {C : Cx} {Q : Exit → AS → Prop} {s : AS}

theorem aw_drawB {id : Nat} {ops : Array Oper} (hm : P.follows .mixedOrders = true) (n : Nat) (hok : drawOkB ops n C.N = true)
    (hc : Chain P C.w0.K C.N C.X s.h ops (ops.toList.take n) s.t fun f => AWL P C ops Q (ops.toList.drop n) ⟨f, s.h⟩) : AW P C (.region id ops true) Q s := by
  intro a0 w00 hs0
  have ok := drawOkB_spec hok
  clear hok
  obtain ⟨fs, vs, hf0, hK, hstep⟩ := hc.steps
  have hlen : (ops.toList.take n).length = n := by rw [List.length_take, Array.length_toList]; exact Nat.min_eq_left ok.le
  rw [hlen] at hK
  have hget : ∀ i, i < n → ∀ (o : Oper), ops[i]? = some o → (ops.toList.take n)[i]? = some o := fun i hi o ho => by
    rw [List.getElem?_take, if_pos hi]; simpa using ho
  -- what the chain's frames hold
  have keep : ∀ t, (∀ (j : Nat) (p : Oper), j < n → ops[j]? = some p → p.dst ≠ some t) → ∀ i, i ≤ n → fs i t = s.t t := by
    intro t ht i
    induction i with
    | zero => intro _; rw [hf0]
    | succ i ih =>
      intro hi
      have hlt : i < ops.size := Nat.lt_of_lt_of_le (by omega) ok.le
      have ho : ops[i]? = some ops[i] := Array.getElem?_eq_getElem hlt
      rw [(hstep i _ (hget i (by omega) _ ho)).2]
      have hne := ht i _ (by omega) ho
      cases hd : ops[i].dst with
      | none => exact ih (by omega)
      | some d =>
        rw [hd] at hne
        have hne : t ≠ d := fun e => hne (by rw [e])
        show (bif Nat.blt d C.N then upd (fs i) d (vs i) else fs i) t = _
        cases Nat.blt d C.N with
        | true => simp only [cond_true]; rw [upd_ne _ _ hne]; exact ih (by omega)
        | false => exact ih (by omega)
  have holds : ∀ (j : Nat) (p : Oper) t, j < n → ops[j]? = some p → p.dst = some t → ∀ i, j < i → i ≤ n → fs i t = vs j := by
    intro j p t hj hp hd i
    induction i with
    | zero => intro h; omega
    | succ i ih =>
      intro h1 h2
      have hlt : i < ops.size := Nat.lt_of_lt_of_le (by omega) ok.le
      have ho : ops[i]? = some ops[i] := Array.getElem?_eq_getElem hlt
      rw [(hstep i _ (hget i (by omega) _ ho)).2]
      by_cases hij : i = j
      · subst hij
        rw [hp] at ho
        obtain rfl : p = ops[i] := by injection ho
        have hb : Nat.blt t C.N = true := by simpa [Nat.blt_eq] using ok.lt i _ t hj hp hd
        rw [hd]
        show (bif Nat.blt t C.N then upd (fs i) t (vs i) else fs i) t = _
        rw [hb]; simp only [cond_true]; rw [upd_same]
      · have := ih (by omega) (by omega)
        cases hd' : ops[i].dst with
        | none => exact this
        | some d =>
          have hne : t ≠ d := fun e => hij (ok.uniq i j _ _ d (by omega) hj ho hp hd' (by rw [hd, e]))
          show (bif Nat.blt d C.N then upd (fs i) d (vs i) else fs i) t = _
          cases Nat.blt d C.N with
          | true => simp only [cond_true]; rw [upd_ne _ _ hne]; exact this
          | false => exact this
  -- the invariant
  let w1 : World := { w00 with drawn := w00.drawn + 1 }
  have hbw : Bl C.w0.K w00 w1 := ⟨⟨rfl, rfl, rfl, Nat.le_refl _, fun _ _ => rfl⟩, fun _ => Nat.le_succ _⟩
  have hs1 : C.St s a0 w1 := hs0.below_ hbw
  let A : Array Bool → Act → World → Prop := fun listed a w =>
    listed.size = ops.size ∧ Bl C.w0.K w1 w ∧ a.defers = [] ∧ a.tmps.size = C.N ∧
    (∀ t, (∀ (j : Nat) (p : Oper), j < n → ops[j]? = some p → p.dst ≠ some t) → Rep (owned C.X s.h) w (s.t t) (a.tmps.getD t undef)) ∧
    (∀ (j : Nat) (p : Oper) t, j < n → ops[j]? = some p → p.dst = some t → listed.getD j false = true → Rep (owned C.X s.h) w (vs j) (a.tmps.getD t undef)) ∧
    ∀ j, n ≤ j → listed.getD j false = false
  let B : Array Bool → Act → World → Prop := fun listed a w =>
    listed.size = ops.size ∧ ∃ k, n ≤ k ∧ k ≤ ops.size ∧ (∀ j, j < k → listed.getD j false = true) ∧ (∀ j, k ≤ j → listed.getD j false = false) ∧ wpList P ops (up C Q) (ops.toList.drop k) a w
  -- all of the first ones have come up
  have full : ∀ listed a w, A listed a w → (∀ j, j < n → listed.getD j false = true) → C.St ⟨fs n, s.h⟩ a w := by
    intro listed a w ⟨h1, h2, h3, h4, h5, h6, h7⟩ hall
    refine ⟨hs1.env.below_ h2, h3, h4, fun t => ?_⟩
    by_cases ht : ∃ (j : Nat) (p : Oper), j < n ∧ ops[j]? = some p ∧ p.dst = some t
    · obtain ⟨j, p, hj, hp, hd⟩ := ht
      show Rep _ _ (fs n t) _
      rw [holds j p t hj hp hd n hj (Nat.le_refl _)]
      exact h6 j p t hj hp hd (hall j hj)
    · have ht' : ∀ (j : Nat) (p : Oper), j < n → ops[j]? = some p → p.dst ≠ some t := fun j p hj hp hd => ht ⟨j, p, hj, hp, hd⟩
      show Rep _ _ (fs n t) _
      rw [keep t ht' n (Nat.le_refl _)]
      exact h5 t ht'
  have stepB : ∀ listed a w i, Dn ops listed → B listed a w → i ∈ Region.ready .any ops listed → wpOp P ops (up C Q) i (fun a w => (A (listed.setIfInBounds i true) a w ∨ B (listed.setIfInBounds i true) a w) ∧ Dn ops (listed.setIfInBounds i true)) a w := by
    intro listed a w i hdn ⟨hsz, k, h1, h2, h3, h4, h5⟩ hi
    obtain ⟨h0, o, ho, hall⟩ := mem_ready.1 hi
    have hlt : i < ops.size := (Array.getElem?_eq_some_iff.1 ho).1
    have hki : k ≤ i := by
      rcases Nat.lt_or_ge i k with h | h
      · have := h3 i h
        have hl : i < listed.size := by omega
        simp [hl] at this h0
        rw [this] at h0; cases h0
      · exact h
    obtain rfl : i = k := by
      rcases Nat.lt_or_ge k i with h | h
      · have := memT_listed hdn ops.size i k o ho hall (ok.tail i k o (by omega) h ho)
        rw [h4 k (Nat.le_refl _)] at this; cases this
      · omega
    have hd : ops.toList.drop i = o :: ops.toList.drop (i + 1) := by
      have hl : i < ops.toList.length := by simpa using hlt
      rw [List.drop_eq_getElem_cons hl]
      congr 1
      have := (Array.getElem?_eq_some_iff.1 ho).2
      simpa using this
    rw [hd] at h5
    have h5' : wpOp P ops (up C Q) i (wpList P ops (up C Q) (ops.toList.drop (i + 1))) a w := by
      unfold wpOp
      rw [ho]
      exact h5
    refine wpOp_mono (fun a' w' h => ⟨.inr ⟨by simpa using hsz, i + 1, by omega, by omega, fun j hj => ?_, fun j hj => ?_, h⟩, dn_step hdn hi⟩) h5'
    · by_cases hij : j = i
      · subst hij; have : j < listed.size := by omega
        simp [this]
      · rw [getD_set_ne false (Ne.symm hij)]; exact h3 j (by omega)
    · rw [getD_set_ne false (by omega)]; exact h4 j (by omega)
  refine wp_region_any hm (wpAny_inv (md := .any) (fun listed a w => (A listed a w ∨ B listed a w) ∧ Dn ops listed) ?_ ?_ ops.size _ a0 w1 ?_ ?_)
  · intro listed a w i ⟨hJ, hdn⟩ hi
    rcases hJ with hA | hB
    · have hA' := hA
      obtain ⟨h0, o, ho, hall⟩ := mem_ready.1 hi
      obtain ⟨h1, h2, h3, h4, h5, h6, h7⟩ := hA
      by_cases hin : i < n
      · -- one of the first
        obtain ⟨hp, hfs⟩ := hstep i o (hget i hin o ho)
        have env : Env C.X C.w0 s.h w := hs1.env.below_ h2
        have reads : ∀ t, (t ∈ opRds o ∨ ∃ g b, o.guard = some (g, b) ∧ (ops[g]?).bind (·.dst) = some t) → Rep (owned C.X s.h) w (fs i t) (a.tmps.getD t undef) := by
          intro t ht
          by_cases hw : ∃ (j : Nat) (p : Oper), j < n ∧ ops[j]? = some p ∧ p.dst = some t
          · obtain ⟨j, p, hj, hp, hd⟩ := hw
            obtain ⟨hji, e, he, hej, hb⟩ := ok.reads i j o p t hin hj ho hp hd ht
            rw [holds j p t hj hp hd i hji (Nat.le_of_lt hin)]
            exact h6 j p t hj hp hd (by have := hall e he hb; rwa [hej] at this)
          · have ht' : ∀ (j : Nat) (p : Oper), j < n → ops[j]? = some p → p.dst ≠ some t := fun j p hj hp hd => hw ⟨j, p, hj, hp, hd⟩
            rw [keep t ht' i (Nat.le_of_lt hin)]
            exact h5 t ht'
        have fin : ∀ v w', Bl C.w0.K w w' → Rep (owned C.X s.h) w' (vs i) v → A (listed.setIfInBounds i true) (a.put o.dst v) w' := by
          intro v w' hb hr
          have mono : ∀ {c : AV} {u : Value}, Rep (owned C.X s.h) w c u → Rep (owned C.X s.h) w' c u := fun h => Rep.mono (Kept.of_below hb.b) (fun _ _ h => h) _ _ h
          refine ⟨by simpa using h1, h2.trans hb, ?_, ?_, fun t ht => ?_, fun j p t hj hp hd hl => ?_, fun j hj => ?_⟩
          · cases o.dst <;> exact h3
          · cases o.dst <;> simpa [Act.put] using h4
          · have := mono (h5 t ht)
            cases hd : o.dst with
            | none => exact this
            | some d =>
              have hne : d ≠ t := fun e => ht i o hin ho (by rw [hd, e])
              simpa [Act.put, Array.getElem?_setIfInBounds_ne hne] using this
          · by_cases hij : i = j
            · subst hij
              rw [ho] at hp
              obtain rfl : o = p := by injection hp
              have hlt : t < a.tmps.size := by rw [h4]; exact ok.lt i o t hin ho hd
              rw [hd]
              simpa [Act.put, hlt] using hr
            · rw [getD_set_ne false hij] at hl
              have := mono (h6 j p t hj hp hd hl)
              cases hd' : o.dst with
              | none => exact this
              | some d =>
                have hne : d ≠ t := fun e => hij (ok.uniq i j o p d hin hj ho hp hd' (by rw [hd, e]))
                simpa [Act.put, Array.getElem?_setIfInBounds_ne hne] using this
          · rw [getD_set_ne false (by omega)]; exact h7 j hj
        unfold wpOp
        rw [ho]
        simp only []
        rcases hp with ⟨hg, hp⟩ | ⟨g, b, b', t, hg, hgd, hft, hy, hn⟩ | ⟨g, b, t, hg, hgd, hft, hav⟩
        · rw [wanted_none hg]
          exact .inl (hp a w C.w0 rfl env h4 (fun t ht => reads t (.inl ht)) _ _ fun v w' hb hr => ⟨.inl (fin v w' hb hr), dn_step hdn hi⟩)
        · have hr := reads t (.inr ⟨g, b, hg, hgd⟩)
          rw [hft] at hr
          simp only [Rep] at hr
          have hyl := yield_bool hgd hr
          by_cases hbb : b' = b
          · subst hbb
            rw [show Region.wanted o (yielded ops a.tmps) = true by simp [Region.wanted, hg, hyl]]
            exact .inl (hy rfl a w C.w0 rfl env h4 (fun t ht => reads t (.inl ht)) _ _ fun v w' hb hr => ⟨.inl (fin v w' hb hr), dn_step hdn hi⟩)
          · rw [show Region.wanted o (yielded ops a.tmps) = false by simp [Region.wanted, hg, hyl, hbb]]
            exact ⟨.inl (fin undef w (Bl.refl _ _) (by
              rcases hn hbb with e | e
              · rw [e]; exact undef_rep
              · rw [e]; simp only [Rep])), dn_step hdn hi⟩
        · have hr := reads t (.inr ⟨g, b, hg, hgd⟩)
          rw [hft] at hr
          simp only [Rep] at hr
          have hyl : yielded ops a.tmps g = none := by
            unfold yielded
            rw [hgd]
            show (match a.tmps[t]? with | some (.bool b) => some b | _ => none) = none
            rw [Array.getD_eq_getD_getElem?] at hr
            cases hh : a.tmps[t]? with
            | none => rfl
            | some v => rw [hh] at hr; obtain rfl : v = undef := hr; rfl
          rw [show Region.wanted o (yielded ops a.tmps) = false by simp [Region.wanted, hg, hyl]]
          exact ⟨.inl (fin undef w (Bl.refl _ _) (by rw [hav]; simp only [Rep])), dn_step hdn hi⟩
      · -- the first of those behind
        have hall' : ∀ j, j < i → listed.getD j false = true := fun j hj => by
          exact memT_listed hdn ops.size i j o ho hall (ok.tail i j o (by omega) hj ho)
        have hni : i = n := by
          rcases Nat.lt_or_ge n i with h | h
          · have := hall' n h
            rw [h7 n (Nat.le_refl _)] at this; cases this
          · omega
        subst hni
        have hst := full listed a w hA' hall'
        have hwl := hK a w hst
        exact stepB listed a w i hdn ⟨h1, i, Nat.le_refl _, ok.le, hall', h7, hwl⟩ hi
    · exact stepB listed a w i hdn hB hi
  · intro listed a w ⟨hJ, _⟩ hr
    have hsz : listed.size = ops.size := by rcases hJ with h | h <;> exact h.1
    have hall := all_listedB ok.down hsz hr
    rcases hJ with hA | ⟨_, k, h1, h2, h3, h4, h5⟩
    · have hn : n = ops.size := by
        rcases Nat.lt_or_ge n ops.size with h | h
        · have := hall n h
          rw [hA.2.2.2.2.2.2 n (Nat.le_refl _)] at this; cases this
        · have := ok.le; omega
      have hwl := hK a w (full listed a w hA fun j hj => hall j (by omega))
      have e : ops.toList.drop n = [] := by rw [hn]; exact List.drop_eq_nil_of_le (by simp)
      rw [e] at hwl
      exact hwl
    · have hk : k = ops.size := by
        rcases Nat.lt_or_ge k ops.size with h | h
        · have := hall k h
          rw [h4 k (Nat.le_refl _)] at this; cases this
        · omega
      have e : ops.toList.drop k = [] := by rw [hk]; exact List.drop_eq_nil_of_le (by simp)
      rw [e] at h5
      exact h5
  · unfold unl
    have := List.length_filter_le (fun i => !(Array.replicate ops.size false).getD i true) (List.range ops.size)
    simpa using this
  · refine ⟨.inl ⟨by simp, Bl.refl _ _, hs1.slots.defers, hs1.slots.size, fun t _ => hs1.slots.slot t, fun j p t hj hp hd hl => ?_, fun j hj => ?_⟩, dn_start ops ops.size⟩
    · have hlt : j < ops.size := (Array.getElem?_eq_some_iff.1 hp).1
      simp [hlt] at hl
    · rw [Array.getD_eq_getD_getElem?]
      by_cases hlt : j < ops.size
      · simp [hlt]
      · simp [hlt]
end

section
variable {P : Program} {C : Cx} {Q : Exit → AS → Prop} {s : AS}
end
end Go.Proofs.Ytpehmadeklaebaa
