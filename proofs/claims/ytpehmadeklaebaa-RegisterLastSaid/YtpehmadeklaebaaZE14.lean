/-
  E14
-/
import Derived.Test.YtpehmadeklaebaaZE13
namespace Go.Proofs.Ytpehmadeklaebaa
open Go Go.RowKit
set_option linter.unusedVariables false
set_option linter.unusedSimpArgs false

section
variable {P : Program} {C : Cx} {Q : Exit → AS → Prop} {s : AS} {ops : Array Oper} {o : Oper} {rest : List Oper}
theorem awl_pureG {av : AV} (hp : PureG P C.w0.K C.N C.X s.h ops s.t o av) (k : AWL P C ops Q rest ⟨putT C.N s.t o.dst av, s.h⟩) : AWL P C ops Q (o :: rest) s := by
  rcases hp with ⟨hg, hp⟩ | ⟨j, b, b', t, hg, hj, ht, hy, hn⟩ | ⟨j, b, t, hg, hj, ht, hav⟩
  · exact awl_pure av hg hp k
  · by_cases hb : b' = b
    · subst hb; exact awl_wanted av hg hj ht (hy rfl) k
    · intro a w hs
      have h := hs.slots.slot t
      rw [ht] at h
      simp only [Rep] at h
      have hw : Region.wanted o (yielded ops a.tmps) = false := by
        have : yielded ops a.tmps j = some b' := yield_bool hj h
        simp [Region.wanted, hg, this, hb]
      refine wpList_step fun K hK => ?_
      rw [hw]
      refine hK _ _ (k _ _ ⟨hs.env, hs.slots.put o.dst ?_⟩)
      rcases hn hb with e | e
      · rw [e]; exact undef_rep
      · rw [e]; simp only [Rep]
  · intro a w hs
    have h := hs.slots.slot t
    rw [ht] at h
    simp only [Rep] at h
    have hyl : yielded ops a.tmps j = none := by
      unfold yielded
      rw [hj]
      show (match a.tmps[t]? with | some (.bool b) => some b | _ => none) = none
      rw [Array.getD_eq_getD_getElem?] at h
      cases hh : a.tmps[t]? with
      | none => rfl
      | some v => rw [hh] at h; obtain rfl : v = undef := h; rfl
    have hw : Region.wanted o (yielded ops a.tmps) = false := by simp [Region.wanted, hg, hyl]
    refine wpList_step fun K hK => ?_
    rw [hw]
    exact hK _ _ (k _ _ ⟨hs.env, hs.slots.put o.dst (by rw [hav]; simp only [Rep])⟩)
end

section
variable {E : EC} {B : Nat → ES → Prop} {R : ES → Prop} {m : Nm} {Y : EY} {s : ES}
theorem putD_ok (hN : Y.N = E.N) {dst : Option Nat} {v : EV} {K : ES → Tree} (h : (putD Y.N dst v s K).ok E B R) : ∃ s' : ES, (K s').ok E B R ∧ s'.h = s.h ∧ slotsOf m s'.t = putT E.N (slotsOf m s.t) dst (v.den m) ∧ (∀ d, dst = some d → Nat.blt d E.N = true ∧ slotsOf m s'.t = upd (slotsOf m s.t) d (v.den m)) := by
  unfold putD at h
  split at h
  · exact ⟨s, h, rfl, rfl, fun d hd => by cases hd⟩
  · rename_i d
    cases hc : Nat.blt d Y.N with
    | false => rw [hc] at h; exact h.elim
    | true =>
      rw [hc] at h
      simp only [cond_true] at h
      obtain ⟨l', h1, h2⟩ := setS_ok (m := m) s.t d v fun t => K ⟨t, s.h⟩
      rw [h1] at h
      rw [hN] at hc
      refine ⟨_, h, rfl, ?_, fun d' hd => by injection hd with hd; subst hd; exact ⟨hc, h2⟩⟩
      rw [h2]; simp only [putT, hc, cond_true]
theorem set_lit {t : Nat} {b : Bool} {K : List (Nat × EV) → Tree} (ht : slotsOf m s.t t = .x (.bool b)) (h : (setS s.t t (.bl b) K).ok E B R) : ∃ l, (K l).ok E B R ∧ slotsOf m l = slotsOf m s.t := by
  obtain ⟨l', h1, h2⟩ := setS_ok (m := m) s.t t (.bl b) K
  rw [h1] at h
  refine ⟨l', h, ?_⟩
  rw [h2]
  funext u
  simp only [upd]
  cases hc : Nat.beq u t with
  | true => obtain rfl := beqN hc; exact ht.symm
  | false => rfl
theorem evPput_ok (hY : EYok Y E) {o : Oper} {s0 : ES} (hs0 : slotsOf m s0.t = slotsOf m s.t) (hh : s0.h = s.h) {K : ES → Tree} (h : (evP Y.toEX s0 o.op fun v => putD Y.N o.dst v s0 K).ok E B R) :
    ∃ av s', PureOp E.P E.w0.K E.N E.X (EO.denL m 0 s.h) (slotsOf m s.t) o av ∧ slotsOf m s'.t = putT E.N (slotsOf m s.t) o.dst av ∧ s'.h = s.h ∧ (K s').ok E B R := by
  obtain ⟨v, h1, h2⟩ := evP_ok (m := m) hY.X h
  obtain ⟨s', h3, h4, h5, _⟩ := putD_ok (m := m) hY.N h2
  rw [hs0, hh] at h1
  rw [hs0] at h5
  exact ⟨_, s', h1, h5, by rw [h4, hh], h3⟩
theorem evG_ok (hY : EYok Y E) {ops : List Oper} {o : Oper} {K : ES → Tree} (h : (evG Y ops s o K).ok E B R) :
    ∃ av s', PureG E.P E.w0.K E.N E.X (EO.denL m 0 s.h) ops.toArray (slotsOf m s.t) o av ∧ slotsOf m s'.t = putT E.N (slotsOf m s.t) o.dst av ∧ s'.h = s.h ∧ (K s').ok E B R := by
  unfold evG at h
  split at h
  · rename_i hg
    obtain ⟨av, s', h1, h2, h3, h4⟩ := evPput_ok (m := m) (s := s) hY rfl rfl h
    exact ⟨av, s', .inl ⟨hg, h1⟩, h2, h3, h4⟩
  · rename_i j b hg
    obtain ⟨p, hp, h⟩ := nthK_ok h
    split at h
    · rename_i t hpd
      have hj : (ops.toArray[j]?).bind (·.dst) = some t := by
        simp [hp, hpd]
      obtain ⟨v, h, hv⟩ := findK_ok (m := m) h
      -- what is done, and what is left
      have yes : ∀ (s0 : ES) (b' : Bool), b' = b → slotsOf m s.t t = .x (.bool b') → slotsOf m s0.t = slotsOf m s.t → s0.h = s.h → (evP Y.toEX s0 o.op fun v => putD Y.N o.dst v s0 K).ok E B R →
          ∃ av s', PureG E.P E.w0.K E.N E.X (EO.denL m 0 s.h) ops.toArray (slotsOf m s.t) o av ∧ slotsOf m s'.t = putT E.N (slotsOf m s.t) o.dst av ∧ s'.h = s.h ∧ (K s').ok E B R := fun s0 b' hb ht e1 e2 h => by
        obtain ⟨av, s', h1, h2, h3, h4⟩ := evPput_ok (m := m) (s := s) hY e1 e2 h
        exact ⟨av, s', .inr (.inl ⟨j, b, b', t, hg, hj, ht, fun _ => h1, fun hn => absurd hb hn⟩), h2, h3, h4⟩
      have no : ∀ (s0 : ES) (b' : Bool), b' ≠ b → slotsOf m s.t t = .x (.bool b') → slotsOf m s0.t = slotsOf m s.t → s0.h = s.h → (putD Y.N o.dst (.val undef) s0 K).ok E B R →
          ∃ av s', PureG E.P E.w0.K E.N E.X (EO.denL m 0 s.h) ops.toArray (slotsOf m s.t) o av ∧ slotsOf m s'.t = putT E.N (slotsOf m s.t) o.dst av ∧ s'.h = s.h ∧ (K s').ok E B R := fun s0 b' hb ht e1 e2 h => by
        obtain ⟨s', h3, h4, h5, _⟩ := putD_ok (m := m) hY.N h
        rw [e1] at h5
        exact ⟨_, s', .inr (.inl ⟨j, b, b', t, hg, hj, ht, fun hh => absurd hh hb, fun _ => .inr rfl⟩), h5, by rw [h4, e2], h3⟩
      split at h
      · rename_i b'
        split at h
        · exact yes s true rfl hv rfl rfl h
        · exact yes s false rfl hv rfl rfl h
        · rename_i n1 n2
          refine no s b' ?_ hv rfl rfl h
          intro e
          subst e
          cases b'
          · exact n2 rfl rfl
          · exact n1 rfl rfl
      · rename_i b'
        obtain ⟨hT, hF⟩ := h
        cases hb : b' with
        | true =>
          rw [hb] at hv
          obtain ⟨l, h1, h2⟩ := set_lit (m := m) hv (hT hb)
          cases b with
          | true => exact yes ⟨l, s.h⟩ true rfl hv h2 rfl h1
          | false => exact no ⟨l, s.h⟩ true (by decide) hv h2 rfl h1
        | false =>
          rw [hb] at hv
          obtain ⟨l, h1, h2⟩ := set_lit (m := m) hv (hF hb)
          cases b with
          | false => exact yes ⟨l, s.h⟩ false rfl hv h2 rfl h1
          | true => exact no ⟨l, s.h⟩ false (by decide) hv h2 rfl h1
      · rename_i u
        cases hu : isUndef u with
        | false => rw [hu] at h; exact h.elim
        | true =>
          rw [hu] at h
          have := isUndef_eq hu
          subst this
          obtain ⟨s', h3, h4, h5, _⟩ := putD_ok (m := m) hY.N h
          exact ⟨_, s', .inr (.inr ⟨j, b, t, hg, hj, hv, rfl⟩), h5, h4, h3⟩
      · exact h.elim
    · exact h.elim
theorem evC_ok (hY : EYok Y E) {ops : List Oper} : ∀ {l : List Oper} {s : ES} {K : ES → Tree}, (evC Y ops l s K).ok E B R → Chain E.P E.w0.K E.N E.X (EO.denL m 0 s.h) ops.toArray l (slotsOf m s.t) fun f => ∃ s' : ES, f = slotsOf m s'.t ∧ s'.h = s.h ∧ (K s').ok E B R
  | [], s, K, h => ⟨s, rfl, rfl, h⟩
  | o :: l, s, K, h => by
    unfold evC at h
    cases hc : isEff Y o.op with
    | true => rw [hc] at h; exact h.elim
    | false =>
      rw [hc] at h
      obtain ⟨av, s', h1, h2, h3, h4⟩ := evG_ok (m := m) hY h
      refine ⟨av, h1, ?_⟩
      have := evC_ok hY h4
      rw [h3, h2] at this
      exact this

/-- Rows at rest. -/
theorem frzRow_ok {i : Nat} {K : ES → Tree} (h : (frzRow s i K).ok E B R) : ∃ s' : ES, (K s').ok E B R ∧ ∀ a w, E.toCx.St (s.den m) a w → E.toCx.St (s'.den m) a w := by
  unfold frzRow at h
  obtain ⟨ob, h1, h2⟩ := nthK_ok h
  split at h2
  · rw [mapSlotsK_eq, mapObjsK_eq, setNK_eq] at h2
    exact ⟨_, h2, fun a w hs => st_freezeE h1 hs⟩
  · exact ⟨s, h2, fun a w hs => hs⟩
theorem frzL_ok : ∀ {l : List EV} {s : ES} {K : ES → Tree}, (frzL l s K).ok E B R → ∃ s' : ES, (K s').ok E B R ∧ ∀ a w, E.toCx.St (s.den m) a w → E.toCx.St (s'.den m) a w
  | [], s, K, h => ⟨s, h, fun a w hs => hs⟩
  | v :: l, s, K, h => by
    unfold frzL at h
    split at h
    · obtain ⟨s', h1, h2⟩ := frzRow_ok (m := m) h
      obtain ⟨s2, h3, h4⟩ := frzL_ok h1
      exact ⟨s2, h3, fun a w hs => h4 a w (h2 a w hs)⟩
    · exact frzL_ok h
theorem frz_ok {op : Op} {K : ES → Tree} (h : (frz Y s op K).ok E B R) : ∃ s' : ES, (K s').ok E B R ∧ ∀ a w, E.toCx.St (s.den m) a w → E.toCx.St (s'.den m) a w := by
  have id_ : (K s).ok E B R → ∃ s' : ES, (K s').ok E B R ∧ ∀ a w, E.toCx.St (s.den m) a w → E.toCx.St (s'.den m) a w := fun h => ⟨s, h, fun a w hs => hs⟩
  unfold frz at h
  split at h
  · cases hip : Y.ip with
    | true => rw [hip] at h; exact id_ h
    | false =>
      rw [hip] at h
      obtain ⟨v, h1, _⟩ := opndK_ok (m := m) h
      exact frzL_ok h1
  · split at h
    · split at h
      · obtain ⟨v, h1, _⟩ := opndK_ok (m := m) h
        exact frzL_ok h1
      · exact id_ h
    · rename_i g _
      cases hc : inM Y.M g with
      | true => rw [hc] at h; exact id_ h
      | false =>
        rw [hc] at h
        obtain ⟨vs, h1, _⟩ := opndsK_ok (m := m) h
        cases hr : hasRow vs with
        | false => rw [hr] at h1; exact id_ h1
        | true =>
          rw [hr] at h1
          obtain ⟨S, _, _, h2⟩ := fnK_ok h1
          obtain ⟨us, h3, _⟩ := views_ok (m := m) h2
          obtain ⟨x, h4, _⟩ := decA_ok (m := m) h3
          rw [S.eq] at h4
          cases hs : (S.res x).scal with
          | true => rw [hs] at h4; exact id_ h4
          | false => rw [hs] at h4; exact frzL_ok h4
    · exact id_ h
  · exact id_ h
end
end Go.Proofs.Ytpehmadeklaebaa
