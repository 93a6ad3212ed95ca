/-
  E7
-/
import Derived.Test.YtpehmadeklaebaaZE6
namespace Go.Proofs.Ytpehmadeklaebaa
open Go Go.RowKit
set_option linter.unusedVariables false
set_option linter.unusedSimpArgs false

theorem scal_exL : ∀ (a : Ty), a.scal = true → ∀ x : a.T, AV.exL (a.enc x) = true
  | .int _, _, _ => rfl
  | .bool, _, _ => rfl
  | .str, _, _ => rfl
  | .flt, _, _ => rfl
  | .unit, _, _ => rfl
  | .one a, h, x => scal_exL a h x
  | .pair a b, h, x => by
    simp only [Ty.scal, Bool.and_eq_true] at h
    have h1 := scal_exL a h.1 x.1
    have h2 := scal_exL b h.2 x.2
    have app : ∀ (l k : List AV), AV.exL l = true → AV.exL k = true → AV.exL (l ++ k) = true := by
      intro l k hl hk
      induction l with
      | nil => exact hk
      | cons c l ih => simp only [AV.exL, Bool.and_eq_true] at hl; simp only [List.cons_append, AV.exL, Bool.and_eq_true]; exact ⟨hl.1, ih hl.2⟩
    exact app _ _ h1 h2
  | .arr n a, h, l => by
    have app : ∀ (l k : List AV), AV.exL l = true → AV.exL k = true → AV.exL (l ++ k) = true := by
      intro l k hl hk
      induction l with
      | nil => exact hk
      | cons c l ih => simp only [AV.exL, Bool.and_eq_true] at hl; simp only [List.cons_append, AV.exL, Bool.and_eq_true]; exact ⟨hl.1, ih hl.2⟩
    simp only [Ty.enc]
    induction List.range n with
    | nil => rfl
    | cons i r ih => rw [List.flatMap_cons]; exact app _ _ (scal_exL a h _) ih
theorem scal_ex (a : Ty) (h : a.scal = true) (x : a.T) : (a.den x).ex = true := by
  cases hg : a.agg with
  | true => rw [Ty.den_agg a x hg]; simp only [AV.ex]; exact scal_exL a h x
  | false =>
    have := scal_exL a h x
    rw [Ty.enc_one a x hg] at this
    simpa only [AV.exL, Bool.and_true] using this
mutual
theorem EV.scal_ex (m : Nm) : ∀ v : EV, v.scal = true → (v.den m).ex = true
  | .td a x, h => by simp only [EV.scal] at h; simp only [EV.den]; exact Go.Proofs.Ytpehmadeklaebaa.scal_ex a h x
  | .bl _, _ => rfl
  | .val _, _ => rfl
  | .nil, _ => rfl
  | .tup fs, h => by simp only [EV.scal] at h; simp only [EV.den, AV.ex]; exact EV.scalL_ex m fs h
theorem EV.scalL_ex (m : Nm) : ∀ fs : List EV, EV.scal.go fs = true → AV.exL (EV.denL m fs) = true
  | [], _ => rfl
  | v :: l, h => by
    simp only [EV.scal.go, Bool.and_eq_true] at h
    simp only [EV.denL, AV.exL, Bool.and_eq_true]
    exact ⟨EV.scal_ex m v h.1.2, EV.scalL_ex m l h.2⟩
end

section
variable {E : EC} {B : Nat → ES → Prop} {R : ES → Prop} {m : Nm} {X : EX} {s : ES}

theorem nthK_mem {l : List EO} {n : Nat} {K : EO → Tree} (h : (nthK l n K).ok E B R) : ∃ o, l[n]? = some o ∧ o.den m n ∈ EO.denL m 0 l ∧ (K o).ok E B R := by
  obtain ⟨o, h1, h2⟩ := nthK_ok h
  refine ⟨o, h1, List.mem_of_getElem? (i := n) ?_, h2⟩
  rw [EO.denL_get, h1]; simp
theorem view_ok {h : List EO} {v : EV} {K : EV → Tree} (hk : (v.view h K).ok E B R) : ∃ u : EV, (K u).ok E B R ∧ ∀ (Z : Nat → Prop) (w0 : Orig) (w : World) (val : Value), Env Z w0 (EO.denL m 0 h) w → Rep (owned Z (EO.denL m 0 h)) w (v.den m) val → Rep (fun _ => False) w (u.den m) val := by
  have weak : ∀ {Z : Nat → Prop} {w : World} {a : AV} {val : Value}, Rep Z w a val → Rep (fun _ => False) w a val := fun h => Rep.mono (Kept.refl _ _) (fun _ _ h => h.elim) _ _ h
  unfold EV.view at hk
  split at hk
  · obtain ⟨o, h1, h2, h3⟩ := nthK_mem (m := m) hk
    split at h3
    · exact ⟨_, h3, fun Z w0 w val env hr => weak (gives_row (X := Z) h2 w0 w val env hr)⟩
    · exact h3.elim
  · obtain ⟨o, h1, h2, h3⟩ := nthK_mem (m := m) hk
    split at h3
    · refine ⟨_, h3, fun Z w0 w val env hr => weak (gives_ip (X := Z) h2 w0 w val env hr)⟩
    · exact h3.elim
  · exact ⟨v, hk, fun Z w0 w val env hr => weak hr⟩
theorem views_ok {h : List EO} : ∀ {l : List EV} {K : List EV → Tree}, (viewsK h l K).ok E B R → ∃ us : List EV, (K us).ok E B R ∧ us.length = l.length ∧ ∀ (Z : Nat → Prop) (w0 : Orig) (w : World) (g : Nat → Option Value), Env Z w0 (EO.denL m 0 h) w → RepC (owned Z (EO.denL m 0 h)) w (EV.denL m l) g → RepC (fun _ => False) w (EV.denL m us) g
  | [], K, hk => ⟨[], hk, rfl, fun _ _ _ _ _ _ => by simp [EV.denL, RepC]⟩
  | v :: l, K, hk => by
    obtain ⟨u, h1, h2⟩ := view_ok (m := m) hk
    obtain ⟨us, h3, h4, h5⟩ := views_ok h1
    refine ⟨u :: us, h3, by simp [h4], fun Z w0 w g env hr => ?_⟩
    simp only [EV.denL, RepC] at hr ⊢
    obtain ⟨⟨val, hv, hr1⟩, hr2⟩ := hr
    exact ⟨⟨val, hv, h2 Z w0 w val env hr1⟩, h5 Z w0 w _ env hr2⟩
theorem view_free {h : List EO} {v : EV} {K : EV → Tree} (hf : v.free = true) : v.view h K = K v := by
  cases v <;> first | rfl | cases hf
theorem views_free {h : List EO} : ∀ {l : List EV} {K : List EV → Tree}, EV.free.go l = true → viewsK h l K = K l
  | [], K, _ => rfl
  | v :: l, K, hf => by
    simp only [EV.free.go, Bool.and_eq_true] at hf
    unfold viewsK
    rw [view_free hf.1, views_free hf.2]
theorem denL_len (m : Nm) : ∀ l : List EV, (EV.denL m l).length = l.length
  | [] => rfl
  | _ :: l => by simp [EV.denL, denL_len m l]
theorem denL_app (m : Nm) : ∀ a b : List EV, EV.denL m (a ++ b) = EV.denL m a ++ EV.denL m b
  | [], b => rfl
  | v :: a, b => by simp [EV.denL, denL_app m a b]

theorem icK_ok {Z : Nat → Prop} {hh : List HObj} {f : Nat → AV} {N : Nat} {o : Oper} {op : BinOp} {t t' : TypeId} {x y : Operand} {k : IntKind} {a b : Int} {K : EV → Tree} (ho : o.op = .binOp op t x y t') (hx : evalT f x = .x (.int k a)) (hy : evalT f y = .x (.int k b)) (h : (icK op k a b K).ok E B R) :
    ∃ v : EV, PureOp E.P E.w0.K N Z hh f o (v.den m) ∧ (K v).ok E B R := by
  unfold icK at h
  split at h
  case h_7 =>
    obtain ⟨v, h1, h2⟩ := fitK_ok (m := m) h
    exact ⟨v, h2 ▸ p_iar ho hx hy rfl, h1⟩
  case h_8 =>
    obtain ⟨v, h1, h2⟩ := fitK_ok (m := m) h
    exact ⟨v, h2 ▸ p_iar ho hx hy rfl, h1⟩
  case h_9 =>
    obtain ⟨v, h1, h2⟩ := fitK_ok (m := m) h
    exact ⟨v, h2 ▸ p_iar ho hx hy rfl, h1⟩
  case h_10 => exact h.elim
  all_goals exact ⟨_, p_icmp ho hx hy rfl, h⟩
theorem scK_ok {Z : Nat → Prop} {hh : List HObj} {f : Nat → AV} {N : Nat} {o : Oper} {op : BinOp} {t t' : TypeId} {x y : Operand} {a b : ByteArray} {K : EV → Tree} (ho : o.op = .binOp op t x y t') (hx : evalT f x = .x (.string a)) (hy : evalT f y = .x (.string b)) (h : (scK op a b K).ok E B R) :
    ∃ v : EV, PureOp E.P E.w0.K N Z hh f o (v.den m) ∧ (K v).ok E B R := by
  unfold scK at h
  split at h
  case h_5 => exact ⟨_, p_sadd ho hx hy h.1, h.2⟩
  case h_6 => exact h.elim
  all_goals exact ⟨_, p_scmp ho hx hy rfl, h⟩
theorem bcK_ok {Z : Nat → Prop} {hh : List HObj} {f : Nat → AV} {N : Nat} {o : Oper} {op : BinOp} {t t' : TypeId} {x y : Operand} {a b : Bool} {K : EV → Tree} (ho : o.op = .binOp op t x y t') (ht : E.P.underlying t = some .bool) (hx : evalT f x = .x (.bool a)) (hy : evalT f y = .x (.bool b)) (h : (bcK op a b K).ok E B R) :
    ∃ v : EV, PureOp E.P E.w0.K N Z hh f o (v.den m) ∧ (K v).ok E B R := by
  unfold bcK at h
  split at h
  · exact ⟨_, pe_beq ho hx hy ht, h⟩
  · exact ⟨_, pe_bne ho hx hy ht, h⟩
  · exact h.elim
theorem tiK_at (hX : EXok X E.P E.w0.K) {t : TypeId} {K : TI → Tree} (h : (tiK X.T t K).ok E B R) : ∃ ti, TIok E.P t ti ∧ (K ti).ok E B R := by
  obtain ⟨ti, h1, h2⟩ := tiK_ok h
  exact ⟨ti, hX.T t ti h1, h2⟩
theorem bool_at (hX : EXok X E.P E.w0.K) {t : TypeId} {T : Tree} (h : (tiK X.T t fun ti => match ti.k with | .bool => T | _ => .bad 72).ok E B R) : E.P.underlying t = some .bool ∧ T.ok E B R := by
  obtain ⟨ti, h1, h2⟩ := tiK_at hX h
  split at h2
  · rename_i hk
    have := h1.kd
    rw [hk] at this
    exact ⟨this, h2⟩
  · exact h2.elim
theorem eqK_int {j k : IntKind} {p : PLift (Ty.int j = Ty.int k)} : j = k := by
  have := p.down; injection this
theorem binK_ok (hX : EXok X E.P E.w0.K) {Z : Nat → Prop} {hh : List HObj} {f : Nat → AV} {N : Nat} {o : Oper} {op : BinOp} {t t' : TypeId} {x y : Operand} {a b : EV} {K : EV → Tree} (ho : o.op = .binOp op t x y t') (hx : evalT f x = a.den m) (hy : evalT f y = b.den m) (h : (binK X op t a b K).ok E B R) :
    ∃ v : EV, PureOp E.P E.w0.K N Z hh f o (v.den m) ∧ (K v).ok E B R := by
  unfold binK at h
  split at h
  · split at h
    · rename_i p _
      obtain rfl := eqK_int (p := p)
      exact icK_ok ho hx hy h
    · exact h.elim
  · exact scK_ok ho hx hy h
  · obtain ⟨h1, h2⟩ := bool_at hX h
    exact bcK_ok ho h1 hx hy h2
  · obtain ⟨h1, h2⟩ := bool_at hX h
    exact bcK_ok ho h1 hx hy h2
  · obtain ⟨h1, h2⟩ := bool_at hX h
    exact bcK_ok ho h1 hx hy h2
  · obtain ⟨h1, h2⟩ := bool_at hX h
    exact bcK_ok ho h1 hx hy h2
  · obtain ⟨ti, h1, h2⟩ := tiK_at hX h
    have hk := h1.kd
    split at h2
    · rename_i e; rw [e] at hk; obtain ⟨u, hk⟩ := hk
      exact ⟨_, pe_peq ho hx hy hk, h2⟩
    · rename_i e; rw [e] at hk; obtain ⟨u, hk⟩ := hk
      exact ⟨_, pe_pne ho hx hy hk, h2⟩
    · exact h2.elim
  · obtain ⟨ti, h1, h2⟩ := tiK_at hX h
    have hk := h1.kd
    split at h2
    · rename_i e; rw [e] at hk; obtain ⟨u, hk⟩ := hk
      exact ⟨_, pe_peq ho hx hy hk, h2⟩
    · rename_i e; rw [e] at hk; obtain ⟨u, hk⟩ := hk
      exact ⟨_, pe_pne ho hx hy hk, h2⟩
    · exact h2.elim
  · obtain ⟨q, h1, h2⟩ := eqsK_ok h
    obtain ⟨g1, g2, g3⟩ := hX.Q t q h1
    split at h2
    · rename_i c xx d yy _ _ _ _ _ h' g' _ _
      have e1 : (Ty.den c xx) = .agg (c.enc xx) := Ty.den_agg c xx (by rw [h']; exact g1)
      have e2 : (Ty.den d yy) = .agg (d.enc yy) := Ty.den_agg d yy (by rw [g']; exact g1)
      obtain ⟨x', h3, h4⟩ := withT_ok _ h2
      obtain ⟨y', h5, h6⟩ := withT_ok _ h3
      simp only [EV.den] at hx hy
      rw [e1, h4] at hx
      rw [e2, h6] at hy
      obtain ⟨k1, k2, k3⟩ := g3 x' y'
      split at h5
      · exact ⟨_, pe_eqs ho hx hy k1 k2 g2 k3, h5⟩
      · exact ⟨_, pe_nes ho hx hy k1 k2 g2 k3, h5⟩
      · exact h5.elim
    · exact h2.elim
  · exact h.elim
end
end Go.Proofs.Ytpehmadeklaebaa
