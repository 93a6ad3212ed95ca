/-
  E10
-/
import Derived.Test.YtpehmadeklaebaaZE9
namespace Go.Proofs.Ytpehmadeklaebaa
open Go Go.RowKit
set_option linter.unusedVariables false
set_option linter.unusedSimpArgs false

section
variable {P : Program} {K : Prop} {N : Nat} {X : Nat → Prop} {h : List HObj} {f : Nat → AV} {o : Oper}
theorem pe_index_row {t e e' : TypeId} {x y : Operand} {v : Value} {n k i : Nat} {cs : List AV} {b : Bool} {ik : IntKind} {z : Int} (ho : o.op = .indexAddr t x y) (hx : evalT f x = .x v) (hm : HObj.row v e' k n cs ∈ h) (ht : P.underlying t = some (.slice e)) (he : tyOf P e = some (b, k))
    (hy : evalT f y = .x (.int ik z)) (hz : z = (i : Int)) (hi : i < n) : PureOp P K N X h f o (rowPtr v (i * k)) := by
  intro a w w0 hK env
  obtain ⟨g, c, hv, h1, h2, _⟩ := row_slice env hm (by omega)
  have := p_indexAddr_ow (P := P) (K := K) (N := N) (X := X) (h := h) i ho (by rw [hx, hv]) ht he hy hz hi
  rw [Nat.zero_add] at this
  rw [hv]
  exact this a w w0 hK env
theorem pe_load_row {t e' : TypeId} {x : Operand} {v : Value} {n k off sz : Nat} {cs : List AV} {ag : Bool} {av : AV} (ho : o.op = .load t x) (hx : evalT f x = rowPtr v off) (hm : HObj.row v e' k n cs ∈ h) (hn : 0 < n) (ht : tyOf P t = some (ag, sz)) (hp : PartOf cs off ag sz av) : PureOp P K N X h f o av := by
  intro a w w0 hK env
  obtain ⟨g, c, hv, h1, h2, _, us, h3, h4⟩ := row_slice env hm hn
  have hx' : evalT f x = .x (.pointer (some ⟨g, off, none⟩)) := by rw [hx, hv]; rfl
  refine pure_run (fun a w w0' env' H => ?_) a w w0 hK env
  obtain ⟨g', c', hv', h1', h2', _, us', h3', h4'⟩ := row_slice env' hm hn
  have hg : g' = g := by rw [hv] at hv'; injection hv' with hv'; injection hv' with hv'; injection hv' with hv'; exact hv'.symm
  subst hg
  rw [ho] at H
  have hxx := H x (by simp [Op.operands])
  rw [hx', rep_x] at hxx
  have hc : RepC (owned X h) w (cs.drop off) (fun j => w.cell? ((⟨g', off, none⟩ : Addr).add j)) := by
    have := h4'.drop off
    have e : (fun j => w.cell? ((⟨g', off, none⟩ : Addr).add j)) = (fun j => us'[off + j]?) := funext fun j => by
      rw [add_plain]
      simp [World.cell?, h3']
    rw [e]; exact this
  have hav : (ag = true ∧ sz ≤ (cs.drop off).length ∧ av = .agg ((cs.drop off).take sz)) ∨ (ag = false ∧ (cs.drop off)[0]? = some av) := by
    rcases hp with ⟨g1, g2, g3⟩ | ⟨g1, g2⟩
    · exact .inl ⟨g1, by rw [List.length_drop]; omega, g3⟩
    · exact .inr ⟨g1, by rw [List.getElem?_drop]; simpa using g2⟩
  obtain ⟨u, hu, hr⟩ := run_load_c ht hc hav
  exact ⟨u, by simp [execOp, ho, hxx, Instr.loadAt, Instr.sureAddr, hu], hr⟩
end

section
variable {P : Program} {K : Prop} {N : Nat} {X : Nat → Prop} {h : List HObj} {f : Nat → AV} {o : Oper}
/-- A cut of a slice that is known just, by its room. -/
theorem pe_slice_ow {t e : TypeId} {x : Operand} {lo hi : Option Operand} {k g off n c : Nat} (l r : Nat) {b : Bool} (ho : o.op = .slice t x lo hi none) (hx : evalT f x = .x (.slice (some ⟨g, off, none⟩) n c)) (ht : P.underlying t = some (.slice e)) (he : tyOf P e = some (b, k)) (hlo : boundOf f 0 lo l) (hhi : boundOf f n hi r) (h1 : l ≤ r) (hrc : r ≤ c) (hlc : l < c) :
    PureOp P K N X h f o (.x (.slice (some ⟨g, off + l * k, none⟩) (r - l) (c - l))) := pure_run fun a w w0 env H => by
  rw [ho] at H
  have hx1 := H x (by simp [Op.operands])
  rw [hx, rep_x] at hx1
  have hlo' : ∀ v, lo.map a.eval = some v → ∃ ik, v = .int ik (l : Int) := fun v hv => by
    cases lo with
    | none => cases hv
    | some y =>
      obtain ⟨ik, z, hy, rfl⟩ := hlo
      have := H y (by simp [Op.operands])
      rw [hy, rep_x] at this
      simp only [Option.map_some, Option.some.injEq] at hv
      exact ⟨ik, by rw [← hv, this]⟩
  have hhi' : ∀ v, hi.map a.eval = some v → ∃ ik, v = .int ik (r : Int) := fun v hv => by
    cases hi with
    | none => cases hv
    | some y =>
      obtain ⟨ik, z, hy, rfl⟩ := hhi
      have := H y (by simp [Op.operands])
      rw [hy, rep_x] at this
      simp only [Option.map_some, Option.some.injEq] at hv
      exact ⟨ik, by rw [← hv, this]⟩
  have hb : (Instr.sliceBounds true n c (lo.map a.eval) (hi.map a.eval) none).run P w = .ok (l, r, c) w := by
    unfold Instr.sliceBounds
    cases hlv : lo.map a.eval with
    | none =>
      have hl0 : l = 0 := by cases lo with | none => exact hlo | some y => cases hlv
      subst hl0
      cases hhv : hi.map a.eval with
      | none =>
        have : r = n := by cases hi with | none => exact hhi | some y => cases hhv
        subst this; simp
      | some v =>
        obtain ⟨ik, rfl⟩ := hhi' v hhv
        have : (0 : Int) ≤ (r : Int) ∧ (r : Int) ≤ (c : Int) := by omega
        simp [Instr.sliceBound, asIntOf, show r ≤ c by omega]
    | some u =>
      obtain ⟨ik', rfl⟩ := hlo' u hlv
      cases hhv : hi.map a.eval with
      | none =>
        have : r = n := by cases hi with | none => exact hhi | some y => cases hhv
        subst this; simp [Instr.sliceBound, asIntOf, h1]
      | some v =>
        obtain ⟨ik, rfl⟩ := hhi' v hhv
        simp [Instr.sliceBound, asIntOf, h1, show r ≤ c by omega]
  have hu : (underlying t).run P w = .ok (.slice e) w := run_underlying ht w
  refine ⟨_, ?_, rep_x.2 rfl⟩
  simp only [execOp, ho, Instr.sliceAt, Sem.run_bind, hu, Result.andThen_ok, Instr.slice, hx1, Option.map_none, hb, run_sizeOf_ he, Sem.run_pure]
  rw [if_neg (by omega)]
  simp [add_plain]
theorem pe_slice_row {t e e' : TypeId} {x : Operand} {lo hi : Option Operand} {v : Value} {k n : Nat} {cs : List AV} (l r : Nat) {b : Bool} (ho : o.op = .slice t x lo hi none) (hx : evalT f x = .x v) (hm : HObj.row v e' k n cs ∈ h) (ht : P.underlying t = some (.slice e)) (he : tyOf P e = some (b, k)) (hlo : boundOf f 0 lo l) (hhi : boundOf f n hi r) (h1 : l ≤ r) (h2 : r ≤ n) (h3 : l < n) :
    PureOp P K N X h f o (rowSl v k l (r - l)) := by
  intro a w w0 hK env
  obtain ⟨g, c, hv, h4, h5, _⟩ := row_slice env hm (by omega)
  have := pe_slice_ow (P := P) (K := K) (N := N) (X := X) (h := h) l r ho (by rw [hx, hv]) ht he hlo hhi h1 (by omega) (by omega)
  rw [Nat.zero_add] at this
  rw [hv]
  exact this a w w0 hK env
theorem pe_slice_rs {t e e' : TypeId} {x : Operand} {lo hi : Option Operand} {v : Value} {k n p0 n0 : Nat} {cs : List AV} (l r : Nat) {b : Bool} (ho : o.op = .slice t x lo hi none) (hx : evalT f x = rowSl v k p0 n0) (hm : HObj.row v e' k n cs ∈ h) (ht : P.underlying t = some (.slice e)) (he : tyOf P e = some (b, k)) (hlo : boundOf f 0 lo l) (hhi : boundOf f n0 hi r) (h1 : l ≤ r) (h2 : p0 + r ≤ n) (h3 : p0 + l < n) :
    PureOp P K N X h f o (rowSl v k (p0 + l) (r - l)) := by
  intro a w w0 hK env
  obtain ⟨g, c, hv, h4, h5, _⟩ := row_slice env hm (by omega)
  have := pe_slice_ow (P := P) (K := K) (N := N) (X := X) (h := h) l r ho (by rw [hx, hv]; rfl) ht he hlo hhi h1 (by omega) (by omega)
  rw [hv]
  simp only [rowSl]
  rw [show (p0 + l) * k = p0 * k + l * k by rw [Nat.add_mul], show c - (p0 + l) = c - p0 - l by omega]
  exact this a w w0 hK env
theorem pe_index_rs {t e e' : TypeId} {x y : Operand} {v : Value} {n k i p0 n0 : Nat} {cs : List AV} {b : Bool} {ik : IntKind} {z : Int} (ho : o.op = .indexAddr t x y) (hx : evalT f x = rowSl v k p0 n0) (hm : HObj.row v e' k n cs ∈ h) (hn : 0 < n) (ht : P.underlying t = some (.slice e)) (he : tyOf P e = some (b, k))
    (hy : evalT f y = .x (.int ik z)) (hz : z = (i : Int)) (hi : i < n0) : PureOp P K N X h f o (rowPtr v ((p0 + i) * k)) := by
  intro a w w0 hK env
  obtain ⟨g, c, hv, h1, h2, _⟩ := row_slice env hm hn
  have := p_indexAddr_ow (P := P) (K := K) (N := N) (X := X) (h := h) i ho (by rw [hx, hv]; rfl) ht he hy hz hi
  rw [hv]
  simp only [rowPtr]
  rw [show (p0 + i) * k = p0 * k + i * k by rw [Nat.add_mul]]
  exact this a w w0 hK env
theorem pe_len_rs {t e e' : TypeId} {x : Operand} {v : Value} {k k2 n p0 n0 : Nat} {cs : List AV} (ho : o.op = .call { callee := .builtin .len, args := #[x], argTypes := #[t] }) (hx : evalT f x = rowSl v k p0 n0) (hm : HObj.row v e' k2 n cs ∈ h) (hn : 0 < n) (ht : P.underlying t = some (.slice e)) : PureOp P K N X h f o (.x (.int .i64 n0)) := by
  intro a w w0 hK env
  obtain ⟨g, c, hv, h1, h2, _⟩ := row_slice env hm hn
  exact p_len_x (P := P) (K := K) (N := N) (X := X) (h := h) ho (by rw [hx, hv]; rfl) ht a w w0 hK env
end
section
variable {E : EC} {B : Nat → ES → Prop} {R : ES → Prop} {m : Nm} {X : EX} {s : ES}

theorem fnV_ok {v : EV} {K : EV → Tree} (h : (fnV v K).ok E B R) : ∃ u : EV, (K u).ok E B R ∧ Sub (v.den m) (u.den m) := by
  unfold fnV at h
  split at h
  · rename_i g a b
    split at h
    · rename_i e1 e2
      have h1 : a = #[] := by apply Array.toList_inj.1; rw [e1]
      have h2 : b = #[] := by apply Array.toList_inj.1; rw [e2]
      subst h1 h2
      refine ⟨_, h, fun O w u hu => ?_⟩
      simp only [EV.den, rep_x] at hu
      subst hu
      simp only [EV.den, EV.denL, Rep, RepC]
      exact ⟨#[], rfl, rfl, trivial⟩
    · exact ⟨_, h, Sub.refl⟩
  · exact ⟨_, h, Sub.refl⟩
theorem evP_ok (hX : EXok X E.P E.w0.K) {o : Oper} {K : EV → Tree} (h : (evP X s o.op K).ok E B R) : ∃ v : EV, PureOp E.P E.w0.K E.N E.X (EO.denL m 0 s.h) (slotsOf m s.t) o (v.den m) ∧ (K v).ok E B R := by
  cases hop : o.op with
  | move x =>
    rw [hop] at h; simp only [evP] at h
    obtain ⟨v, h1, h2⟩ := opndK_ok (m := m) h
    obtain ⟨u, h3, h4⟩ := fnV_ok (m := m) h1
    exact ⟨u, (h2 ▸ p_move hop : PureOp E.P E.w0.K E.N E.X (EO.denL m 0 s.h) (slotsOf m s.t) o (v.den m)).sub h4, h3⟩
  | assign x =>
    rw [hop] at h; simp only [evP] at h
    obtain ⟨v, h1, h2⟩ := opndK_ok (m := m) h
    obtain ⟨u, h3, h4⟩ := fnV_ok (m := m) h1
    exact ⟨u, (h2 ▸ p_assign hop : PureOp E.P E.w0.K E.N E.X (EO.denL m 0 s.h) (slotsOf m s.t) o (v.den m)).sub h4, h3⟩
  | nilCheck x =>
    rw [hop] at h; simp only [evP] at h
    obtain ⟨v, h1, h2⟩ := opndK_ok (m := m) h
    split at h1
    · exact ⟨_, p_nilCheck hop h2, h1⟩
    · exact ⟨_, p_nilCheck_ip hop h2, h1⟩
    · exact h1.elim
  | binOp op t x y t' =>
    rw [hop] at h; simp only [evP] at h
    obtain ⟨a, h1, h2⟩ := opndK_ok (m := m) h
    obtain ⟨b, h3, h4⟩ := opndK_ok (m := m) h1
    exact binK_ok hX hop h2 h4 h3
  | unOp op t x =>
    rw [hop] at h
    cases op with
    | not =>
      simp only [evP] at h
      obtain ⟨v, h1, h2⟩ := opndK_ok (m := m) h
      split at h1
      · exact ⟨_, p_not hop h2, h1⟩
      · rename_i b
        cases b
        · exact ⟨_, p_not hop h2, h1⟩
        · exact ⟨_, p_not hop h2, h1⟩
      · exact h1.elim
    | neg =>
      simp only [evP] at h
      obtain ⟨v, h1, h2⟩ := opndK_ok (m := m) h
      split at h1
      · obtain ⟨u, h3, h4⟩ := fitK_ok (m := m) h1
        exact ⟨u, h4 ▸ p_neg hop h2, h3⟩
      · exact h1.elim
    | _ => exact h.elim
  | pick c x y =>
    rw [hop] at h; simp only [evP] at h
    obtain ⟨cv, h1, h2⟩ := opndK_ok (m := m) h
    obtain ⟨a, h3, h4⟩ := opndK_ok (m := m) h1
    obtain ⟨b, h5, h6⟩ := opndK_ok (m := m) h3
    split at h5
    · rename_i b'
      cases b'
      · exact ⟨_, p_pick hop h2 h6, h5⟩
      · exact ⟨_, p_pick hop h2 h4, h5⟩
    · rename_i b'
      cases hb : b' with
      | true =>
        rw [hb] at h2
        exact ⟨a, p_pick hop h2 (by rw [if_pos rfl]; exact h4), h5.1 hb⟩
      | false =>
        rw [hb] at h2
        exact ⟨b, p_pick hop h2 (by simpa using h6), h5.2 hb⟩
    · exact h5.elim
  | extract x i =>
    rw [hop] at h; simp only [evP] at h
    obtain ⟨v, h1, h2⟩ := opndK_ok (m := m) h
    split at h1
    · obtain ⟨u, h3, h4⟩ := nthK_ok h1
      refine ⟨u, p_extract hop h2 ?_, h4⟩
      rw [EV.denL_map, List.getElem?_map, h3]; rfl
    · exact h1.elim
  | convert src dst x =>
    rw [hop] at h; simp only [evP] at h
    obtain ⟨v, h1, h2⟩ := opndK_ok (m := m) h
    obtain ⟨si, s1, h3⟩ := tiK_at hX h1
    obtain ⟨ti, t1, h4⟩ := tiK_at hX h3
    split at h4
    · rename_i e1 e2
      have k1 := s1.kd; rw [e1] at k1
      have k2 := t1.kd; rw [e2] at k2
      unfold convK at h4
      split at h4
      · obtain ⟨u, h5, h6⟩ := fitK_ok (m := m) h4
        exact ⟨u, h6 ▸ p_conv_int hop k1 k2 h2, h5⟩
      · exact h4.elim
    · exact h4.elim
  | field t x j =>
    rw [hop] at h; simp only [evP] at h
    obtain ⟨v, h1, h2⟩ := opndK_ok (m := m) h
    cases hg : v.isAgg with
    | false => rw [hg] at h1; exact h1.elim
    | true =>
      rw [hg] at h1
      obtain ⟨ti, t1, h3⟩ := tiK_at hX h1
      split at h3
      · rename_i fs e1
        have k1 := t1.kd; rw [e1] at k1
        obtain ⟨p, h4, h5⟩ := nthK_ok h3
        obtain ⟨ui, u1, h6⟩ := tiK_at hX h5
        obtain ⟨u, h7, h8⟩ := getP_ok (m := m) _ _ _ _ _ h6
        obtain ⟨u', h9, h10⟩ := typK_ok (m := m) h7
        rw [poff_oo, show poff [] = 0 from rfl, Nat.add_zero] at h8
        have hfd : tyField E.P t j = some (p.1, p.2) := by unfold tyField; rw [k1.1]; exact h4
        rw [EV.den_agg m v hg] at h2
        exact ⟨u', (p_field hop h2 hfd u1.ty h8).sub h10, h9⟩
      · exact h3.elim
  | fieldAddr t x j =>
    rw [hop] at h; simp only [evP] at h
    obtain ⟨v, h1, h2⟩ := opndK_ok (m := m) h
    obtain ⟨ti, t1, h3⟩ := tiK_at hX h1
    split at h3
    · rename_i fs e1
      have k1 := t1.kd; rw [e1] at k1
      obtain ⟨p, h4, h5⟩ := nthK_ok h3
      obtain ⟨ui, u1, h6⟩ := tiK_at hX h5
      have hfd : tyField E.P t j = some (p.1, p.2) := by unfold tyField; rw [k1.1]; exact h4
      cases hz : Nat.beq ui.sz 0 with
      | true => rw [hz] at h6; exact h6.elim
      | false =>
        rw [hz] at h6
        have hne : ui.sz ≠ 0 := fun e => by rw [e] at hz; cases hz
        simp only [cond_false] at h6
        split at h6
        · refine ⟨_, ?_, h6⟩
          have := p_fieldAddr_own (K := E.w0.K) (N := E.N) (X := E.X) (h := EO.denL m 0 s.h) hop h2 hfd u1.ty hne
          simp only [EV.den]
          rw [poff_app, poff_oo]
          exact this
        · refine ⟨_, ?_, h6⟩
          have := p_fieldAddr_ip (K := E.w0.K) (N := E.N) (X := E.X) (h := EO.denL m 0 s.h) hop h2 hfd u1.ty hne
          simp only [EV.den]
          rw [poff_app, poff_oo, show poff [] = 0 from rfl, Nat.add_zero]
          rw [List.drop_drop] at this
          exact this
        · exact h6.elim
    · exact h3.elim
  | indexAddr t x y =>
    rw [hop] at h; simp only [evP] at h
    obtain ⟨v, h1, h2⟩ := opndK_ok (m := m) h
    obtain ⟨iv, h3, h4⟩ := opndK_ok (m := m) h1
    obtain ⟨ti, t1, h5⟩ := tiK_at hX h3
    split at h5
    · rename_i n e _ z e1
      have k1 := t1.kd; rw [e1] at k1
      obtain ⟨ei, u1, h6⟩ := tiK_at hX h5
      split at h6
      · obtain ⟨hz, h7⟩ := h6
        refine ⟨_, ?_, h7⟩
        have := p_indexAddr_arr (K := E.w0.K) (N := E.N) (X := E.X) (h := EO.denL m 0 s.h) hop h2 k1 u1.ty h4 (i := z.toNat) (Int.toNat_of_nonneg hz.1).symm (by omega)
        simp only [EV.den]
        rw [poff_app]
        simpa only [poff, Nat.add_zero] using this
      · exact h6.elim
    · rename_i e bt _ z e1
      have k1 := t1.kd; rw [e1] at k1
      obtain ⟨ei, u1, h6⟩ := tiK_at hX h5
      cases hz0 : Nat.beq ei.sz 0 with
      | true => rw [hz0] at h6; exact h6.elim
      | false =>
        rw [hz0] at h6
        have hne : ei.sz ≠ 0 := fun e => by rw [e] at hz0; cases hz0
        simp only [cond_false] at h6
        split at h6
        · rename_i a l
          cases hs : Nat.beq ei.sz a.size with
          | false => rw [hs] at h6; exact h6.elim
          | true =>
            rw [hs] at h6
            obtain ⟨hz, h7⟩ := h6
            refine ⟨_, ?_, h7⟩
            have hsz := beqN hs
            have := p_indexAddr_sl (K := E.w0.K) (N := E.N) (X := E.X) (h := EO.denL m 0 s.h) hop h2 k1.1 (by rw [u1.ty, hsz]) (by rw [← hsz]; exact hne) h4 (i := z.toNat) (Int.toNat_of_nonneg hz.1).symm (by omega)
            exact this.sub (idx_lp (by omega))
        · rename_i i
          obtain ⟨ob, g1, g2, g3⟩ := nthK_mem (m := m) h6
          split at g3
          · rename_i e2 a l
            cases hs : Nat.beq ei.sz a.size with
            | false => rw [hs] at g3; exact g3.elim
            | true =>
              rw [hs] at g3
              obtain ⟨hz, h7⟩ := g3
              have hsz := beqN hs
              refine ⟨_, ?_, h7⟩
              have := pe_index_row (K := E.w0.K) (N := E.N) (X := E.X) (h := EO.denL m 0 s.h) hop h2 g2 k1.1 (by rw [u1.ty, hsz]) h4 (i := z.toNat) (Int.toNat_of_nonneg hz.1).symm (by omega)
              simp only [EV.den, poff, Nat.add_zero]
              exact this
          · exact g3.elim
        · rename_i i k lo n
          obtain ⟨ob, g1, g2, g3⟩ := nthK_mem (m := m) h6
          split at g3
          · rename_i e2 a l
            cases hs : (Nat.beq ei.sz a.size && Nat.beq k a.size) with
            | false => rw [hs] at g3; exact g3.elim
            | true =>
              rw [hs] at g3
              simp only [Bool.and_eq_true] at hs
              obtain ⟨hz, hz2, h7⟩ := g3
              have hsz := beqN hs.1
              have hk := beqN hs.2
              subst hk
              refine ⟨_, ?_, h7⟩
              have := pe_index_rs (K := E.w0.K) (N := E.N) (X := E.X) (h := EO.denL m 0 s.h) hop h2 g2 (by omega) k1.1 (by rw [u1.ty, hsz]) h4 (i := z.toNat) (Int.toNat_of_nonneg hz.1).symm (by omega)
              simp only [EV.den, poff, Nat.add_zero]
              exact this
          · exact g3.elim
        · exact h6.elim
    · exact h5.elim
  | index t x y =>
    rw [hop] at h; simp only [evP] at h
    obtain ⟨v, h1, h2⟩ := opndK_ok (m := m) h
    obtain ⟨iv, h3, h4⟩ := opndK_ok (m := m) h1
    obtain ⟨ti, t1, h5⟩ := tiK_at hX h3
    split at h5
    · rename_i b _ z e1
      have k1 := t1.kd; rw [e1] at k1
      obtain ⟨hz, h6⟩ := h5
      refine ⟨_, ?_, h6⟩
      have hlt : z.toNat < b.size := by omega
      have := p_index_str (K := E.w0.K) (N := E.N) (X := E.X) (h := EO.denL m 0 s.h) hop h2 k1 h4 (i := z.toNat) (Int.toNat_of_nonneg hz.1).symm (c := b[z.toNat]!) (by rw [getElem!_pos b z.toNat hlt]; simp [hlt])
      exact this
    · rename_i v _ _ _ n e _ z e1
      have k1 := t1.kd; rw [e1] at k1
      cases hg : v.isAgg with
      | false => rw [hg] at h5; exact h5.elim
      | true =>
        rw [hg] at h5
        obtain ⟨ei, u1, h6⟩ := tiK_at hX h5
        obtain ⟨hz, h7⟩ := h6
        obtain ⟨u, h8, h9⟩ := getP_ok (m := m) _ _ _ _ _ h7
        simp only [poff, Nat.add_zero] at h9
        rw [EV.den_agg m v hg] at h2
        exact ⟨u, p_index_arr hop h2 k1 u1.ty h4 (i := z.toNat) (Int.toNat_of_nonneg hz.1).symm (by omega) h9, h8⟩
    · exact h5.elim
  | load t x =>
    rw [hop] at h; simp only [evP] at h
    obtain ⟨v, h1, h2⟩ := opndK_ok (m := m) h
    obtain ⟨ti, t1, h3⟩ := tiK_at hX h1
    split at h3
    · obtain ⟨ob, g1, g2, g3⟩ := nthK_mem (m := m) h3
      split at g3
      · obtain ⟨u, h4, h5⟩ := getP_ok (m := m) _ _ _ _ _ g3
        obtain ⟨u', h6, h7⟩ := typK_ok (m := m) h4
        refine ⟨u', (p_load_own hop h2 g2 t1.ty ?_).sub h7, h6⟩
        rcases h5 with ⟨a1, a2, a3⟩ | ⟨a1, a2⟩
        · exact .inl ⟨a1, by rw [List.length_drop]; omega, a3⟩
        · exact .inr ⟨a1, by rw [List.getElem?_drop]; simpa using a2⟩
      · exact g3.elim
    · rename_i a xx p
      obtain ⟨u, h4, h5⟩ := subK_ok (m := m) _ _ _ _ _ _ h3
      refine ⟨u, p_load_ip hop h2 t1.ty ?_, h4⟩
      rcases h5 with ⟨a1, a2, a3⟩ | ⟨a1, a2⟩
      · exact .inl ⟨a1, by rw [List.length_drop]; omega, a3⟩
      · exact .inr ⟨a1, by rw [List.getElem?_drop]; simpa using a2⟩
    · rename_i i k z p
      obtain ⟨ob, g1, g2, g3⟩ := nthK_mem (m := m) h3
      split at g3
      · rename_i e2 a l
        cases hs : Nat.beq k a.size with
        | false => rw [hs] at g3; exact g3.elim
        | true =>
          rw [hs] at g3
          obtain ⟨hz, h4⟩ := g3
          obtain rfl := beqN hs
          obtain ⟨u, h5, h6⟩ := subK_ok (m := m) _ _ _ _ _ _ h4
          refine ⟨u, pe_load_row hop h2 g2 (by omega) t1.ty ?_, h5⟩
          exact flatMap_part (fun x => Ty.enc_len a x) (getD_lt hz) h6
      · exact g3.elim
    · exact h3.elim
  | build t parts =>
    rw [hop] at h; simp only [evP] at h
    obtain ⟨vs, h1, h2⟩ := opndpK_ok (m := m) h
    obtain ⟨ti, t1, h3⟩ := tiK_at hX h1
    split at h3
    · rename_i fs e1
      have k1 := t1.kd; rw [e1] at k1
      cases hc : (vs.all (fun p => p.2.okS) && ti.ag) with
      | false => rw [hc] at h3; exact h3.elim
      | true =>
        rw [hc] at h3
        simp only [cond_true] at h3
        simp only [Bool.and_eq_true] at hc
        obtain ⟨c, h4, h5⟩ := zeroK_ok (m := m) t1 h3
        obtain ⟨ps, hps⟩ := Option.isSome_iff_exists.1 k1.2
        obtain ⟨c', h6, res, h7, h8⟩ := putsK_ok (m := m) hX k1.1 hps h4 h5 hc.1
        obtain ⟨hca, h6⟩ : c'.isAgg = true ∧ (typK ti.code c' K).ok E B R := by
          cases hca : c'.isAgg with
          | true => rw [hca] at h6; exact ⟨rfl, h6⟩
          | false => rw [hca] at h6; exact h6.elim
        obtain ⟨u, h9, h10⟩ := typK_ok (m := m) h6
        refine ⟨u, ?_, h9⟩
        have hop' : o.op = .build t parts.toList.toArray := by rw [hop]
        have hpb := p_build (K := E.w0.K) (N := E.N) (X := E.X) (h := EO.denL m 0 s.h) hop' t1.zero hps (flats_of (m := m) h2 hc.1) (by rw [h2]; exact h7)
        have hl := h8.len
        exact hpb.sub ((by rw [EV.den_agg m c' hca]; exact Sub.agg h8 : Sub (.agg res) (c'.den m)).trans h10)
    · exact h3.elim
  | buildSlice t n parts =>
    rw [hop] at h; simp only [evP] at h
    obtain ⟨vs, h1, h2⟩ := opndpK_ok (m := m) h
    obtain ⟨ti, t1, h3⟩ := tiK_at hX h1
    split at h3
    · rename_i e bt e1
      have k1 := t1.kd; rw [e1] at k1
      obtain ⟨ei, u1, h4⟩ := tiK_at hX h3
      split at h4
      · rename_i a ea
        cases hc : (vs.all (fun p => p.2.okS) && Nat.beq n vs.length && !Nat.beq ei.sz 0 && !Nat.beq n 0 && Nat.ble (n * ei.sz) 16777216) with
        | false => rw [hc] at h4; exact h4.elim
        | true =>
          rw [hc] at h4
          simp only [cond_true] at h4
          simp only [Bool.and_eq_true, Bool.not_eq_true'] at hc
          obtain ⟨⟨⟨⟨c1, c2⟩, c3⟩, c4⟩, c5⟩ := hc
          have hn := beqN c2
          have hne : ei.sz ≠ 0 := fun e => by rw [e] at c3; cases c3
          have hn0 : n ≠ 0 := fun e => by rw [e] at c4; cases c4
          have hsz : a.size = ei.sz := (u1.code a ea).1
          obtain ⟨l, g1, g2, res, g3, g4⟩ := elemsK_ok (m := m) (i := 0) (done := []) (rest := zcells ei.zs (n * ei.sz)) h4 c1 (by simp) (by unfold zcells; rw [List.length_map, List.length_range, hn, hsz])
          simp only [List.nil_append, hsz] at g3
          refine ⟨_, ?_, g1⟩
          have hop' : o.op = .buildSlice t n parts.toList.toArray := by rw [hop]
          have hrl : res.length = n * ei.sz := by rw [g4.len, flat_len_ (fun x => Ty.enc_len a x), g2, hn, hsz]
          have := p_buildSlice (K := E.w0.K) (N := E.N) (X := E.X) (h := EO.denL m 0 s.h) hop' u1.zero k1.1 u1.ty (Nat.le_of_ble_eq_true c5) (Nat.mul_pos (by omega) (by omega)) (flats_of (m := m) h2 c1) (by rw [h2]; exact g3) hrl
          simp only [EV.den, Ty.den]
          rw [hsz, show l.length = n by omega]
          exact this.sub (Sub.sl g4)
      · exact h4.elim
    · exact h3.elim
  | makeFunc fn first captured =>
    rw [hop] at h
    cases fn with
    | func g =>
      simp only [evP] at h
      split at h
      · rename_i e1
        have h0 : first = #[] := by
          apply Array.toList_inj.1; rw [e1]
        obtain ⟨vs, h1, h2⟩ := opndsK_ok (m := m) h
        exact ⟨_, p_makeFn hop h0 (SubL.of_eq h2), h1⟩
      · exact h.elim
    | _ => exact h.elim
  | slice t x lo hi mx =>
    rw [hop] at h
    cases mx with
    | some _ => exact h.elim
    | none =>
      simp only [evP] at h
      obtain ⟨v, h1, h2⟩ := opndK_ok (m := m) h
      obtain ⟨ti, t1, h3⟩ := tiK_at hX h1
      split at h3
      · rename_i e bt a l e1
        have k1 := t1.kd; rw [e1] at k1
        obtain ⟨ei, u1, h4⟩ := tiK_at hX h3
        cases hs : Nat.beq ei.sz a.size with
        | false => rw [hs] at h4; exact h4.elim
        | true =>
          rw [hs] at h4
          simp only [cond_true] at h4
          have hsz := beqN hs
          obtain ⟨i, h5, h6⟩ := bndK_ok (m := m) h4
          obtain ⟨j, h7, h8⟩ := bndK_ok (m := m) h5
          obtain ⟨⟨hij, hj⟩, h9⟩ := h7
          have := pCut (K := E.w0.K) (N := E.N) (X := E.X) (h := EO.denL m 0 s.h) (enc := a.enc) i j hop h2 k1.1 (by rw [u1.ty, hsz]) (fun x => Ty.enc_len a x) h6 h8 hij hj
          split at h9
          · obtain rfl : i = 0 := h6
            obtain rfl : j = l.length := h8
            refine ⟨_, ?_, h9⟩
            rw [List.take_length, List.drop_zero] at this
            exact this
          · obtain rfl : i = 0 := h6
            refine ⟨_, ?_, h9⟩
            rw [List.drop_zero] at this
            exact this
          · obtain rfl : j = l.length := h8
            refine ⟨_, ?_, h9⟩
            rw [List.take_length] at this
            exact this
          · exact ⟨.td (.list a) ((l.take j).drop i), this, h9⟩
      · rename_i e bt i e1
        have k1 := t1.kd; rw [e1] at k1
        obtain ⟨ei, u1, h4⟩ := tiK_at hX h3
        obtain ⟨ob, g1, g2, g3⟩ := nthK_mem (m := m) h4
        split at g3
        · rename_i e2 a l
          cases hs : Nat.beq ei.sz a.size with
          | false => rw [hs] at g3; exact g3.elim
          | true =>
            rw [hs] at g3
            simp only [cond_true] at g3
            have hsz := beqN hs
            obtain ⟨p, h5, h6⟩ := bndK_ok (m := m) g3
            obtain ⟨q, h7, h8⟩ := bndK_ok (m := m) h5
            obtain ⟨⟨h9, h10, h11⟩, h12⟩ := h7
            exact ⟨_, pe_slice_row p q hop h2 g2 k1.1 (by rw [u1.ty, hsz]) h6 h8 h9 h10 h11, h12⟩
        · exact g3.elim
      · rename_i e bt i k p0 n e1
        have k1 := t1.kd; rw [e1] at k1
        obtain ⟨ei, u1, h4⟩ := tiK_at hX h3
        obtain ⟨ob, g1, g2, g3⟩ := nthK_mem (m := m) h4
        split at g3
        · rename_i e2 a l
          cases hs : (Nat.beq ei.sz a.size && Nat.beq k a.size) with
          | false => rw [hs] at g3; exact g3.elim
          | true =>
            rw [hs] at g3
            simp only [cond_true] at g3
            simp only [Bool.and_eq_true] at hs
            have hsz := beqN hs.1
            have hk := beqN hs.2
            subst hk
            obtain ⟨p, h5, h6⟩ := bndK_ok (m := m) g3
            obtain ⟨q, h7, h8⟩ := bndK_ok (m := m) h5
            obtain ⟨⟨h9, h10, h11⟩, h12⟩ := h7
            exact ⟨_, pe_slice_rs p q hop h2 g2 k1.1 (by rw [u1.ty, hsz]) h6 h8 h9 h10 h11, h12⟩
        · exact g3.elim
      · rename_i b e1
        have k1 := t1.kd; rw [e1] at k1
        obtain ⟨i, h5, h6⟩ := bndK_ok (m := m) h3
        obtain ⟨j, h7, h8⟩ := bndK_ok (m := m) h5
        obtain ⟨⟨hij, hj⟩, h9⟩ := h7
        exact ⟨_, p_slice_str hop h2 k1 h6 h8 hij hj, h9⟩
      · exact h3.elim
  | call c =>
    rw [hop] at h; simp only [evP] at h
    obtain ⟨cal, xs, ts⟩ := c
    simp only at h
    split at h
    · -- len
      split at h
      · rename_i x t e1 e2
        obtain rfl : xs = #[x] := by apply Array.toList_inj.1; rw [e1]
        obtain rfl : ts = #[t] := by apply Array.toList_inj.1; rw [e2]
        obtain ⟨v, h1, h2⟩ := opndK_ok (m := m) h
        obtain ⟨ti, t1, h3⟩ := tiK_at hX h1
        have k1 := t1.kd
        split at h3
        · rename_i e3; rw [e3] at k1
          exact ⟨_, p_len_str hop h2 k1, h3⟩
        · rename_i e3; rw [e3] at k1
          exact ⟨_, p_len_sl hop h2 k1.1, h3⟩
        · rename_i e3; rw [e3] at k1
          exact ⟨_, p_len_x hop h2 k1.1, h3⟩
        · rename_i e3; rw [e3] at k1
          obtain ⟨ob, g1, g2, g3⟩ := nthK_mem (m := m) h3
          split at g3
          · exact ⟨_, p_len_row hop h2 g2 k1.1, g3⟩
          · exact g3.elim
        · rename_i e3; rw [e3] at k1
          obtain ⟨ob, g1, g2, g3⟩ := nthK_mem (m := m) h3
          split at g3
          · exact ⟨_, pe_len_rs hop h2 g2 g3.1 k1.1, g3.2⟩
          · exact g3.elim
        · exact h3.elim
      · exact h.elim
    · -- min
      split at h
      · rename_i x y t t' e1 e2
        obtain rfl : xs = #[x, y] := by apply Array.toList_inj.1; rw [e1]
        obtain rfl : ts = #[t, t'] := by apply Array.toList_inj.1; rw [e2]
        obtain ⟨v, h1, h2⟩ := opndK_ok (m := m) h
        obtain ⟨w, h3, h4⟩ := opndK_ok (m := m) h1
        split at h3
        · split at h3
          · rename_i p _
            obtain rfl := eqK_int (p := p)
            exact ⟨_, p_min hop h2 h4, h3⟩
          · exact h3.elim
        · exact h3.elim
      · exact h.elim
    · -- max
      split at h
      · rename_i x y t t' e1 e2
        obtain rfl : xs = #[x, y] := by apply Array.toList_inj.1; rw [e1]
        obtain rfl : ts = #[t, t'] := by apply Array.toList_inj.1; rw [e2]
        obtain ⟨v, h1, h2⟩ := opndK_ok (m := m) h
        obtain ⟨w, h3, h4⟩ := opndK_ok (m := m) h1
        split at h3
        · split at h3
          · rename_i p _
            obtain rfl := eqK_int (p := p)
            exact ⟨_, p_max hop h2 h4, h3⟩
          · exact h3.elim
        · exact h3.elim
      · exact h.elim
    · -- a function
      rename_i g
      obtain ⟨vs, h2, h3⟩ := opndsK_ok (m := m) h
      exact evCall_ok (cs := []) (vs := vs) hX hop h3 (.inr ⟨rfl, rfl⟩) (fun avs av hp hs => p_call hop hp (by simpa [EV.denL] using hs)) (by rw [List.append_nil]; exact h2)
    · obtain ⟨cv, h1, h2⟩ := opndK_ok (m := m) h
      split at h1
      · rename_i g cs
        obtain ⟨vs, h3, h4⟩ := opndsK_ok (m := m) h1
        exact evCall_ok (cs := cs) (vs := vs) hX hop h4 (.inl h2) (fun avs av hp hs => p_callf hop h2 hp hs) h3
      · exact h1.elim
    · exact h.elim
  | _ => rw [hop] at h; exact h.elim
end
end Go.Proofs.Ytpehmadeklaebaa
