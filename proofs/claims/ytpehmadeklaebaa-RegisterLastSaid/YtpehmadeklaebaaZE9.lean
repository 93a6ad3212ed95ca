/-
  E8 E9
-/
import Derived.Test.YtpehmadeklaebaaZE7
namespace Go.Proofs.Ytpehmadeklaebaa
open Go Go.RowKit
set_option linter.unusedVariables false
set_option linter.unusedSimpArgs false

section
variable {E : EC} {B : Nat → ES → Prop} {R : ES → Prop} {m : Nm} {X : EX} {s : ES}
variable {Z : Nat → Prop} {hh : List HObj} {f : Nat → AV} {N : Nat} {o : Oper}

theorem typK_ok {c : Option Ty} {v : EV} {K : EV → Tree} (h : (typK c v K).ok E B R) : ∃ u : EV, (K u).ok E B R ∧ Sub (v.den m) (u.den m) := by
  unfold typK at h
  split at h
  · split at h
    · rename_i fs _ c
      cases hc : ((EV.st fs).typed && c.agg) with
      | true =>
        rw [hc] at h
        simp only [Bool.and_eq_true] at hc
        obtain ⟨x, h1, h2⟩ := decK_ok (m := m) h
        refine ⟨_, h1, ?_⟩
        rw [EV.den_agg m (.td c x) hc.2]
        exact Sub.agg h2
      | false => rw [hc] at h; exact ⟨_, h, Sub.refl⟩
    · exact ⟨_, h, Sub.refl⟩
  · exact ⟨_, h, Sub.refl⟩
theorem bndK_ok {d : Nat} {x : Option Operand} {K : Nat → Tree} (h : (bndK s d x K).ok E B R) : ∃ n, (K n).ok E B R ∧ boundOf (slotsOf m s.t) d x n := by
  unfold bndK at h
  split at h
  · exact ⟨d, h, rfl⟩
  · obtain ⟨v, h1, h2⟩ := opndK_ok (m := m) h
    split at h1
    · refine ⟨_, h1.2, _, _, h2, ?_⟩
      exact (Int.toNat_of_nonneg h1.1).symm
    · exact h1.elim
theorem zeroK_ok {P : Program} {t : TypeId} {ti : TI} (hti : TIok P t ti) {K : EV → Tree} (h : (zeroK ti K).ok E B R) : ∃ c : EV, (K c).ok E B R ∧ SubL (ti.zs.map .x) (c.flat m) := by
  have hc : ∀ zs : List Value, EV.flatL m (zs.map constE) = zs.map .x := by
    intro zs
    induction zs with
    | nil => rfl
    | cons z zs ih => simp only [List.map_cons, EV.flatL, constE_flat, ih, List.singleton_append]
  unfold zeroK at h
  split at h
  · obtain ⟨x, r, h1, h2⟩ := decL_ok (m := m) _ _ _ h
    split at h1
    · refine ⟨_, h1, ?_⟩
      rw [hc] at h2
      simpa only [EV.flatL, List.append_nil, EV.flat] using h2
    · exact h1.elim
  · exact ⟨_, h, SubL.of_eq (by simp only [EV.flat, hc])⟩
theorem opndpK_ok : ∀ {l : List (Nat × Operand)} {K : List (Nat × EV) → Tree}, (opndpK s l K).ok E B R → ∃ vs : List (Nat × EV), (K vs).ok E B R ∧ l.map (fun p => (p.1, evalT (slotsOf m s.t) p.2)) = vs.map (fun p => (p.1, p.2.den m))
  | [], K, h => ⟨[], h, rfl⟩
  | x :: l, K, h => by
    obtain ⟨v, h1, h2⟩ := opndK_ok (m := m) h
    obtain ⟨vs, h3, h4⟩ := opndpK_ok h1
    exact ⟨_, h3, by simp only [List.map_cons, h2, h4]⟩
theorem flats_of {l : List (Nat × Operand)} {vs : List (Nat × EV)} (he : l.map (fun p => (p.1, evalT f p.2)) = vs.map (fun p => (p.1, p.2.den m))) (ho : vs.all (fun p => p.2.okS) = true) : flats f l = true := by
  induction l generalizing vs with
  | nil => rfl
  | cons p l ih =>
    match vs, he with
    | q :: vs, he =>
      simp only [List.map_cons, List.cons.injEq, Prod.mk.injEq] at he
      simp only [List.all_cons, Bool.and_eq_true] at ho
      simp only [flats, Bool.and_eq_true]
      exact ⟨by rw [he.1.2]; exact okS_flat m q.2 ho.1, ih he.2 ho.2⟩
theorem mapM_get {α β : Type} {g : α → Option β} : ∀ {l : List α} {ps : List β}, l.mapM g = some ps → ∀ (j : Nat) (x : α), l[j]? = some x → ∃ y, ps[j]? = some y ∧ g x = some y
  | [], ps, h, j, x, hj => by simp at hj
  | a :: l, ps, h, j, x, hj => by
    simp only [List.mapM_cons, Option.bind_eq_bind, Option.pure_def, Option.bind_eq_some_iff, Option.some.injEq] at h
    obtain ⟨y, hy, ys, hys, rfl⟩ := h
    cases j with
    | zero =>
      obtain rfl : a = x := by simpa using hj
      exact ⟨y, rfl, hy⟩
    | succ j => exact mapM_get hys j x (by simpa using hj)
theorem places_get {P : Program} {t : TypeId} {fs ps : List (Nat × Nat)} (h1 : tyFields P t = some fs) (h2 : stPlaces P t = some ps) (j : Nat) (p : Nat × Nat) (hj : fs[j]? = some p) : ∃ q b, ps[j]? = some (p.1, q) ∧ tyOf P p.2 = some (b, q) := by
  unfold stPlaces at h2
  rw [h1] at h2
  obtain ⟨y, hy, hg⟩ := mapM_get (by simpa using h2) j p hj
  simp only [Option.map_eq_some_iff] at hg
  obtain ⟨⟨b, k⟩, g1, rfl⟩ := hg
  exact ⟨k, b, hy, g1⟩
/-- Parts put one after the other. -/
theorem putsK_ok (hX : EXok X E.P E.w0.K) {t : TypeId} {fs ps : List (Nat × Nat)} (hf : tyFields E.P t = some fs) (hp : stPlaces E.P t = some ps) : ∀ {vs : List (Nat × EV)} {c : EV} {K : EV → Tree} {cells : List AV}, (putsK X fs c vs K).ok E B R → SubL cells (c.flat m) → vs.all (fun p => p.2.okS) = true →
    ∃ c' : EV, (K c').ok E B R ∧ ∃ res, fillA (ps[·]?) cells (vs.map fun p => (p.1, p.2.den m)) = some res ∧ SubL res (c'.flat m)
  | [], c, K, cells, h, hs, _ => ⟨c, h, cells, rfl, hs⟩
  | (j, w) :: vs, c, K, cells, h, hs, ho => by
    unfold putsK at h
    simp only [List.all_cons, Bool.and_eq_true] at ho
    obtain ⟨p, h1, h2⟩ := nthK_ok h
    obtain ⟨ui, u1, h2⟩ := tiK_at hX h2
    cases hcs : Nat.beq w.size ui.sz with
    | false => rw [hcs] at h2; exact h2.elim
    | true =>
      rw [hcs] at h2
      have hw := beqN hcs
      obtain ⟨u, h3, h4, h5⟩ := putP_ok (m := m) c _ w _ h2
      rw [poff_oo, show poff [] = 0 from rfl, Nat.add_zero] at h4 h5
      obtain ⟨q, b, hq, hq1⟩ := places_get hf hp j p h1
      rw [u1.ty] at hq1
      injection hq1 with hq1
      injection hq1 with _ hq1
      have hc := okS_cells m w ho.1
      have hl := hs.len
      rw [EV.flat_len] at hl
      obtain ⟨c', g1, res, g2, g3⟩ := putsK_ok hX hf hp (cells := spl cells p.1 (w.flat m)) h3 ((hs.spl p.1 (SubL.refl _)).trans h5) ho.2
      refine ⟨c', g1, res, ?_, g3⟩
      simp only [List.map_cons, fillA, hq, hc]
      rw [EV.flat_len, ← hq1, ← hw]
      have b1 : Nat.beq w.size w.size = true := by simp
      have b2 : Nat.ble (p.1 + w.size) cells.length = true := Nat.ble_eq_true_of_le (by omega)
      simp only [b1, b2, Bool.and_self, cond_true]
      exact g2
end
end Go.Proofs.Ytpehmadeklaebaa

namespace Go.Proofs.Ytpehmadeklaebaa
open Go Go.RowKit
set_option linter.unusedVariables false
set_option linter.unusedSimpArgs false

theorem Sub.sl {k n : Nat} {cs ds : List AV} (h : SubL cs ds) : Sub (.sl k n cs) (.sl k n ds) := fun O w v hr => by
  simp only [Rep] at hr ⊢
  obtain ⟨h0, A, c, h1, h2, h3, h4⟩ := hr
  refine ⟨by rw [← h.len]; exact h0, A, c, h1, h2, h3, ?_⟩
  rcases h4 with h4 | ⟨ad, rfl, h5, h6, h7⟩
  · exact .inl h4
  · exact .inr ⟨ad, rfl, h5, h6, h.repC h7⟩
theorem Sub.ip_pre {a b : List AV} : Sub (.ip (a ++ b)) (.ip a) := fun O w v hr => by
  simp only [Rep] at hr ⊢
  obtain ⟨ad, h1, h2, h3, h4⟩ := hr
  refine ⟨ad, h1, h2, h3, ?_⟩
  have := h4.take a.length
  rwa [List.take_left] at this

section
variable {E : EC} {B : Nat → ES → Prop} {R : ES → Prop} {m : Nm} {X : EX} {s : ES}

theorem elemsK_ok {a : Ty} : ∀ {vs : List (Nat × EV)} {i : Nat} {K : List a.T → Tree} {done rest : List AV}, (elemsK a i vs K).ok E B R → vs.all (fun p => p.2.okS) = true → done.length = i * a.size → rest.length = vs.length * a.size →
    ∃ l : List a.T, (K l).ok E B R ∧ l.length = vs.length ∧ ∃ res, fillA (fun i => some (i * a.size, a.size)) (done ++ rest) (vs.map fun p => (p.1, p.2.den m)) = some (done ++ res) ∧ SubL res (l.flatMap a.enc)
  | [], i, K, done, rest, h, _, hd, hr => by
    have : rest = [] := List.eq_nil_of_length_eq_zero (by simpa using hr)
    subst this
    exact ⟨[], h, rfl, [], rfl, trivial⟩
  | (j, w) :: vs, i, K, done, rest, h, ho, hd, hr => by
    unfold elemsK at h
    simp only [List.all_cons, Bool.and_eq_true] at ho
    cases hc : Nat.beq i j with
    | false => rw [hc] at h; exact h.elim
    | true =>
      rw [hc] at h
      obtain rfl := beqN hc
      obtain ⟨x, h1, h2⟩ := decK_ok (m := m) h
      have hl := h2.len
      rw [Ty.enc_len] at hl
      have hw : w.size = a.size := by rw [← hl, EV.flat_len]
      have hrl : rest.length = a.size + vs.length * a.size := by rw [hr, List.length_cons, Nat.add_mul, Nat.one_mul, Nat.add_comm]
      obtain ⟨l, g1, g2, res, g3, g4⟩ := elemsK_ok (done := done ++ w.flat m) (rest := rest.drop a.size) h1 ho.2 (by rw [List.length_append, hd, hl, Nat.add_mul, Nat.one_mul]) (by rw [List.length_drop]; omega)
      refine ⟨x :: l, g1, by simp [g2], w.flat m ++ res, ?_, ?_⟩
      · simp only [List.map_cons, fillA, okS_cells m w ho.1, hl]
        have b1 : Nat.beq a.size a.size = true := by simp
        have b2 : Nat.ble (i * a.size + a.size) (done ++ rest).length = true := Nat.ble_eq_true_of_le (by rw [List.length_append, hd]; omega)
        simp only [b1, b2, Bool.and_self, cond_true]
        have e : spl (done ++ rest) (i * a.size) (w.flat m) = (done ++ w.flat m) ++ rest.drop a.size := by
          rw [show i * a.size = done.length + 0 by omega, spl_right]
          unfold spl
          rw [List.take_zero, Nat.zero_add, hl]; simp
        rw [e, g3, List.append_assoc]
      · rw [List.flatMap_cons]; exact h2.append g4

theorem PFn.pre {P : Program} {K : Prop} {g : FuncId} {avs bvs : List AV} {av : AV} (h : PFn P K g bvs av) (hs : SubL avs bvs) : PFn P K g avs av :=
  ⟨h.enter, fun O w args hO hl hr => h.calls O w args hO (by rw [hl, hs.len]) (hs.repC hr)⟩
theorem decT_ok {a : Ty} {v : EV} {K : a.T → Tree} (h : (decT a v K).ok E B R) : ∃ x : a.T, (K x).ok E B R ∧ Sub (v.den m) (a.den x) := by
  unfold decT at h
  split at h
  · rename_i fs
    cases hc : a.agg with
    | false => rw [hc] at h; exact h.elim
    | true =>
      rw [hc] at h
      obtain ⟨x, h1, h2⟩ := decK_ok (m := m) h
      refine ⟨x, h1, ?_⟩
      rw [Ty.den_agg a x hc]
      exact Sub.agg h2
  · rename_i v hn
    unfold decV at h
    split at h
    · split at h
      · rename_i b y _ hb _
        subst hb
        exact ⟨_, h, Sub.refl⟩
      · exact h.elim
    · split at h
      · exact ⟨_, h, Sub.refl⟩
      · exact h.elim
    · split at h
      · exact ⟨_, h, Sub.nil_⟩
      · exact h.elim
    · exact h.elim
theorem decA_ok : ∀ {l : List AT} {vs : List EV} {K : Args l → Tree}, (decA l vs K).ok E B R → ∃ x : Args l, (K x).ok E B R ∧ SubL (EV.denL m vs) (denA l x)
  | [], vs, K, h => by
    unfold decA at h
    split at h
    · exact ⟨(), h, trivial⟩
    · exact h.elim
  | .v a :: l, vs, K, h => by
    unfold decA at h
    split at h
    · obtain ⟨x, h1, h2⟩ := decT_ok (m := m) h
      obtain ⟨xs, h3, h4⟩ := decA_ok h1
      exact ⟨(x, xs), h3, h2, h4⟩
    · exact h.elim
  | .p a :: l, vs, K, h => by
    unfold decA at h
    split at h
    · split at h
      · obtain ⟨x, h1, h2⟩ := withT_ok _ h
        obtain ⟨xs, h3, h4⟩ := decA_ok h1
        refine ⟨(x, xs), h3, ?_, h4⟩
        show Sub (.ip ((Ty.enc _ _).drop 0)) (.ip (a.enc x))
        rw [List.drop_zero, h2]; exact Sub.refl
      · exact h.elim
    · exact h.elim
  | .f g :: l, vs, K, h => by
    unfold decA at h
    split at h
    · rename_i g' a b vs
      cases hc : (Nat.beq g g' && emp a && emp b) with
      | false => rw [hc] at h; exact h.elim
      | true =>
        rw [hc] at h
        simp only [Bool.and_eq_true] at hc
        obtain rfl := beqN hc.1.1
        obtain rfl := emp_eq hc.1.2
        obtain rfl := emp_eq hc.2
        obtain ⟨xs, h3, h4⟩ := decA_ok h
        exact ⟨((), xs), h3, Sub.refl, h4⟩
    · exact h.elim

theorem evCall_ok (hX : EXok X E.P E.w0.K) {o : Oper} {g : FuncId} {x : Operand} {xs : Array Operand} {ts : Array TypeId} {cs vs : List EV} {K : EV → Tree} (ho : o.op = .call { callee := .value x, args := xs, argTypes := ts }) (hvs : xs.toList.map (evalT (slotsOf m s.t)) = EV.denL m vs)
    (hx : evalT (slotsOf m s.t) x = .fn g (EV.denL m cs) ∨ (evalT (slotsOf m s.t) x = .x (.func (.func g) #[] #[]) ∧ cs = []))
    (hcall : ∀ avs av, PFn E.P E.w0.K g avs av → SubL (xs.toList.map (evalT (slotsOf m s.t)) ++ EV.denL m cs) avs → PureOp E.P E.w0.K E.N E.X (EO.denL m 0 s.h) (slotsOf m s.t) o av)
    (h : (callK X s g (vs ++ cs) K).ok E B R) : ∃ v : EV, PureOp E.P E.w0.K E.N E.X (EO.denL m 0 s.h) (slotsOf m s.t) o (v.den m) ∧ (K v).ok E B R := by
  unfold callK at h
  obtain ⟨S, hS, hg, h1⟩ := fnK_ok h
  have hfe := hX.F S hS
  subst hg
  by_cases hf : EV.free.go (vs ++ cs) = true
  · rw [views_free hf] at h1
    obtain ⟨y, h2, h3⟩ := decA_ok (m := m) h1
    rw [S.eq] at h2
    rw [hf, Bool.or_true] at h2
    exact ⟨_, hcall _ _ (hfe y h2.1 m) (by rw [hvs, ← denL_app]; exact h3), h2.2⟩
  · obtain ⟨us, h2, h3, h4⟩ := views_ok (m := m) h1
    obtain ⟨y, h5, h6⟩ := decA_ok (m := m) h2
    rw [S.eq] at h5
    rw [Bool.eq_false_iff.2 hf, Bool.or_false] at h5
    cases hsc : (S.res y).scal with
    | false => rw [hsc] at h5; exact h5.elim
    | true =>
      rw [hsc] at h5
      refine ⟨S.res y, pe_callB (cs := EV.denL m cs) ho ?_ ((hfe y h5.1 m).pre h6) (EV.scal_ex m _ hsc) fun w0 w ws env hl hr => ?_, h5.2⟩
      · rcases hx with hx | ⟨hx, rfl⟩
        · exact .inl hx
        · exact .inr ⟨hx, rfl⟩
      · rw [hvs, ← denL_app] at hl hr
        exact ⟨by rw [hl, denL_len, denL_len, h3], h4 _ w0 w _ env hr⟩

theorem idx_lp {a : Ty} {l : List a.T} {z : Nat} (hz : z < l.length) : Sub (.ip ((l.flatMap a.enc).drop (z * a.size))) (.ip ((a.enc (l.getD z a.dflt)).drop 0)) := by
  rw [drop_flatMap (fun x => Ty.enc_len a x) (getD_lt (d := a.dflt) hz), List.drop_zero]
  exact Sub.ip_pre
theorem row_slice {Z : Nat → Prop} {h : List HObj} {w0 : Orig} {w : World} {v : Value} {e : TypeId} {k n : Nat} {cs : List AV} (env : Env Z w0 h w) (hm : HObj.row v e k n cs ∈ h) (hn : 0 < n) : ∃ g c, v = .slice (some ⟨g, 0, none⟩) n c ∧ n ≤ c ∧ g < w.heap.size ∧ RepC (owned Z h) w cs (fun j => if j < n * k then w.cell? ⟨g, j, none⟩ else cs[j]?.bind fun _ => none) ∧ ∃ us : Array Value, w.heap[g]? = some (.cells us e (0, 0)) ∧ RepC (owned Z h) w cs (fun j => us[j]?) := by
  obtain ⟨vs, ho, hl, hr⟩ := env.objs _ hm
  rcases ho.2 with ⟨_, h0⟩ | ⟨g, cap, cur, rfl, hb, hh, hnc, hcm, hsz, htk⟩
  · omega
  · have hus : RepC (owned Z h) w cs (fun j => cur[j]?) := RepC.mk fun j c hj => by
      obtain ⟨u, hu, hru⟩ := hr.at_ j c hj
      rw [← htk, List.getElem?_take] at hu
      split at hu
      · exact ⟨u, by rw [Array.getElem?_toList] at hu; exact hu, hru⟩
      · cases hu
    refine ⟨g, cap, rfl, hnc, (Array.getElem?_eq_some_iff.1 hh).1, ?_, cur, hh, hus⟩
    refine RepC.mk fun j c hj => ?_
    obtain ⟨u, hu, hru⟩ := hus.at_ j c hj
    have hlt : j < n * k := by
      have h1 := (List.getElem?_eq_some_iff.1 hj).1
      have := ho.1
      omega
    refine ⟨u, ?_, hru⟩
    rw [if_pos hlt]
    simp only [World.cell?, hh]
    simpa using hu
end
end Go.Proofs.Ytpehmadeklaebaa
