/-
  E15
-/
import Derived.Test.YtpehmadeklaebaaZE14
namespace Go.Proofs.Ytpehmadeklaebaa
open Go Go.RowKit
set_option linter.unusedVariables false
set_option linter.unusedSimpArgs false

section
variable {E : EC} {B : Nat → ES → Prop} {R : ES → Prop} {m : Nm} {Y : EY} {s : ES} {Q : Exit → AS → Prop} {ops : Array Oper} {o : Oper} {rest : List Oper}

def withG (m : Nm) (n g : Nat) : Nm := ⟨fun j => if j = n then g else m.g j, m.r⟩
def withR (m : Nm) (n : Nat) (v : Value) : Nm := ⟨m.g, fun j => if j = n then v else m.r j⟩
theorem upto_g (m : Nm) (n g : Nat) : Upto n m (withG m n g) := ⟨fun j hj => by simp [withG, show j ≠ n by omega], fun _ _ => rfl⟩
theorem upto_r (m : Nm) (n : Nat) (v : Value) : Upto n m (withR m n v) := ⟨fun _ _ => rfl, fun j hj => by simp [withR, show j ≠ n by omega]⟩
theorem agr_g (hm : Agr E.n0 E.ks E.m0 m) {n g : Nat} (hn : E.n0 ≤ n) : Agr E.n0 E.ks E.m0 (withG m n g) := ⟨fun i hi => by simp [withG, show i ≠ n by omega, hm.g i hi], fun i hi hk => hm.r i hi hk⟩
theorem agr_r (hm : Agr E.n0 E.ks E.m0 m) {n : Nat} {v : Value} (hn : E.n0 ≤ n ∨ n ∈ E.ks) : Agr E.n0 E.ks E.m0 (withR m n v) := ⟨fun i hi => hm.g i hi, fun i hi hk => by
  have : i ≠ n := fun e => by subst e; rcases hn with h | h; omega; exact hk h
  simp [withR, this, hm.r i hi hk]⟩
theorem awl_of {s s' : AS} {l : List Oper} (hs : ∀ a w, E.toCx.St s a w → E.toCx.St s' a w) (h : AWL E.P E.toCx ops Q l s') : AWL E.P E.toCx ops Q l s := fun a w h' => h a w (hs a w h')

theorem pushE_ok (hY : EYok Y E) (hm : Agr E.n0 E.ks E.m0 m) {dst : Option Nat} {T : TypeId} {c : EV} {K : ES → Tree} (h : (pushE Y s dst T c K).ok E B R)
    (k : ∀ (s' : ES) (m' : Nm), Agr E.n0 E.ks E.m0 m' → (K s').ok E B R → AWL E.P E.toCx ops Q rest (s'.den m')) (g : Nat) {cs : List AV} (hsub : SubL cs (c.flat m)) :
    AWL E.P E.toCx ops Q rest ⟨putT E.N (slotsOf m s.t) dst (.x (.pointer (some ⟨g, 0, none⟩))), EO.denL m 0 s.h ++ [.cells g T cs]⟩ := by
  unfold pushE at h
  change (lenK s.h 0 fun n => bif slotsBelow n s.t && objsBelow n s.h && c.bw n && Nat.ble Y.n0 n then snocK s.h (.cell T c) fun h => putD Y.N dst (.own n []) ⟨s.t, h⟩ K else .bad 122).ok E B R at h
  rw [lenK_eq, Nat.zero_add] at h
  cases hc : (slotsBelow s.h.length s.t && objsBelow s.h.length s.h && c.bw s.h.length && Nat.ble Y.n0 s.h.length) with
  | false => rw [hc] at h; exact h.elim
  | true =>
    rw [hc] at h
    simp only [cond_true] at h
    simp only [Bool.and_eq_true] at hc
    obtain ⟨⟨⟨c1, c2⟩, c3⟩, c4⟩ := hc
    rw [snocK_eq] at h
    have hu := upto_g m s.h.length g
    obtain ⟨s', h1, h2, h3, _⟩ := putD_ok (m := withG m s.h.length g) hY.N h
    have := k s' (withG m s.h.length g) (agr_g hm (by rw [← hY.n0]; exact Nat.le_of_ble_eq_true c4)) h1
    refine awl_of (fun a w hs => ?_) this
    have hg : (withG m s.h.length g).g s.h.length = g := by simp [withG]
    have e1 : slotsOf (withG m s.h.length g) s'.t = putT E.N (slotsOf m s.t) dst (.x (.pointer (some ⟨g, 0, none⟩))) := by
      rw [h3]; simp only [slots_below hu c1, EV.den, poff, hg]
    have e2 : EO.denL (withG m s.h.length g) 0 s'.h = EO.denL m 0 s.h ++ [.cells g T (c.flat m)] := by
      rw [h2]; simp only []
      rw [EO.denL_app, objs_below hu c2 (by omega)]
      simp only [EO.denL, EO.den, Nat.zero_add, hg, flat_below hu c c3]
    unfold ES.den
    rw [e1, e2]
    have hst := st_subC (i := (EO.denL m 0 s.h).length) (g := g) (T := T) (cs := cs) (cs' := c.flat m) (s := ⟨putT E.N (slotsOf m s.t) dst (.x (.pointer (some ⟨g, 0, none⟩))), EO.denL m 0 s.h ++ [.cells g T cs]⟩) (by simp) hsub hs
    simpa [List.set_append] using hst

theorem growE_ok (hY : EYok Y E) (hm : Agr E.n0 E.ks E.m0 m) {t e : TypeId} {x y : Operand} {i : Nat} {b : Ty} {l l2 : List b.T} {bytes : Nat} {K : ES → Tree} (hg : o.guard = none) (ho : o.op = .call { callee := .builtin .append, args := #[x, y], argTypes := #[t, t] }) (ht : E.P.underlying t = some (.slice e)) (he : rowOf E.P e = some (b.size, bytes))
    (hx : evalT (slotsOf m s.t) x = .x (m.r i)) (hi : s.h[i]? = some (.row e b l)) (hy : evalT (slotsOf m s.t) y = .sl b.size l2.length (l2.flatMap b.enc)) (h : (growE Y s o.dst i e b l l2 bytes K).ok E B R)
    (k : ∀ (s' : ES) (m' : Nm), Agr E.n0 E.ks E.m0 m' → (K s').ok E B R → AWL E.P E.toCx ops Q rest (s'.den m')) : AWL E.P E.toCx ops Q (o :: rest) (s.den m) := by
  unfold growE at h
  cases hc : ((Nat.ble Y.n0 i || Y.ks.contains i) && Nat.ble 1 bytes && o.dst.isSome) with
  | false => rw [hc] at h; exact h.elim
  | true =>
    rw [hc] at h
    simp only [cond_true] at h
    simp only [Bool.and_eq_true, Bool.or_eq_true] at hc
    obtain ⟨⟨c1, c2⟩, c3⟩ := hc
    have hb1 := Nat.le_of_ble_eq_true c2
    obtain ⟨hn, h⟩ := h
    rw [mapSlotsK_eq, mapObjsK_eq, setNK_eq] at h
    have hd : (EO.denL m 0 s.h)[i]? = some (.row (m.r i) e b.size l.length (l.flatMap b.enc)) := by rw [EO.denL_get, hi]; simp [EO.den]
    have hle : l.length + l2.length ≤ (l.length + l2.length) * bytes := Nat.le_mul_of_pos_right _ hb1
    refine awl_append (s := s.den m) hg ho ht he hx hd hy (ones_flat (fun x => Ty.enc_ones b x) l2) hn (by omega) fun v' => ?_
    obtain ⟨s', h1, h2, h3, h4⟩ := putD_ok (m := withR m i v') hY.N h
    have := k s' (withR m i v') (agr_r hm (by rw [← hY.n0, ← hY.ks]; rcases c1 with c1 | c1; exact .inl (Nat.le_of_ble_eq_true c1); exact .inr (by simpa using c1))) h1
    refine awl_of (fun a w hs => ?_) this
    have hrow : HObj.row v' e b.size (l.length + l2.length) (l.flatMap b.enc ++ l2.flatMap b.enc) = .row v' e b.size (l ++ l2).length ((l ++ l2).flatMap b.enc) := by rw [List.length_append, List.flatMap_append]
    cases hdst : o.dst with
    | none =>
      rw [hdst] at c3; cases c3
    | some d =>
      obtain ⟨h5, h6⟩ := h4 d hdst
      have hden : s'.den (withR m i v') = ⟨upd (slotsOf (withR m i v') (mapSlots i false .any s.t)) d (.x v'), EO.denL (withR m i v') 0 ((s.h.map (mapObj i false .any)).set i (.row e b (l ++ l2)))⟩ := by
        unfold ES.den
        rw [h6, h2]
        simp [EV.den, withR]
      rw [hden]
      have hs' : E.toCx.St ⟨upd (slotsOf m s.t) d (.x v'), (EO.denL m 0 s.h).set i (.row v' e b.size (l ++ l2).length ((l ++ l2).flatMap b.enc))⟩ a w := by
        rw [hdst, putT_upd h5, hrow] at hs
        exact hs
      exact st_grown hi hs'
theorem mapR_ok : ∀ (ks : List Nat) (m : Nm) (m' : Nm) (l : List (Nat × EV)) (K : List (Nat × EV) → Tree), (killL ks l K).ok E B R → ∃ l', (K l').ok E B R ∧ ∃ m1 : Nm, (∀ j, m1.g j = m.g j) ∧ (∀ j, m1.r j = if j ∈ ks then m'.r j else m.r j) ∧ ∀ (O : Nat → Prop) (w : World) t u, Rep O w (slotsOf m l t) u → Rep O w (slotsOf m1 l' t) u
  | [], m, m', l, K, h => ⟨l, h, m, fun _ => rfl, fun _ => by simp, fun _ _ _ _ h => h⟩
  | i :: ks, m, m', l, K, h => by
    unfold killL at h
    rw [mapSlotsK_eq] at h
    obtain ⟨l', h1, m1, h2, h3, h4⟩ := mapR_ok ks (withR m i (m'.r i)) m' _ _ h
    refine ⟨l', h1, m1, fun j => by rw [h2]; rfl, fun j => ?_, fun O w t u hr => h4 O w t u ?_⟩
    · rw [h3]
      by_cases hj : j ∈ ks
      · simp [hj]
      · by_cases hi : j = i
        · subst hi; simp [hj, withR]
        · simp [hj, hi, withR]
    · exact slots_map (kp := false) (m := m) (m' := withR m i (m'.r i)) ⟨fun _ => rfl, fun j hj => by simp [withR, hj]⟩ (fun h => by cases h) (by simp only [EV.den, Rep]) rfl l t u hr
theorem srK_ok {n : Nat} {ks : List Nat} : ∀ {r : SR} {K : EV → List EO → Tree}, (srK r K).ok E B R → r.pre ∧ ∀ av hh, r.den m n ks av hh → ∃ v h m', Agr n ks m m' ∧ av = v.den m' ∧ hh = EO.denL m' 0 h ∧ (K v h).ok E B R
  | .r v h, K, hk => ⟨trivial, fun av hh ⟨m', h1, h2, h3⟩ => ⟨v, h, m', h1, h2, h3, hk⟩⟩
  | .need p k, K, hk => by
    obtain ⟨h1, h2⟩ := srK_ok (r := k) hk.2
    exact ⟨⟨hk.1, h1⟩, h2⟩
  | .giv p k, K, hk => ⟨fun hp => (srK_ok (n := n) (ks := ks) (r := k) (hk hp)).1, fun av hh ⟨hp, hd⟩ => (srK_ok (r := k) (hk hp)).2 av hh hd⟩
  | .all α f, K, hk => ⟨fun a => (srK_ok (n := n) (ks := ks) (r := f a) (hk a)).1, fun av hh ⟨a, hd⟩ => (srK_ok (r := f a) (hk a)).2 av hh hd⟩
  | .none, K, hk => hk.elim
theorem mfK_ok {l : List (FuncId × MS)} {t : FuncId} {K : MS → Tree} (h : (mfK l t K).ok E B R) : ∃ S, (t, S) ∈ l ∧ (K S).ok E B R := by
  induction l with
  | nil => exact h.elim
  | cons p l ih =>
    obtain ⟨u, ti⟩ := p
    unfold mfK at h
    cases hc : Nat.beq u t with
    | true => rw [hc] at h; obtain rfl := beqN hc; exact ⟨ti, by simp, h⟩
    | false => rw [hc] at h; obtain ⟨x, h1, h2⟩ := ih h; exact ⟨x, by simp [h1], h2⟩

theorem rowOf_size {P : Program} {e : TypeId} {k b : Nat} {ei : TI} (h1 : TIok P e ei) (h : rowOf P e = some (k, b)) : k = ei.sz := by
  obtain ⟨i, z, g1, g2, g3, _⟩ := rowOf_spec h
  obtain ⟨d, i', g4, g5, g6, _⟩ := tyOf_spec h1.ty
  rw [g1] at g5; injection g5 with g5; subst g5
  omega
theorem evCallM_ok (hY : EYok Y E) (hm : Agr E.n0 E.ks E.m0 m) {g : FuncId} {xs : Array Operand} {ts : Array TypeId} {K : ES → Tree} (hg : o.guard = none) (ho : o.op = .call { callee := .value (.func g), args := xs, argTypes := ts })
    (h : (mfK Y.M g fun S => opndsK s xs.toList fun vs => srK (S.S vs s.h) fun v h => bif (S.ks vs).all (fun i => Nat.ble Y.n0 i || Y.ks.contains i) && Nat.ble Y.n0 s.h.length then killL (S.ks vs) s.t fun t => bif slotsBelow s.h.length t then objsK h fun h => putD Y.N o.dst v ⟨t, h⟩ K else .bad 132 else .bad 132).ok E B R)
    (k : ∀ (s' : ES) (m' : Nm), Agr E.n0 E.ks E.m0 m' → (K s').ok E B R → AWL E.P E.toCx ops Q rest (s'.den m')) : AWL E.P E.toCx ops Q (o :: rest) (s.den m) := by
  obtain ⟨S, hS, h⟩ := mfK_ok h
  obtain ⟨vs, h, hvs⟩ := opndsK_ok (m := m) h
  obtain ⟨hpre, hpost⟩ := srK_ok (m := m) (n := s.h.length) (ks := S.ks vs) h
  have hM := hY.M g S hS vs s.h hpre m
  have key : WL none E.P E.toCx ops Q (o :: rest) ⟨slotsOf m s.t, [] ++ EO.denL m 0 s.h⟩ := by
    refine sMs hg ho hM (SubL.of_eq hvs) fun av hh hd => ⟨?_⟩
    obtain ⟨v, h', m', g1, g2, g3, hk⟩ := hpost av hh hd
    cases hc : ((S.ks vs).all (fun i => Nat.ble Y.n0 i || Y.ks.contains i) && Nat.ble Y.n0 s.h.length) with
    | false => rw [hc] at hk; exact hk.elim
    | true =>
      rw [hc] at hk
      simp only [cond_true] at hk
      simp only [Bool.and_eq_true, List.all_eq_true, Bool.or_eq_true] at hc
      obtain ⟨c1, c2⟩ := hc
      have hn0 : E.n0 ≤ s.h.length := by rw [← hY.n0]; exact Nat.le_of_ble_eq_true c2
      obtain ⟨l', hk, m1, e1, e2, e3⟩ := mapR_ok (S.ks vs) m m' s.t _ hk
      cases hb : slotsBelow s.h.length l' with
      | false => rw [hb] at hk; exact hk.elim
      | true =>
        rw [hb] at hk
        simp only [cond_true] at hk
        rw [objsK_eq] at hk
        have hu : Upto s.h.length m1 m' := ⟨fun j hj => by rw [e1, g1.g j hj], fun j hj => by
          rw [e2]
          split
          · rfl
          · rename_i hj2; exact g1.r j hj hj2⟩
        obtain ⟨s', k1, k2, k3, _⟩ := putD_ok (m := m') hY.N hk
        have hagr : Agr E.n0 E.ks E.m0 m' := ⟨fun i hi => by rw [g1.g i (by omega), hm.g i hi], fun i hi hne => by
          have : i ∉ S.ks vs := fun hin => by
            rcases c1 i hin with h5 | h5
            · have := Nat.le_of_ble_eq_true h5; rw [hY.n0] at this; omega
            · rw [hY.ks] at h5; exact hne (by simpa using h5)
          rw [g1.r i (by omega) this, hm.r i hi hne]⟩
        have hfin := k s' m' hagr k1
        refine awl_of (fun a w hs => ?_) hfin
        unfold ES.den
        rw [k3, k2]
        simp only
        rw [slots_below hu hb, g2.symm, g3.symm]
        refine ⟨hs.env, hs.slots.defers, hs.slots.size, fun t => ?_⟩
        have h1 := hs.slots.slot t
        show Rep (owned E.X hh) w (putT E.N (slotsOf m1 l') o.dst av t) _
        have h1' : Rep (owned E.X hh) w (putT E.N (slotsOf m s.t) o.dst av t) (a.tmps.getD t undef) := h1
        cases hd : o.dst with
        | none => rw [hd] at h1'; exact e3 _ _ t _ h1'
        | some d =>
          rw [hd] at h1'
          simp only [putT] at h1' ⊢
          cases hbl : Nat.blt d E.N with
          | false => rw [hbl] at h1'; exact e3 _ _ t _ h1'
          | true =>
            rw [hbl] at h1'
            simp only [cond_true, upd] at h1' ⊢
            cases hq : Nat.beq t d with
            | true => rw [hq] at h1'; exact h1'
            | false => rw [hq] at h1'; exact e3 _ _ t _ h1'
  exact key.run
/-- A store into a row. -/
theorem awl_store_row {T : TypeId} {x y : Operand} {off i : Nat} {v : Value} {e : TypeId} {kr n : Nat} {cs : List AV} {b : Bool} {k : Nat} {s : AS} {Q : Exit → AS → Prop} (hg : o.guard = none) (ho : o.op = .store T x y) (hx : evalT s.t x = rowPtr v off) (hi : s.h[i]? = some (.row v e kr n cs)) (hn : 0 < n) (hcl : cs.length = n * kr) (ht : tyOf E.P T = some (b, k))
    (hf : (evalT s.t y).flat = true) (h1 : AV.ones (evalT s.t y).cells = true) (hk : (evalT s.t y).cells.length = k) (hoff : off + k ≤ cs.length)
    (kk : AWL E.P E.toCx ops Q rest ⟨putT E.N s.t o.dst .any, s.h.set i (.row v e kr n (spl cs off (evalT s.t y).cells))⟩) : AWL E.P E.toCx ops Q (o :: rest) s := by
  intro a w hs
  obtain ⟨g, cap, hv, hnc, hcm, hs2⟩ := st_rowcells hi hn hs
  have hilt := (List.getElem?_eq_some_iff.1 hi).1
  have hle : n * kr ≤ cap * kr := Nat.mul_le_mul_right kr hnc
  refine awl_store (s := ⟨s.t, s.h.set i (.cells g e (cs ++ List.replicate (cap * kr - n * kr) .any))⟩) (i := i) hg ho (by rw [hx, hv]; rfl) (List.getElem?_set_self hilt) ht hf h1 hk (by rw [List.length_append]; omega) ?_ a w hs2
  refine awl_of (fun a w hs3 => ?_) kk
  have hlen : (spl cs off (evalT s.t y).cells).length = cs.length := spl_length (by omega)
  have h4 := st_cellsrow (i := i) (g := g) (cap := cap) (e := e) (k := kr) (m := n) (cs := spl cs off (evalT s.t y).cells ++ List.replicate (cap * kr - n * kr) .any) (s := ⟨putT E.N s.t o.dst .any, s.h.set i (.cells g e (spl cs off (evalT s.t y).cells ++ List.replicate (cap * kr - n * kr) .any))⟩) (List.getElem?_set_self hilt) hnc hcm (by rw [List.length_append, hlen, List.length_replicate, hcl]; omega) (by
      have h5 := hs3
      simp only [List.set_set] at h5
      rw [spl_left (by omega)] at h5
      exact h5)
  simp only [List.set_set] at h4
  rw [← hv] at h4
  have h6 : (spl cs off (evalT s.t y).cells ++ List.replicate (cap * kr - n * kr) AV.any).take (n * kr) = spl cs off (evalT s.t y).cells := by
    rw [← hcl, ← hlen, List.take_left]
  rw [h6] at h4
  exact h4
theorem row_set {a : Ty} {l : List a.T} {z : Nat} (hz : z < l.length) {off : Nat} {news : List AV} (hn : off + news.length ≤ a.size) {y : a.T} (hs : SubL (spl (a.enc (l.getD z a.dflt)) off news) (a.enc y)) : SubL (spl (l.flatMap a.enc) (z * a.size + off) news) ((l.set z y).flatMap a.enc) := by
  rw [spl_flat (fun x => Ty.enc_len a x) (getD_lt (d := a.dflt) hz) hn, List.set_eq_take_append_cons_drop, if_pos hz, List.flatMap_append, List.flatMap_cons]
  exact (SubL.refl _).append (hs.append (SubL.refl _))
/-- A row's cells, told by what they stand for. -/
theorem st_subR {s : AS} {i : Nat} {v : Value} {e : TypeId} {k n : Nat} {cs cs' : List AV} {a : Act} {w : World} (hi : s.h[i]? = some (.row v e k n cs)) (hsub : SubL cs cs') (hs : E.toCx.St s a w) : E.toCx.St ⟨s.t, s.h.set i (.row v e k n cs')⟩ a w := by
  have hbk : (s.h.set i (.row v e k n cs')).map HObj.blk = s.h.map HObj.blk := by
    rw [List.map_set]
    apply List.ext_getElem?
    intro j
    rw [List.getElem?_set]
    split
    · rename_i e; subst e
      split
      · rw [List.getElem?_map, hi]; rfl
      · rename_i g2
        rw [List.getElem?_map]
        rw [List.length_map] at g2
        rw [List.getElem?_eq_none (by omega)]; rfl
    · rfl
  refine ⟨env_weak hs.env hbk fun j o o' h1 h2 hok => ?_, hs.slots.defers, hs.slots.size, fun t => ?_⟩
  · rw [List.getElem?_set] at h2
    split at h2
    · rename_i e; subst e
      rw [hi] at h1
      injection h1 with h1; subst h1
      split at h2
      · injection h2 with h2; subst h2
        obtain ⟨vs, g1, g2, g3⟩ := hok
        exact ⟨vs, g1, by rw [g2, hsub.len], hsub.repC g3⟩
      · cases h2
    · rw [h1] at h2; injection h2 with h2; subst h2; exact hok
  · show Rep (owned E.X (s.h.set i (.row v e k n cs'))) _ _ _
    rw [owned_map hbk]; exact hs.slots.slot t
theorem storeR_ok (hm : Agr E.n0 E.ks E.m0 m) {T : TypeId} {x y : Operand} {i z : Nat} {q : List PS} {e : TypeId} {a : Ty} {l : List a.T} {v : EV} {sz : Nat} {ag : Bool} {K : ES → Tree} (hg : o.guard = none) (hdst : o.dst = none) (ho : o.op = .store T x y) (hx : evalT (slotsOf m s.t) x = (EV.rp i a.size z q).den m) (hy : evalT (slotsOf m s.t) y = v.den m)
    (ht : tyOf E.P T = some (ag, sz)) (hsz : v.size = sz) (hi : s.h[i]? = some (.row e a l)) (hok : v.okS = true) (hz : z < l.length)
    (h : (setK a (l.getD z a.dflt) q v fun y => setNK s.h i (.row e a (l.set z y)) fun h => (match s with | ⟨t, _⟩ => K ⟨t, h⟩)).ok E B R)
    (k : ∀ (s' : ES) (m' : Nm), Agr E.n0 E.ks E.m0 m' → (K s').ok E B R → AWL E.P E.toCx ops Q rest (s'.den m')) : AWL E.P E.toCx ops Q (o :: rest) (s.den m) := by
  obtain ⟨u, h1, h2, h3⟩ := setK_ok (m := m) a _ q v _ h
  rw [setNK_eq] at h1
  have hd : (EO.denL m 0 s.h)[i]? = some (.row (m.r i) e a.size l.length (l.flatMap a.enc)) := by rw [EO.denL_get, hi]; simp [EO.den]
  have hfl := flat_len_ (fun x => Ty.enc_len a x) l
  have hzle : (z + 1) * a.size ≤ l.length * a.size := Nat.mul_le_mul_right _ hz
  rw [Nat.add_mul, Nat.one_mul] at hzle
  have hcl := okS_cells m v hok
  refine awl_store_row (s := s.den m) hg ho hx hd (by omega) hfl ht (by show (evalT (slotsOf m s.t) y).flat = true; rw [hy]; exact okS_flat m v hok) (by show AV.ones (evalT (slotsOf m s.t) y).cells = true; rw [hy, hcl]; exact okS_ones m v hok) (by show (evalT (slotsOf m s.t) y).cells.length = sz; rw [hy, hcl, EV.flat_len, hsz]) (by rw [hfl]; omega) ?_
  have := k _ m hm h1
  refine awl_of (fun ac w hs => ?_) this
  have e1 : (evalT (s.den m).t y).cells = v.flat m := by show (evalT (slotsOf m s.t) y).cells = _; rw [hy, hcl]
  rw [e1, hdst] at hs
  have hst := st_subR (i := i) (v := m.r i) (e := e) (k := a.size) (n := l.length) (cs := spl (l.flatMap a.enc) (z * a.size + poff q) (v.flat m)) (cs' := (l.set z u).flatMap a.enc) (s := ⟨putT E.N (s.den m).t none .any, (s.den m).h.set i (.row (m.r i) e a.size l.length (spl (l.flatMap a.enc) (z * a.size + poff q) (v.flat m)))⟩) (by
    show ((EO.denL m 0 s.h).set i _)[i]? = _
    rw [List.getElem?_set_self (List.getElem?_eq_some_iff.1 hd).1]) (row_set hz (by rw [EV.flat_len]; exact h2) h3) hs
  have e2 : (ES.den m ⟨s.t, s.h.set i (.row e a (l.set z u))⟩) = ⟨slotsOf m s.t, ((EO.denL m 0 s.h).set i (.row (m.r i) e a.size l.length (spl (l.flatMap a.enc) (z * a.size + poff q) (v.flat m)))).set i (.row (m.r i) e a.size l.length ((l.set z u).flatMap a.enc))⟩ := by
    unfold ES.den
    simp only [EO.denL_set, List.set_set, EO.den, Nat.zero_add, List.length_set]
  rw [e2]
  exact hst
end
end Go.Proofs.Ytpehmadeklaebaa
