/-
  E16
-/
import Derived.Test.YtpehmadeklaebaaZC6
import Derived.Test.YtpehmadeklaebaaZE15
namespace Go.Proofs.Ytpehmadeklaebaa
open Go Go.RowKit
set_option linter.unusedVariables false
set_option linter.unusedSimpArgs false

section
variable {E : EC} {B : Nat → ES → Prop} {R : ES → Prop} {m : Nm} {Y : EY} {s : ES} {Q : Exit → AS → Prop} {ops : Array Oper} {o : Oper} {rest : List Oper}

theorem row_one {Z : Nat → Prop} {h : List HObj} {w0 : Orig} {w : World} {v : Value} {e : TypeId} {k n : Nat} {cs : List AV} (env : Env Z w0 h w) (hm : HObj.row v e k n cs ∈ h) : v.oneCell' = true := by
  obtain ⟨vs, h2, _⟩ := env.objs _ hm
  rcases h2.2 with ⟨rfl, _⟩ | ⟨g, cap, cur, rfl, _⟩ <;> rfl
theorem storeE_ok (hm : Agr E.n0 E.ks E.m0 m) {T : TypeId} {x y : Operand} {i : Nat} {q : List PS} {T' : TypeId} {c v : EV} {sz : Nat} {ag : Bool} {K : ES → Tree} (hg : o.guard = none) (hdst : o.dst = none) (ho : o.op = .store T x y) (hx : evalT (slotsOf m s.t) x = (EV.own i q).den m) (hy : evalT (slotsOf m s.t) y = v.den m)
    (ht : tyOf E.P T = some (ag, sz)) (hsz : v.size = sz) (hi : s.h[i]? = some (.cell T' c)) (hfl : ∀ w, Env E.X E.w0 (EO.denL m 0 s.h) w → (v.den m).flat = true ∧ AV.ones (v.den m).cells = true) (hcl : (v.den m).cells = v.flat m)
    (h : (putP c q v fun c => setNK s.h i (.cell T' c) fun h => K ⟨s.t, h⟩).ok E B R)
    (k : ∀ (s' : ES) (m' : Nm), Agr E.n0 E.ks E.m0 m' → (K s').ok E B R → AWL E.P E.toCx ops Q rest (s'.den m')) : AWL E.P E.toCx ops Q (o :: rest) (s.den m) := by
  obtain ⟨u, h1, h2, h3⟩ := putP_ok (m := m) c q v _ h
  rw [setNK_eq] at h1
  have hd : (EO.denL m 0 s.h)[i]? = some (.cells (m.g i) T' (c.flat m)) := by rw [EO.denL_get, hi]; simp [EO.den]
  intro a w hs
  obtain ⟨f1, f2⟩ := hfl w hs.env
  refine awl_store (s := s.den m) hg ho hx hd ht (by show (evalT (slotsOf m s.t) y).flat = true; rw [hy]; exact f1) (by show AV.ones (evalT (slotsOf m s.t) y).cells = true; rw [hy]; exact f2) (by show (evalT (slotsOf m s.t) y).cells.length = sz; rw [hy, hcl, EV.flat_len, hsz]) (by rw [EV.flat_len]; omega) ?_ a w hs
  have := k _ m hm h1
  refine awl_of (fun a w hs => ?_) this
  have e : (evalT (s.den m).t y).cells = v.flat m := by show (evalT (slotsOf m s.t) y).cells = _; rw [hy, hcl]
  rw [e, hdst] at hs
  have hst := st_subC (i := i) (g := m.g i) (T := T') (cs := spl (c.flat m) (poff q) (v.flat m)) (cs' := u.flat m) (s := ⟨putT E.N (s.den m).t none .any, (s.den m).h.set i (.cells (m.g i) T' (spl (c.flat m) (poff q) (v.flat m)))⟩) (by
    show ((EO.denL m 0 s.h).set i _)[i]? = _
    rw [List.getElem?_set_self (List.getElem?_eq_some_iff.1 hd).1]) h3 hs
  have e2 : (ES.den m ⟨s.t, s.h.set i (.cell T' u)⟩) = ⟨slotsOf m s.t, ((EO.denL m 0 s.h).set i (.cells (m.g i) T' (spl (c.flat m) (poff q) (v.flat m)))).set i (.cells (m.g i) T' (u.flat m))⟩ := by
    unfold ES.den
    simp only [EO.denL_set, List.set_set, EO.den, Nat.zero_add]
  rw [e2]
  exact hst

/-- A row that is shorter now: what it was is told as a part of it. -/
theorem st_told {C : Cx} {a : Act} {w0 : World} {i : Nat} {e : TypeId} {b : Ty} {l l' : List b.T} {v' : Value} {w : EV} (hi : s.h[i]? = some (.row e b l)) (hsb : SameB (m.r i) v') (hw : ∀ O wo, Rep O wo (w.den (withR m i v')) (m.r i)) (h1 : w.isAgg = false)
    (hs : C.St ⟨slotsOf m s.t, (EO.denL m 0 s.h).set i (.row v' e b.size l'.length (l'.flatMap b.enc))⟩ a w0) :
    C.St (ES.den (withR m i v') ⟨mapSlots i true w s.t, (s.h.map (mapObj i true w)).set i (.row e b l')⟩) a w0 := by
  have hilt := (List.getElem?_eq_some_iff.1 hi).1
  have off : Off i m (withR m i v') := ⟨fun _ => rfl, fun j hj => by simp [withR, hj]⟩
  have hri : (withR m i v').r i = v' := by simp [withR]
  have hkk : true = true → SameB (m.r i) ((withR m i v').r i) := fun _ => by rw [hri]; exact hsb
  have hgetL : ∀ j, ((EO.denL m 0 s.h).set i (.row v' e b.size l'.length (l'.flatMap b.enc)))[j]? = if i = j then some (.row v' e b.size l'.length (l'.flatMap b.enc)) else (s.h[j]?).map fun o => o.den m j := fun j => by
    rw [List.getElem?_set, EO.denL_len, EO.denL_get, if_pos hilt]
    simp
  have hgetR : ∀ j, (EO.denL (withR m i v') 0 ((s.h.map (mapObj i true w)).set i (.row e b l')))[j]? = if i = j then some (.row v' e b.size l'.length (l'.flatMap b.enc)) else (s.h[j]?).map fun o => (mapObj i true w o).den (withR m i v') j := fun j => by
    rw [EO.denL_set, List.getElem?_set, EO.denL_len, List.length_map, if_pos hilt, denL_map_get]
    simp [EO.den, hri]
  have hbk : (EO.denL (withR m i v') 0 ((s.h.map (mapObj i true w)).set i (.row e b l'))).map HObj.blk = ((EO.denL m 0 s.h).set i (.row v' e b.size l'.length (l'.flatMap b.enc))).map HObj.blk := by
    apply List.ext_getElem?
    intro j
    rw [List.getElem?_map, List.getElem?_map, hgetL, hgetR]
    split
    · rfl
    · rename_i hne
      cases hj : s.h[j]? with
      | none => rfl
      | some o => simp only [Option.map_some]; rw [obj_map_blk (kp := true) off j o (fun e a l h => by intro e2; exact hne e2.symm)]
  refine ⟨env_weak hs.env hbk fun j o o' h1' h2 hok => ?_, hs.slots.defers, hs.slots.size, fun t => ?_⟩
  · simp only at h1'
    change (EO.denL (withR m i v') 0 _)[j]? = some o' at h2
    rw [hgetL] at h1'
    rw [hgetR] at h2
    split at h1'
    · rename_i hij
      rw [if_pos hij] at h2
      rw [h1'] at h2
      injection h2 with h2
      rw [← h2]; exact hok
    · rename_i hij
      rw [if_neg hij] at h2
      cases hj : s.h[j]? with
      | none => rw [hj] at h1'; cases h1'
      | some p =>
        rw [hj] at h1' h2
        simp only [Option.map_some, Option.some.injEq] at h1' h2
        subst h1' h2
        exact obj_map (kp := true) off hkk (hw _ _) h1 j p (fun e a l h e2 => hij e2.symm) hok
  · have h1' := hs.slots.slot t
    show Rep (owned C.X (EO.denL _ 0 _)) _ (slotsOf _ _ t) _
    rw [owned_map hbk]
    exact slots_map (kp := true) off hkk (hw _ _) h1 s.t t _ h1'
theorem clearE_ok (hm : Agr E.n0 E.ks E.m0 m) (hY : EYok Y E) {x : Operand} {t e : TypeId} {ei : TI} {i lo n : Nat} {b : Ty} {l : List b.T} {K : ES → Tree} (hg : o.guard = none) (hd : o.dst = none) (ho : o.op = .call { callee := .builtin .clear, args := #[x], argTypes := #[t] }) (ht : E.P.underlying t = some (.slice e)) (u : TIok E.P e ei)
    (hx : evalT (slotsOf m s.t) x = rowSl (m.r i) b.size lo n) (hi : s.h[i]? = some (.row e b l)) (hn0 : Nat.ble Y.n0 i = true) (hz1 : ei.zs.all Value.oneCell' = true) (hzl : ei.zs.length = b.size) (h1 : 0 < lo) (h2 : lo + n = l.length) (h3 : 0 < n)
    (h : (mapSlotsK i true (.rs i b.size 0 l.length) s.t fun t => mapObjsK i true (.rs i b.size 0 l.length) s.h fun h => setNK h i (.row e b (l.take lo)) fun h => K ⟨t, h⟩).ok E B R)
    (k : ∀ (s' : ES) (m' : Nm), Agr E.n0 E.ks E.m0 m' → (K s').ok E B R → AWL E.P E.toCx ops Q rest (s'.den m')) : AWL E.P E.toCx ops Q (o :: rest) (s.den m) := by
  rw [mapSlotsK_eq, mapObjsK_eq, setNK_eq] at h
  intro a w hs
  have hdn : (EO.denL m 0 s.h)[i]? = some (.row (m.r i) e b.size l.length (l.flatMap b.enc)) := by rw [EO.denL_get, hi]; simp [EO.den]
  have hlt : i < (EO.denL m 0 s.h).length := (List.getElem?_eq_some_iff.1 hdn).1
  obtain ⟨g, cap, e1, h4, h5, hs2⟩ := st_rowcells (s := s.den m) hdn (by omega) hs
  have hfl : (l.flatMap b.enc).length = l.length * b.size := flat_len_ (fun x => Ty.enc_len b x) l
  have hle : l.length * b.size ≤ cap * b.size := Nat.mul_le_mul_right _ h4
  have hsum : lo * b.size + n * b.size = l.length * b.size := by rw [← Nat.add_mul, h2]
  refine (sClear (P := E.P) (C := E.toCx) (Q := Q) (f := slotsOf m s.t) (h := (EO.denL m 0 s.h).set i (.cells g e (l.flatMap b.enc ++ List.replicate (cap * b.size - l.length * b.size) AV.any))) (ops := ops) (o := o) (rest := rest) (t := t) (e := e) (zs := ei.zs) (k := b.size) (g := g) (off := lo * b.size) (m := n) (c := cap - lo) (T := e) i hg hd ho ht u.zero hzl (fun v hv => by rw [List.all_eq_true] at hz1; exact hz1 v hv) (by rw [hx, e1]; rfl) (List.getElem?_set_self hlt) h3 (by rw [List.length_append, hfl, List.length_replicate]; omega) ⟨fun a w hs => ?_⟩).run a w hs2
  have hlen : (l.flatMap b.enc ++ List.replicate (cap * b.size - l.length * b.size) AV.any).length = cap * b.size := by rw [List.length_append, hfl, List.length_replicate]; omega
  have hcs : ((l.flatMap b.enc ++ List.replicate (cap * b.size - l.length * b.size) AV.any).take (lo * b.size)) = (l.take lo).flatMap b.enc := by
    rw [List.take_append_of_le_length (by rw [hfl]; omega)]
    exact flat_take_ (fun x => Ty.enc_len b x) l lo
  have hs3 := st_cellsrow (s := ⟨slotsOf m s.t, ((EO.denL m 0 s.h).set i (.cells g e (l.flatMap b.enc ++ List.replicate (cap * b.size - l.length * b.size) .any))).set i (.cells g e ((l.flatMap b.enc ++ List.replicate (cap * b.size - l.length * b.size) AV.any).take (lo * b.size) ++ List.replicate ((l.flatMap b.enc ++ List.replicate (cap * b.size - l.length * b.size) AV.any).length - lo * b.size) .any))⟩) (i := i) (g := g) (e := e) (k := b.size) (m := lo) (cap := cap) (List.getElem?_set_self (by rw [List.length_set]; exact hlt)) (by omega) h5 (by
      rw [List.length_append, List.length_take, List.length_replicate, hlen]; omega) hs
  have hl2 : ((l.take lo).flatMap b.enc).length = lo * b.size := by rw [flat_len_ (fun x => Ty.enc_len b x), List.length_take]; congr 1; omega
  rw [hcs, List.take_left' hl2, List.set_set, List.set_set] at hs3
  have hll : (l.take lo).length = lo := by rw [List.length_take]; omega
  have hs4 := st_told (m := m) (s := s) (i := i) (e := e) (b := b) (l := l) (l' := l.take lo) (v' := .slice (some ⟨g, 0, none⟩) lo cap) (w := .rs i b.size 0 l.length) hi (by rw [e1]; exact ⟨fun _ => rfl, fun _ _ _ => rfl⟩) (fun O wo => by
    have : (withR m i (.slice (some ⟨g, 0, none⟩) lo cap)).r i = .slice (some ⟨g, 0, none⟩) lo cap := by simp [withR]
    simp only [EV.den, this, rowSl, Nat.zero_mul, Nat.sub_zero, rep_x]
    exact e1) rfl (by rw [hll]; exact hs3)
  exact k _ _ (agr_r hm (.inl (by rw [← hY.n0]; exact Nat.le_of_ble_eq_true hn0))) h a w hs4

theorem evE_ok (hY : EYok Y E) (hm : Agr E.n0 E.ks E.m0 m) {K : ES → Tree} (hg : o.guard = none) (h : (evE Y s o K).ok E B R)
    (k0 : ∀ (s' : ES) (m' : Nm), Agr E.n0 E.ks E.m0 m' → (K s').ok E B R → AWL E.P E.toCx ops Q rest (s'.den m')) : AWL E.P E.toCx ops Q (o :: rest) (s.den m) := by
  have k := k0
  unfold evE at h
  split at h
  · rename_i T hop
    obtain ⟨ti, t1, h1⟩ := tiK_at hY.X h
    obtain ⟨c, h2, h3⟩ := zeroK_ok (m := m) t1 h1
    exact awl_alloc (s := s.den m) hg hop t1.zero fun g => pushE_ok hY hm h2 k g h3
  · rename_i T x hop
    obtain ⟨v, h1, h2⟩ := opndK_ok (m := m) h
    cases hc : v.okS with
    | false => rw [hc] at h1; exact h1.elim
    | true =>
      rw [hc] at h1
      have hcl := okS_cells m v hc
      refine awl_box (s := s.den m) hg hop (by show (evalT (slotsOf m s.t) x).flat = true; rw [h2]; exact okS_flat m v hc) fun g => ?_
      have := pushE_ok (cs := v.flat m) hY hm h1 k g (SubL.refl _)
      have e : (evalT (s.den m).t x).cells = v.flat m := by show (evalT (slotsOf m s.t) x).cells = _; rw [h2, hcl]
      rw [e]; exact this
  · rename_i T x y hop
    split at h
    · rename_i hdst
      obtain ⟨p, h1, h2⟩ := opndK_ok (m := m) h
      obtain ⟨v, h3, h4⟩ := opndK_ok (m := m) h1
      obtain ⟨ti, t1, h5⟩ := tiK_at hY.X h3
      split at h5
      · rename_i i q
        obtain ⟨ob, g1, g2⟩ := nthK_ok h5
        split at g2
        · rename_i T' c
          cases hc : Nat.beq v.size ti.sz with
          | false => rw [hc] at g2; exact g2.elim
          | true =>
            rw [hc] at g2
            simp only [cond_true] at g2
            have hsz := beqN hc
            split at g2
            · rename_i j
              obtain ⟨ob2, g3, g4, g5⟩ := nthK_mem (m := m) g2
              split at g5
              · exact storeE_ok hm hg hdst hop h2 h4 t1.ty hsz g1 (fun w env => by
                  have := row_one env g4
                  exact ⟨this, by show (AV.ones [.x (m.r j)]) = true; simp only [AV.ones, AV.one, Bool.and_true]; exact this⟩) rfl g5 k
              · exact g5.elim
            · cases ho : v.okS with
              | false => rw [ho] at g2; exact g2.elim
              | true =>
                rw [ho] at g2
                exact storeE_ok hm hg hdst hop h2 h4 t1.ty hsz g1 (fun w env => ⟨okS_flat m v ho, by rw [okS_cells m v ho]; exact okS_ones m v ho⟩) (okS_cells m v ho) g2 k
        · exact g2.elim
      · rename_i i k z q
        obtain ⟨ob, g1, g2⟩ := nthK_ok h5
        split at g2
        · rename_i e a l
          cases hc : (Nat.beq k a.size && Nat.beq v.size ti.sz && v.okS) with
          | false => rw [hc] at g2; exact g2.elim
          | true =>
            rw [hc] at g2
            simp only [Bool.and_eq_true] at hc
            have hk := beqN hc.1.1
            subst hk
            exact storeR_ok hm hg hdst hop h2 h4 t1.ty (beqN hc.1.2) g1 hc.2 g2.1 g2.2 k0
        · exact g2.elim
      · exact h5.elim
    · exact h.elim
  · rename_i t parts hop
    split at h
    · rename_i hp
      obtain rfl : parts = #[] := by apply Array.toList_inj.1; rw [hp]
      obtain ⟨ti, t1, h1⟩ := tiK_at hY.X h
      have k1 := t1.kd
      split at h1
      · rename_i e bytes e3
        rw [e3] at k1
        obtain ⟨ei, u1, h2⟩ := tiK_at hY.X h1
        split at h2
        · rename_i b hcode
          obtain ⟨hsz, hag⟩ := u1.code b hcode
          cases hc : Nat.beq ei.sz 0 with
          | true => rw [hc] at h2; exact h2.elim
          | false =>
            rw [hc] at h2
            simp only [cond_false] at h2
            cases hdst : o.dst with
            | none => rw [hdst] at h2; exact h2.elim
            | some d =>
              rw [hdst] at h2
              change (lenK s.h 0 fun n => bif slotsBelow n s.t && objsBelow n s.h && Nat.ble Y.n0 n then snocK s.h (.row e b []) fun h => putD Y.N (some d) (.row n) ⟨s.t, h⟩ K else .bad 127).ok E B R at h2
              rw [lenK_eq, Nat.zero_add] at h2
              cases hc3 : (slotsBelow s.h.length s.t && objsBelow s.h.length s.h && Nat.ble Y.n0 s.h.length) with
              | false => rw [hc3] at h2; exact h2.elim
              | true =>
                rw [hc3] at h2
                simp only [cond_true] at h2
                simp only [Bool.and_eq_true] at hc3
                obtain ⟨⟨c1, c2⟩, c3⟩ := hc3
                rw [snocK_eq] at h2
                have hn0 : E.n0 ≤ s.h.length := by rw [← hY.n0]; exact Nat.le_of_ble_eq_true c3
                obtain ⟨s1, g1, g2, g3, g4⟩ := putD_ok (m := m) hY.N h2
                refine (sBuild0 (P := E.P) (C := E.toCx) (Q := Q) (f := slotsOf m s.t) (h := EO.denL m 0 s.h) (t := t) (e := e) (k := ei.sz) (d := d) (b := ei.ag) (zs := ei.zs) hg hdst (g4 d rfl).1 hop u1.zero k1.1 u1.ty (fun e0 => by rw [e0] at hc; cases hc) fun v => ⟨?_⟩).run
                have hu := upto_r m s.h.length v
                have hr : (withR m s.h.length v).r s.h.length = v := by simp [withR]
                obtain ⟨s', q1, q2, q3, q4⟩ := putD_ok (m := withR m s.h.length v) hY.N h2
                have := k s' (withR m s.h.length v) (agr_r hm (.inl hn0)) q1
                have e4 : s'.den (withR m s.h.length v) = ⟨upd (slotsOf m s.t) d (.x v), EO.denL m 0 s.h ++ [.row v e ei.sz 0 []]⟩ := by
                  unfold ES.den
                  rw [(q4 d rfl).2, q2]
                  simp only [slots_below hu c1, EO.denL_app, objs_below hu c2 (show 0 + s.h.length ≤ s.h.length by omega), EO.denL, EO.den, Nat.zero_add, hr, EV.den, hsz]
                  rfl
                rw [← e4]; exact this
        · exact h2.elim
      · exact h1.elim
    · exact h.elim
  · rename_i t x t' hop
    obtain ⟨v, h1, h2⟩ := opndK_ok (m := m) h
    obtain ⟨ti, t1, h3⟩ := tiK_at hY.X h1
    have k1 := t1.kd
    split at h3
    · rename_i e bytes b l d e3 hdst
      rw [e3] at k1
      simp only [EV.den, Ty.den] at h2
      obtain ⟨s0, g0⟩ : ∃ s0, (Tree.all Bool fun b' => .giv (b' = true → l = []) (bif Nat.beq b.size 0 then .bad 127 else putD Y.N (some d) (.td .bool b') s K)).ok E B R ∧ s0 = s := ⟨s, h3, rfl⟩
      cases hz : Nat.beq b.size 0 with
      | true =>
        rw [hz] at h3
        exact (h3 false (fun e => Bool.noConfusion e) : False).elim
      | false =>
        rw [hz] at h3
        have hbz : b.size ≠ 0 := fun e0 => by rw [e0] at hz; cases hz
        have h30 : (putD Y.N (some d) (.td .bool false) s K).ok E B R := h3 false (fun e => Bool.noConfusion e)
        obtain ⟨s1, _, _, _, g4⟩ := putD_ok (m := m) hY.N h30
        refine (sSlNil (P := E.P) (C := E.toCx) (Q := Q) (f := slotsOf m s.t) (h := EO.denL m 0 s.h) (t := t) (e := e) (x := x) (k := b.size) (n := l.length) (d := d) hg hdst (g4 d rfl).1 hop h2 k1.1 fun b' hb' => ⟨?_⟩).run
        have h4 : (putD Y.N (some d) (.td .bool b') s K).ok E B R := h3 b' (fun e0 => by
          have := hb' e0
          rcases Nat.mul_eq_zero.1 this with h5 | h5
          · exact List.length_eq_zero_iff.1 h5
          · exact absurd h5 hbz)
        obtain ⟨s', q1, q2, q3, q4⟩ := putD_ok (m := m) hY.N h4
        have := k s' m hm q1
        have e4 : s'.den m = ⟨upd (slotsOf m s.t) d (.x (.bool b')), EO.denL m 0 s.h⟩ := by
          unfold ES.den
          rw [(q4 d rfl).2, q2]; rfl
        rw [← e4]; exact this
    · exact h3.elim
  · rename_i c hop
    obtain ⟨cal, xs, ts⟩ := c
    simp only at h
    split at h
    · split at h
      · rename_i x y t t' e1 e2
        obtain rfl : xs = #[x, y] := by apply Array.toList_inj.1; rw [e1]
        obtain rfl : ts = #[t, t'] := by apply Array.toList_inj.1; rw [e2]
        cases hc : Nat.beq t t' with
        | false => rw [hc] at h; exact h.elim
        | true =>
          rw [hc] at h
          obtain rfl := beqN hc
          obtain ⟨a, h1, h2⟩ := opndK_ok (m := m) h
          obtain ⟨b, h3, h4⟩ := opndK_ok (m := m) h1
          obtain ⟨ti, t1, h5⟩ := tiK_at hY.X h3
          have k1 := t1.kd
          split at h5
          · rename_i e bytes c l2 e3
            rw [e3] at k1
            obtain ⟨k1, k2⟩ := k1
            obtain ⟨ei, u1, h6⟩ := tiK_at hY.X h5
            obtain ⟨⟨kk, bb⟩, r1, r2⟩ := Option.map_eq_some_iff.1 k2
            simp only at r2
            subst r2
            have hkk := rowOf_size u1 r1
            subst hkk
            split at h6
            · rename_i i
              obtain ⟨ob, g1, g2⟩ := nthK_ok h6
              split at g2
              · rename_i e' d l
                cases hc2 : (Nat.beq e e' && Nat.beq ei.sz d.size) with
                | false => rw [hc2] at g2; exact g2.elim
                | true =>
                  rw [hc2] at g2
                  simp only [cond_true] at g2
                  simp only [Bool.and_eq_true] at hc2
                  obtain rfl := beqN hc2.1
                  have hes := beqN hc2.2
                  split at g2
                  · rename_i hcd _
                    obtain ⟨x2, g3, g4⟩ := withT_ok _ g2
                    simp only [EV.den, Ty.den] at h4
                    have hl : AV.sl c.size l2.length (l2.flatMap c.enc) = .sl d.size x2.length (x2.flatMap d.enc) := by
                      simp only [Ty.enc] at g4
                      injection g4
                    rw [hl] at h4
                    exact growE_ok hY hm hg hop k1 (by rw [r1, hes]) h2 g1 h4 g3 k
                  · exact g2.elim
              · exact g2.elim
            · cases hc2 : Nat.beq ei.sz c.size with
              | false => rw [hc2] at h6; exact h6.elim
              | true =>
                rw [hc2] at h6
                simp only [cond_true] at h6
                have hes := beqN hc2
                rw [lenK_eq, Nat.zero_add] at h6
                cases hc3 : (slotsBelow s.h.length s.t && objsBelow s.h.length s.h && Nat.ble Y.n0 s.h.length) with
                | false => rw [hc3] at h6; exact h6.elim
                | true =>
                  rw [hc3] at h6
                  simp only [cond_true] at h6
                  simp only [Bool.and_eq_true] at hc3
                  obtain ⟨⟨c1, c2⟩, c3⟩ := hc3
                  rw [snocK_eq] at h6
                  have hu := upto_r m s.h.length (.slice none 0 0)
                  have hr : (withR m s.h.length (.slice none 0 0)).r s.h.length = .slice none 0 0 := by simp [withR]
                  have hn0 : E.n0 ≤ s.h.length := by rw [← hY.n0]; exact Nat.le_of_ble_eq_true c3
                  have hsl := slots_below hu c1
                  have key := growE_ok (m := withR m s.h.length (.slice none 0 0)) (s := ⟨s.t, s.h ++ [.row e c []]⟩) (ops := ops) (Q := Q) (rest := rest) hY (agr_r hm (.inl hn0)) hg hop k1 (by rw [r1, hes]) (by
                    simp only [hsl, hr]; exact h2) (by simp) (by simp only [hsl]; exact h4) h6 k
                  refine awl_nilrow (s := s.den m) e c.size ?_
                  have e4 : (ES.den (withR m s.h.length (.slice none 0 0)) ⟨s.t, s.h ++ [.row e c []]⟩) = ⟨(s.den m).t, (s.den m).h ++ [.row (.slice none 0 0) e c.size 0 []]⟩ := by
                    unfold ES.den
                    simp only [hsl, EO.denL_app, objs_below hu c2 (show 0 + s.h.length ≤ s.h.length by omega), EO.denL, EO.den, Nat.zero_add, hr]
                    rfl
                  rw [← e4]; exact key
            · exact h6.elim
          · exact h5.elim
      · exact h.elim
    · split at h
      · rename_i x t hxs hts hdst
        obtain rfl : xs = #[x] := by apply Array.toList_inj.1; rw [hxs]
        obtain rfl : ts = #[t] := by apply Array.toList_inj.1; rw [hts]
        obtain ⟨v, h1, h2⟩ := opndK_ok (m := m) h
        obtain ⟨ti, t1, h3⟩ := tiK_at hY.X h1
        have k1 := t1.kd
        split at h3
        · rename_i e bytes i kk lo n e3
          rw [e3] at k1
          obtain ⟨ei, u1, h4⟩ := tiK_at hY.X h3
          obtain ⟨ob, g1, g2⟩ := nthK_ok h4
          split at g2
          · rename_i e' b l
            cases hc : (Nat.beq kk b.size && Nat.beq ei.sz b.size && Nat.beq e e' && Nat.ble Y.n0 i && ei.zs.all Value.oneCell' && Nat.beq ei.zs.length b.size) with
            | false => rw [hc] at g2; exact g2.elim
            | true =>
              rw [hc] at g2
              simp only [cond_true] at g2
              simp only [Bool.and_eq_true] at hc
              obtain ⟨⟨⟨⟨⟨c1, c2⟩, c3⟩, c4⟩, c5⟩, c6⟩ := hc
              obtain rfl := beqN c1
              obtain rfl := beqN c3
              obtain ⟨⟨p1, p2, p3⟩, g3⟩ := g2
              exact clearE_ok hm hY hg hdst hop k1.1 u1 h2 g1 c4 c5 (beqN c6) p1 p2 p3 g3 k
          · exact g2.elim
        · exact h3.elim
      · exact h.elim
    · rename_i g
      exact evCallM_ok hY hm hg hop h k
    · exact h.elim
  · exact h.elim

theorem evL_ok (hY : EYok Y E) : ∀ {l : List Oper} {m : Nm} {s : ES} {K : ES → Tree}, Agr E.n0 E.ks E.m0 m → (evL Y ops.toList l s K).ok E B R →
    (∀ (s' : ES) (m' : Nm), Agr E.n0 E.ks E.m0 m' → (K s').ok E B R → Q .normal (s'.den m')) → AWL E.P E.toCx ops Q l (s.den m)
  | [], m, s, K, hm, h, hk => awl_nil (hk s m hm h)
  | o :: l, m, s, K, hm, h, hk => by
    unfold evL at h
    obtain ⟨s1, h1, h2⟩ := frz_ok (m := m) h
    refine awl_of h2 ?_
    have pure_ : (evG Y ops.toList s1 o fun s => evL Y ops.toList l s K).ok E B R → AWL E.P E.toCx ops Q (o :: l) (s1.den m) := fun h => by
      obtain ⟨av, s', g1, g2, g3, g4⟩ := evG_ok (m := m) hY h
      refine awl_pureG (s := s1.den m) (av := av) (by have g := g1; simp only [Array.toArray_toList] at g; exact g) ?_
      have := evL_ok hY hm g4 hk
      unfold ES.den at this
      rw [g2, g3] at this
      exact this
    split at h1
    · rename_i hg
      cases hc : isEff Y o.op with
      | true =>
        rw [hc] at h1
        exact evE_ok hY hm hg h1 fun s' m' hm' h' => evL_ok hY hm' h' hk
      | false => rw [hc] at h1; exact pure_ h1
    · cases hc : isEff Y o.op with
      | true => rw [hc] at h1; exact h1.elim
      | false => rw [hc] at h1; exact pure_ h1

theorem evR_ok (hY : EYok Y E) {id : Nat} {draw : Bool} {K : ES → Tree} {n : ES → Prop} {r : ES → Prop} {xx : Nat → ES → Prop} (hd : drawGood Y (.region id ops draw) = true) (h : (evR Y ops.toList draw s K).ok E B R) (hk : ∀ s', (K s').ok E B R → n s') : EW E (.region id ops draw) (onE n r xx) s := by
  refine ⟨fun m hm => ?_⟩
  unfold evR at h
  cases draw with
  | false =>
    simp only at h
    have := evL_ok (Q := EQ E (onE n r xx)) hY hm h fun s' m' hm' h' => ⟨m', s', rfl, hm', hk s' h'⟩
    have e : ops = ops.toList.toArray := by simp
    rw [e]
    exact aw_region (by simpa using this)
  | true =>
    simp only at h
    simp only [drawGood] at hd
    refine aw_drawB hY.mix (lead Y ops.toList) (by rw [← hY.N]; exact hd) ?_
    have := evC_ok (m := m) hY h
    simp only [Array.toArray_toList] at this
    refine this.imp fun f ⟨s', e1, e2, h3⟩ => ?_
    subst e1
    have h4 := evL_ok (Q := EQ E (onE n r xx)) hY hm h3 fun s' m' hm' h' => ⟨m', s', rfl, hm', hk s' h'⟩
    unfold ES.den at h4
    rw [e2] at h4
    exact h4

def Item.good (Y : EY) : Item → Bool
  | .code c => drawGood Y c
  | _ => true
def goods (Y : EY) : List Item → Bool
  | [] => true
  | i :: l => i.good Y && goods Y l
theorem popTo_ok {i : Nat} : ∀ {k : List Item} {K : List Item → Tree} {s : ES}, (popTo i k K).ok E B R → goods Y k = true → (∀ k', goods Y k' = true → (K k').ok E B R → IW E B R k' s) → exitTo E B R k i s
  | [], K, s, h, _, _ => h.elim
  | .block j :: k, K, s, h, hg, hk => by
    simp only [goods, Bool.and_eq_true] at hg
    unfold popTo at h
    unfold exitTo
    cases hc : Nat.beq i j with
    | true => rw [hc] at h; exact hk k hg.2 h
    | false => rw [hc] at h; exact popTo_ok h hg.2 hk
  | .code c :: k, K, s, h, hg, hk => by
    simp only [goods, Bool.and_eq_true] at hg
    unfold popTo at h
    unfold exitTo
    exact popTo_ok h hg.2 hk
  | .mark d :: k, K, s, h, hg, hk => by
    simp only [goods, Bool.and_eq_true] at hg
    unfold popTo at h
    unfold exitTo
    exact popTo_ok h hg.2 hk

theorem ew_cond {c : Operand} {x y : Code} {Q : Exit → ES → Prop} (h : ∀ m, ∃ b : Bool, evalT (slotsOf m s.t) c = .x (.bool b) ∧ (b = true → ∃ s' : ES, (∀ m, slotsOf m s'.t = slotsOf m s.t) ∧ s'.h = s.h ∧ EW E x Q s') ∧ (b = false → ∃ s' : ES, (∀ m, slotsOf m s'.t = slotsOf m s.t) ∧ s'.h = s.h ∧ EW E y Q s')) : EW E (.cond c x y) Q s := ⟨fun m hm => by
  obtain ⟨b, h1, h2, h3⟩ := h m
  have e : ∀ s' : ES, (∀ m, slotsOf m s'.t = slotsOf m s.t) → s'.h = s.h → s'.den m = s.den m := fun s' e1 e2 => by unfold ES.den; rw [e1, e2]
  refine aw_cond h1 (fun hb => ?_) (fun hb => ?_)
  · obtain ⟨s', e1, e2, h4⟩ := h2 hb
    rw [← e s' e1 e2]; exact h4.run m hm
  · obtain ⟨s', e1, e2, h4⟩ := h3 hb
    rw [← e s' e1 e2]; exact h4.run m hm⟩
theorem setS_all (l : List (Nat × EV)) (d : Nat) (v : EV) (K : List (Nat × EV) → Tree) : ∃ l', setS l d v K = K l' ∧ ∀ m, slotsOf m l' = upd (slotsOf m l) d (v.den m) := by
  induction l generalizing K with
  | nil => exact ⟨_, rfl, fun _ => rfl⟩
  | cons p l ih =>
    obtain ⟨e, w⟩ := p
    simp only [setS]
    cases hc : Nat.beq d e with
    | true =>
      obtain rfl := beqN hc
      refine ⟨_, rfl, fun m => ?_⟩
      funext t
      simp only [slotsOf, upd]
      cases Nat.beq t d <;> rfl
    | false =>
      obtain ⟨l', h1, h2⟩ := ih fun l => K ((e, w) :: l)
      refine ⟨_, h1, fun m => ?_⟩
      funext t
      have h3 := congrFun (h2 m) t
      simp only [slotsOf, upd] at h3 ⊢
      rw [h3]
      cases ht : Nat.beq t e with
      | true =>
        obtain rfl := beqN ht
        have : Nat.beq t d = false := by
          cases hh : Nat.beq t d with
          | false => rfl
          | true => have := beqN hh; subst this; rw [ht] at hc; cases hc
        rw [this]; rfl
      | false => rfl
theorem findK_all {l : List (Nat × EV)} {t : Nat} {K : EV → Tree} (h : (findK l t K).ok E B R) : ∃ v : EV, (K v).ok E B R ∧ ∀ m, slotsOf m l t = v.den m := by
  induction l with
  | nil => exact ⟨.any, h, fun _ => rfl⟩
  | cons p l ih =>
    obtain ⟨d, v⟩ := p
    unfold findK at h
    simp only [slotsOf, upd]
    cases hc : Nat.beq t d with
    | true => rw [hc] at h; exact ⟨v, h, fun _ => rfl⟩
    | false => rw [hc] at h; exact ih h
theorem opndK_all {s : ES} {x : Operand} {K : EV → Tree} (h : (opndK s x K).ok E B R) : ∃ v : EV, (K v).ok E B R ∧ ∀ m, evalT (slotsOf m s.t) x = v.den m := by
  unfold opndK at h
  split at h
  · exact findK_all h
  · rw [constK_eq] at h; exact ⟨_, h, fun m => (constE_den _).symm⟩
  · exact ⟨_, h, fun _ => rfl⟩
  · exact ⟨_, h, fun _ => rfl⟩

theorem run_ok (hY : EYok Y E) : ∀ (n : Nat) {it : List Item} {s : ES}, goods Y it = true → (run Y n it s).ok E B R → IW E B R it s
  | 0, it, s, _, h => h.elim
  | n + 1, [], s, _, h => h
  | n + 1, .block j :: k, s, hg, h => by
    simp only [goods, Bool.and_eq_true] at hg
    unfold run at h
    have h' : (run Y n k s).ok E B R := h
    have := run_ok hY n hg.2 h'
    exact this
  | n + 1, .mark d :: k, s, hg, h => h
  | n + 1, .code c :: k, s, hg, h => by
    simp only [goods, Item.good, Bool.and_eq_true] at hg
    obtain ⟨hg1, hg2⟩ := hg
    unfold run at h
    unfold IW
    simp only at h
    split at h
    · exact ew_skip (run_ok hY n hg2 h)
    · exact ew_label (run_ok hY n hg2 h)
    · rename_i a b
      simp only [drawGood, Bool.and_eq_true] at hg1
      have := run_ok hY n (it := .code a :: .code b :: k) (by simp only [goods, Item.good, Bool.and_eq_true]; exact ⟨hg1.1, hg1.2, hg2⟩) h
      exact ew_seq this
    · rename_i i b
      simp only [drawGood] at hg1
      have := run_ok hY n (it := .code b :: .block i :: k) (by simp only [goods, Item.good, Bool.and_eq_true]; exact ⟨hg1, trivial, hg2⟩) h
      refine ew_block ?_
      exact this
    · exact ew_exit (popTo_ok (Y := Y) h hg2 fun k' hk' h' => run_ok hY n hk' h')
    · exact ew_ret h
    · rename_i c a b
      simp only [drawGood, Bool.and_eq_true] at hg1
      have ga : goods Y (.code a :: k) = true := by simp only [goods, Item.good, Bool.and_eq_true]; exact ⟨hg1.1, hg2⟩
      have gb : goods Y (.code b :: k) = true := by simp only [goods, Item.good, Bool.and_eq_true]; exact ⟨hg1.2, hg2⟩
      obtain ⟨v, h1, h2⟩ := opndK_all h
      split at h1
      · rename_i x
        split at h1
        · exact ew_cond fun m => ⟨true, h2 m, fun _ => ⟨s, fun _ => rfl, rfl, run_ok hY n ga h1⟩, (fun e => by cases e)⟩
        · exact ew_cond fun m => ⟨false, h2 m, (fun e => by cases e), fun _ => ⟨s, fun _ => rfl, rfl, run_ok hY n gb h1⟩⟩
      · rename_i x
        split at h1
        · rename_i t
          refine ew_cond fun m => ⟨x, h2 m, fun e => ?_, fun e => ?_⟩
          · obtain ⟨l', g1, g2⟩ := setS_all s.t t (.bl true) fun l => run Y n (.code a :: k) ⟨l, s.h⟩
            have h3 := h1.1 e
            rw [g1] at h3
            refine ⟨⟨l', s.h⟩, fun m => ?_, rfl, run_ok hY n ga h3⟩
            rw [g2]
            funext u
            simp only [upd]
            cases hc : Nat.beq u t with
            | true =>
              obtain rfl := beqN hc
              have := h2 m
              simp only [evalT, EV.den, Ty.den] at this ⊢
              rw [this, e]; rfl
            | false => rfl
          · obtain ⟨l', g1, g2⟩ := setS_all s.t t (.bl false) fun l => run Y n (.code b :: k) ⟨l, s.h⟩
            have h3 := h1.2 e
            rw [g1] at h3
            refine ⟨⟨l', s.h⟩, fun m => ?_, rfl, run_ok hY n gb h3⟩
            rw [g2]
            funext u
            simp only [upd]
            cases hc : Nat.beq u t with
            | true =>
              obtain rfl := beqN hc
              have := h2 m
              simp only [evalT, EV.den, Ty.den] at this ⊢
              rw [this, e]; rfl
            | false => rfl
        · exact ew_cond fun m => ⟨x, h2 m, fun e => ⟨s, fun _ => rfl, rfl, run_ok hY n ga (h1.1 e)⟩, fun e => ⟨s, fun _ => rfl, rfl, run_ok hY n gb (h1.2 e)⟩⟩
      · exact h1.elim
    · rename_i id ops draw
      exact evR_ok hY hg1 h fun s' h' => run_ok hY n hg2 h'
    · exact h
    · exact h.elim
end
end Go.Proofs.Ytpehmadeklaebaa
