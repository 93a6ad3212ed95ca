/-
  E21
-/
import Derived.Test.YtpehmadeklaebaaZC8
import Derived.Test.YtpehmadeklaebaaZE20
namespace Go.Proofs.Ytpehmadeklaebaa
open Go Go.RowKit
set_option linter.unusedVariables false
set_option linter.unusedSimpArgs false

section
variable {P : Program} {K : Prop} {g : FuncId} {avs : List AV}
theorem MFn.perm {h h' : List HObj} {R R' : AV → List HObj → Prop} (hp : MFn P K g avs h R) (pm : h.Perm h') (hR : ∀ av hh, R av hh → ∃ hh', hh.Perm hh' ∧ R' av hh') : MFn P K g avs h' R' := by
  have e : (fun b => ∃ o ∈ h, o.blk = some b) = fun b => ∃ o ∈ h', o.blk = some b := by
    funext b; apply propext
    constructor
    · rintro ⟨o, ho, hb⟩; exact ⟨o, pm.mem_iff.1 ho, hb⟩
    · rintro ⟨o, ho, hb⟩; exact ⟨o, pm.mem_iff.2 ho, hb⟩
  refine ⟨hp.enter, fun O w args env hl hr => ?_⟩
  rw [← e] at env ⊢
  rw [← owned_permE pm] at hr
  refine (hp.calls O w args (env.perm pm.symm) hl hr).mono ?_
  rintro x w' ⟨r, av, hh, rfl, h2, h3, h4⟩
  obtain ⟨hh', p2, h5⟩ := hR av hh h2
  exact ⟨r, av, hh', rfl, h5, h3.perm p2, by rw [← owned_permE p2]; exact h4⟩
theorem MFn.frame {hs : List HObj} {R : AV → List HObj → Prop} (hp : MFn P K g avs hs R) (h1 : List HObj) : MFn P K g avs (h1 ++ hs) (fun av hh => ∃ hs', R av hs' ∧ hh = h1 ++ hs') := by
  refine ⟨hp.enter, fun O w args env hl hr => ?_⟩
  have cross : ∀ (o p : HObj) b, o ∈ h1 → p ∈ hs → o.blk = some b → p.blk = some b → False := fun o p b h2 h3 h4 h5 => by
    have := List.pairwise_append.1 (pw_of.1 env.apart)
    exact this.2.2 o h2 p h3 b h4 h5
  have hXne : ∀ b, O b → ∀ o ∈ h1 ++ hs, o.blk ≠ some b := fun b hx o ho hob => by
    have h5 := env.ext b hx
    exact h5.2 ⟨o, ho, hob⟩
  let O' : Nat → Prop := owned O h1
  have hsub1 : ∀ b, owned O' hs b → owned O (h1 ++ hs) b := fun b hb => by
    rcases hb with (hx | ⟨o, ho, hob⟩) | ⟨o, ho, hob⟩
    · exact .inl hx
    · exact .inr ⟨o, List.mem_append_left _ ho, hob⟩
    · exact .inr ⟨o, List.mem_append_right _ ho, hob⟩
  have hsub0 : ∀ b, owned O (h1 ++ hs) b → owned O' hs b := fun b hb => by
    rcases hb with hx | ⟨o, ho, hob⟩
    · exact .inl (.inl hx)
    · rcases List.mem_append.1 ho with ho | ho
      · exact .inl (.inr ⟨o, ho, hob⟩)
      · exact .inr ⟨o, ho, hob⟩
  have pws := List.pairwise_append.1 (pw_of.1 env.apart)
  have env0 : Env O' ⟨w, fun b => ∃ o ∈ hs, o.blk = some b, K⟩ hs w := by
    refine ⟨Chg.refl _ _ _, fun o ho => ?_, fun o ho b hob => .inr ⟨o, ho, hob⟩, fun o ho b hob => env.lt o (List.mem_append_right _ ho) b hob, fun b hb => ⟨owned_lt env (hsub1 b (.inl hb)), fun ⟨o, ho, hob⟩ => ?_⟩, pw_of.2 pws.2.1⟩
    · exact HObj.ok_mono (env.objs o (List.mem_append_right _ ho)) (Kept.refl _ _) (fun b _ hb => hsub1 b hb) fun _ _ => rfl
    · rcases hb with hx | ⟨p, hp, hpb⟩
      · exact hXne b hx o (List.mem_append_right _ ho) hob
      · exact cross p o b hp ho hpb hob
  refine (hp.calls O' w args env0 hl (RepC.mono (Kept.refl _ _) (fun b _ hb => hsub1 b hb) _ _ hr)).mono ?_
  rintro e w' ⟨r, av, hs', rfl, h2, env', h4⟩
  have hF : ∀ b, b < w.heap.size → ∀ p ∈ hs', p.blk = some b → ∃ o ∈ hs, o.blk = some b := fun b hb p hp hpb => by
    rcases env'.new p hp b hpb with h5 | h5
    · simp only at h5; omega
    · exact h5
  have hO : ∀ b, b < w.heap.size → owned O (h1 ++ hs') b → owned O (h1 ++ hs) b := fun b hb hx => by
    rcases hx with hx | ⟨p, hp, hpb⟩
    · exact .inl hx
    · rcases List.mem_append.1 hp with hp | hp
      · exact .inr ⟨p, List.mem_append_left _ hp, hpb⟩
      · obtain ⟨o, ho, hob⟩ := hF b hb p hp hpb
        exact .inr ⟨o, List.mem_append_right _ ho, hob⟩
  have hkeep : Kept (owned O (h1 ++ hs)) w w' := ⟨env'.below.size, fun b hb hne => env'.below.block b hb fun ⟨o, ho, hob⟩ => hne (.inr ⟨o, List.mem_append_right _ ho, hob⟩)⟩
  have hsub2 : ∀ b, owned O (h1 ++ hs') b → owned O' hs' b := fun b hb => by
    rcases hb with hx | ⟨o, ho, hob⟩
    · exact .inl (.inl hx)
    · rcases List.mem_append.1 ho with ho | ho
      · exact .inl (.inr ⟨o, ho, hob⟩)
      · exact .inr ⟨o, ho, hob⟩
  have env2 : Env O ⟨w, fun b => ∃ o ∈ h1 ++ hs, o.blk = some b, K⟩ (h1 ++ hs') w' := by
    refine ⟨?_, fun o ho => ?_, fun o ho b hob => ?_, fun o ho b hob => ?_, env.ext, pw_of.2 (List.pairwise_append.2 ⟨pws.1, pw_of.1 env'.apart, fun o ho p hp b hob hpb => ?_⟩)⟩
    · refine ⟨env'.below.os, env'.below.tape, env'.below.output, env'.below.size, fun b hb hf => env'.below.block b hb fun ⟨o, ho, hob⟩ => hf ⟨o, List.mem_append_right _ ho, hob⟩, fun hk => env'.below.drawn hk⟩
    · rcases List.mem_append.1 ho with ho | ho
      · refine HObj.ok_mono (env.objs o (List.mem_append_left _ ho)) hkeep hO fun b hob => env'.below.block b (env.lt o (List.mem_append_left _ ho) b hob) fun ⟨p, hp, hpb⟩ => cross o p b ho hp hob hpb
      · exact HObj.ok_mono (env'.objs o ho) (Kept.refl _ _) (fun b _ hb' => hsub2 b hb') fun _ _ => rfl
    · rcases List.mem_append.1 ho with ho | ho
      · exact .inr ⟨o, List.mem_append_left _ ho, hob⟩
      · rcases env'.new o ho b hob with h5 | ⟨p, hp, hpb⟩
        · exact .inl h5
        · exact .inr ⟨p, List.mem_append_right _ hp, hpb⟩
    · rcases List.mem_append.1 ho with ho | ho
      · exact Nat.lt_of_lt_of_le (env.lt o (List.mem_append_left _ ho) b hob) env'.below.size
      · exact env'.lt o ho b hob
    · obtain ⟨q, hq, hqb⟩ := hF b (env.lt o (List.mem_append_left _ ho) b hob) p hp hpb
      exact cross o q b ho hq hob hqb
  exact ⟨r, av, h1 ++ hs', rfl, ⟨hs', h2, rfl⟩, env2, Rep.mono (Kept.refl _ w') (fun b _ hb' => hsub2 b hb') _ _ h4⟩
theorem perm_mid {α : Type} (l r : List α) (x : α) : ((l ++ r) ++ [x]).Perm (l ++ x :: r) := by
  rw [List.append_assoc]
  exact List.Perm.append_left _ (List.perm_append_comm (l₁ := r) (l₂ := [x]))
theorem MFn.mid {ob : HObj} {R : AV → List HObj → Prop} (hp : MFn P K g avs [ob] R) {h : List HObj} {i : Nat} (hi : h[i]? = some ob) (hR : ∀ av hh, R av hh → ∃ p, hh = [p]) : MFn P K g avs h (fun av hh => ∃ p, R av [p] ∧ hh = h.set i p) := by
  obtain ⟨hlt, rfl⟩ := List.getElem?_eq_some_iff.1 hi
  have e : h = h.take i ++ h[i] :: h.drop (i + 1) := by rw [List.getElem_cons_drop]; simp
  have pm := perm_mid (h.take i) (h.drop (i + 1)) h[i]
  rw [← e] at pm
  refine (hp.frame (h.take i ++ h.drop (i + 1))).perm pm fun av hh ⟨hs', h1, h2⟩ => ?_
  obtain ⟨p, rfl⟩ := hR av hs' h1
  subst h2
  refine ⟨h.set i p, ?_, p, h1, rfl⟩
  rw [List.set_eq_take_append_cons_drop, if_pos hlt]
  exact perm_mid _ _ p
end

/-- One row, and what it holds. -/
def rowR {a : Ty} (e : TypeId) (res : List a.T → Prop) : AV → List HObj → Prop := fun av hh => ∃ v l, res l ∧ av = .x v ∧ hh = [.row v e a.size l.length (l.flatMap a.enc)]
def rowAt (s : ES) (i : Nat) (e : TypeId) (a : Ty) (K : List a.T → Tree) : Tree :=
  nthK s.h i fun o => match o with
    | .row e' b l => bif Nat.beq e e' then (match Ty.eqK b a with
      | some ⟨h⟩ => withT (a := .list a) (congrArg Ty.list h) l K
      | none => .bad 180) else .bad 181
    | _ => .bad 182
def resM (s : ES) (t : Nat) (e : TypeId) (a : Ty) (K : List a.T → Tree) : Tree :=
  findK s.t t fun v => match v with
    | .row i => rowAt s i e a K
    | .rs i k lo n => bif Nat.beq k a.size && Nat.beq lo 0 then rowAt s i e a fun l => .need (n = l.length ∧ 0 < n) (K l) else .bad 183
    | .nil => K []
    | _ => .bad 184

section
variable {E : EC} {B : Nat → ES → Prop} {R : ES → Prop} {s : ES}
theorem rowAt_ok {i : Nat} {e : TypeId} {a : Ty} {K : List a.T → Tree} (h : (rowAt s i e a K).ok E B R) : ∃ l, (K l).ok E B R ∧ ∀ m : Nm, (EO.denL m 0 s.h)[i]? = some (.row (m.r i) e a.size l.length (l.flatMap a.enc)) := by
  unfold rowAt at h
  obtain ⟨ob, g1, g2⟩ := nthK_ok h
  split at g2
  · rename_i e' b l
    cases hc : Nat.beq e e' with
    | false => rw [hc] at g2; exact g2.elim
    | true =>
      rw [hc] at g2
      obtain rfl := beqN hc
      simp only [cond_true] at g2
      split at g2
      · rename_i hab _
        subst hab
        refine ⟨l, g2, fun m => ?_⟩
        rw [EO.denL_get, g1]; simp [EO.den]
      · exact g2.elim
  · exact g2.elim
end

section
variable {P : Program} {K : Prop} {b : EB}
theorem wp_rest {P : Program} {C C' : Cx} {c : Code} {Q Q' : Exit → AS → Prop} {s : AS} (h : AW P C c Q s) (hq : ∀ e s' a w, C.St s' a w → Q e s' → ∃ s'', C.St s'' a w ∧ Q' e s'') : AW P C c Q' s := fun a w hs =>
  wp_mono (h a w hs) fun e a' w' ⟨s', h1, h2⟩ => by
    obtain ⟨s'', h3, h4⟩ := hq e s' a' w' h1 h2
    exact ⟨s'', h3, h4⟩
/-- A row, out of what the call owns. -/
theorem row_out {X : Nat → Prop} {N : Nat} {w0 : Orig} {f : Nat → AV} {h : List HObj} {a : Act} {w : World} {i : Nat} {o : HObj} (hs : St N X w0 ⟨f, h⟩ a w) (hi : h[i]? = some o) : St N X w0 ⟨f, [o] ++ (h.eraseIdx i)⟩ a w := by
  obtain ⟨hlt, rfl⟩ := List.getElem?_eq_some_iff.1 hi
  refine hs.perm ?_
  have e2 : h.eraseIdx i = h.take i ++ h.drop (i + 1) := List.eraseIdx_eq_take_drop_succ ..
  rw [e2]
  have e : h = h.take i ++ h[i] :: h.drop (i + 1) := by rw [List.getElem_cons_drop]; simp
  refine List.Perm.trans (List.Perm.of_eq e) ?_
  exact List.perm_middle
/-- A function that gives a row back, alone or its own. -/
theorem emfn (hb : EBok b P K) {g : FuncId} {fn : Func} {c : Code} (hf : P.funcs[g]? = some fn) (hbody : fn.body = some c) (hnm : (fn.name == "runtime.NumGoroutine") = false) (N : Nat) (hN : fn.ntmps = N) (rs : Array ResultVar) (hrs : fn.results = rs) (ip : Bool)
    (t : Nat) (ht : rs = #[.tmp t]) (vs : List EV) (h0 : List EO) (e : TypeId) (a : Ty) (res : List a.T → Prop) (hl : (Nat.ble vs.length N && Nat.ble vs.length 12 && drawGood (mkY b N 0 [] rs ip) c) = true)
    (H : ∀ (E : EC), EYok (mkY b N 0 [] rs ip) E → IW E noB (fun s => (resM s t e a fun l => .need (res l) .done).ok E noB noR) [.code c] ⟨argE ids vs, h0⟩) (m : Nm) : MFn P K g (EV.denL m vs) (EO.denL m 0 h0) (rowR e res) := by
  subst ht
  simp only [Bool.and_eq_true] at hl
  obtain ⟨⟨l1, l2⟩, l4⟩ := hl
  have l1 := Nat.le_of_ble_eq_true l1
  have l2 := Nat.le_of_ble_eq_true l2
  refine mfn hf hbody hnm N hN _ hrs (by rw [denL_len]; exact l1) fun X w0 => ⟨?_⟩
  let E : EC := { N := N, X := X, w0 := ⟨w0, fun b => ∃ o ∈ EO.denL m 0 h0, o.blk = some b, K⟩, P := P, n0 := 0, ks := [], m0 := m }
  have hE : EYok (mkY b N 0 [] #[.tmp t] ip) E := ⟨hb, rfl, rfl, rfl⟩
  have h := H E hE
  unfold IW at h
  have h1 := h.run m (Agr.refl 0 [] m)
  have e1 : (ES.den m ⟨argE ids vs, h0⟩) = ⟨args0 (EV.denL m vs), EO.denL m 0 h0⟩ := by
    unfold ES.den
    rw [argE_args0 m _ l2]
  rw [e1] at h1
  -- what a final state gives
  have fin : ∀ (s : ES) (m' : Nm) (ac : Act) (w : World), (resM s t e a fun l => .need (res l) .done).ok E noB noR → E.toCx.St (s.den m') ac w → ∃ s'' : AS, E.toCx.St s'' ac w ∧ ∃ av h' r, s''.h = h' ++ r ∧ rowR e res av h' ∧ RGm P E.N E.X s'' h' #[.tmp t] av := by
    intro s m' ac w h hst
    unfold resM at h
    obtain ⟨v, g1, g2⟩ := findK_ok (m := m') h
    have out : ∀ (i : Nat) (l : List a.T), (EO.denL m' 0 s.h)[i]? = some (.row (m'.r i) e a.size l.length (l.flatMap a.enc)) → res l → slotsOf m' s.t t = .x (m'.r i) → ∃ s'' : AS, E.toCx.St s'' ac w ∧ ∃ av h' r, s''.h = h' ++ r ∧ rowR e res av h' ∧ RGm P E.N E.X s'' h' #[.tmp t] av := fun i l hi hr hx => by
      refine ⟨⟨slotsOf m' s.t, [_] ++ (EO.denL m' 0 s.h).eraseIdx i⟩, row_out (f := slotsOf m' s.t) (h := EO.denL m' 0 s.h) hst hi, .x (m'.r i), [_], _, rfl, ⟨_, l, hr, rfl, rfl⟩, rgm_tmp rfl ?_⟩
      show Sub (slotsOf m' s.t t) _
      rw [hx]; exact Sub.refl
    split at g1
    · rename_i i
      obtain ⟨l, ⟨q1, _⟩, q2⟩ := rowAt_ok g1
      exact out i l (q2 m') q1 g2
    · rename_i i k lo n
      cases hc : (Nat.beq k a.size && Nat.beq lo 0) with
      | false => rw [hc] at g1; exact g1.elim
      | true =>
        rw [hc] at g1
        simp only [Bool.and_eq_true] at hc
        obtain rfl := beqN hc.1
        obtain rfl := beqN hc.2
        obtain ⟨l, ⟨⟨rfl, hn⟩, q1, _⟩, q2⟩ := rowAt_ok g1
        refine out i l (q2 m') q1 ?_
        obtain ⟨us, hown, _⟩ := hst.env.objs _ (List.mem_of_getElem? (q2 m'))
        rw [g2]
        rcases hown.2 with ⟨_, h0⟩ | ⟨g, cap, cur, hv, _⟩
        · omega
        · simp only [EV.den, hv, rowSl, Nat.zero_mul, Nat.sub_zero]
    · have hst2 := st_nilrow (s := s.den m') (e := e) (k := a.size) hst
      have hi : (EO.denL m' 0 s.h ++ [HObj.row (.slice none 0 0) e a.size 0 []])[(EO.denL m' 0 s.h).length]? = some (.row (.slice none 0 0) e a.size 0 []) := by simp
      refine ⟨⟨slotsOf m' s.t, [_] ++ (EO.denL m' 0 s.h ++ [HObj.row (.slice none 0 0) e a.size 0 []]).eraseIdx (EO.denL m' 0 s.h).length⟩, row_out (f := slotsOf m' s.t) (h := EO.denL m' 0 s.h ++ [.row (.slice none 0 0) e a.size 0 []]) hst2 hi, .x (.slice none 0 0), [_], _, rfl, ⟨_, [], g1.1, rfl, rfl⟩, rgm_tmp rfl ?_⟩
      show Sub (slotsOf m' s.t t) _
      rw [g2]; exact Sub.refl
    · exact g1.elim
  refine wp_rest (C' := E.toCx) h1 fun e' s' ac w hst ⟨m', es, h2, h3, h4⟩ => ?_
  subst h2
  cases e' with
  | normal => exact fin es m' ac w (by simpa only [onE, IW] using h4) hst
  | ret => exact fin es m' ac w (by simpa only [onE] using h4) hst
  | exit i => exact h4.elim
  | _ => exact h4.elim
end
end Go.Proofs.Ytpehmadeklaebaa
