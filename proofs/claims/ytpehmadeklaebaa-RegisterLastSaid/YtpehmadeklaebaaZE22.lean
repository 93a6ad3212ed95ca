/-
  E22
-/
import Derived.Test.YtpehmadeklaebaaZE21
namespace Go.Proofs.Ytpehmadeklaebaa
open Go Go.RowKit
set_option linter.unusedVariables false
set_option linter.unusedSimpArgs false

def withTS : {b a : Ty} → b = a → b.T → (a.T → SR) → SR
  | _, _, rfl, y, K => K y
def decAS : (l : List AT) → List EV → (Args l → SR) → SR
  | [], vs, K => match vs with
    | [] => K ()
    | _ => .none
  | .v a :: l, vs, K => match vs with
    | .td b y :: vs => match Ty.eqK b a with
      | some ⟨h⟩ => withTS h y fun x => decAS l vs fun xs => K (x, xs)
      | none => .none
    | _ => .none
  | .p _ :: _, _, _ => .none
  | .f g :: l, vs, K => match vs with
    | .val (.func (.func g') a b) :: vs => bif Nat.beq g g' && emp a && emp b then decAS l vs fun xs => K ((), xs) else .none
    | _ => .none
theorem decAS_ok (m : Nm) : ∀ {l : List AT} {vs : List EV} {K : Args l → SR}, (decAS l vs K).pre → ∃ x, decAS l vs K = K x ∧ EV.denL m vs = denA l x
  | [], vs, K, h => by
    unfold decAS at h ⊢
    split at h
    · exact ⟨(), rfl, rfl⟩
    · exact h.elim
  | .v a :: l, vs, K, h => by
    unfold decAS at h ⊢
    split at h
    · rename_i b y vs
      split at h
      · rename_i hb e
        subst hb
        obtain ⟨xs, h1, h2⟩ := decAS_ok m (l := l) (vs := vs) (K := fun xs => K (y, xs)) h
        exact ⟨(y, xs), h1, by simp only [EV.denL, denA, h2, EV.den, AT.den]⟩
      · exact h.elim
    · exact h.elim
  | .p _ :: _, vs, K, h => by unfold decAS at h; exact h.elim
  | .f g :: l, vs, K, h => by
    unfold decAS at h ⊢
    split at h
    · rename_i g' a b vs
      cases hc : (Nat.beq g g' && emp a && emp b) with
      | false => rw [hc] at h; exact h.elim
      | true =>
        rw [hc] at h
        simp only [cond_true] at h ⊢
        simp only [Bool.and_eq_true] at hc
        obtain rfl := beqN hc.1.1
        obtain rfl := emp_eq hc.1.2
        obtain rfl := emp_eq hc.2
        obtain ⟨xs, h1, h2⟩ := decAS_ok m (l := l) (vs := vs) (K := fun xs => K ((), xs)) h
        exact ⟨((), xs), by simpa using h1, by simp only [EV.denL, denA, h2, EV.den, AT.den]⟩
    · exact h.elim
def nthS : List EO → Nat → (EO → SR) → SR
  | [], _, _ => .none
  | x :: _, 0, K => K x
  | _ :: l, n + 1, K => nthS l n K
theorem nthS_ok : ∀ {h : List EO} {i : Nat} {K : EO → SR}, (nthS h i K).pre → ∃ o, h[i]? = some o ∧ nthS h i K = K o
  | [], _, _, h => h.elim
  | x :: _, 0, K, h => ⟨x, rfl, rfl⟩
  | _ :: l, n + 1, K, h => by
    obtain ⟨o, h1, h2⟩ := nthS_ok (h := l) (i := n) (K := K) h
    exact ⟨o, h1, h2⟩
def setS' : List EO → Nat → EO → (List EO → SR) → SR
  | [], _, _, K => K []
  | _ :: l, 0, y, K => K (y :: l)
  | x :: l, n + 1, y, K => setS' l n y fun l => K (x :: l)
theorem setS'_eq : ∀ (l : List EO) (n : Nat) (y : EO) (K : List EO → SR), setS' l n y K = K (l.set n y)
  | [], _, _, _ => rfl
  | _ :: _, 0, _, _ => rfl
  | x :: l, n + 1, y, K => by simp only [setS', List.set_cons_succ, setS'_eq l n y]
def snocS : List EO → EO → (List EO → SR) → SR
  | [], y, K => K [y]
  | x :: l, y, K => snocS l y fun l => K (x :: l)
theorem snocS_eq : ∀ (l : List EO) (y : EO) (K : List EO → SR), snocS l y K = K (l ++ [y])
  | [], _, _ => rfl
  | x :: l, y, K => by simp only [snocS, snocS_eq l, List.cons_append]
def lenS (l : List EO) (K : Nat → SR) : SR :=
  match l with
  | [] => K 0
  | [_] => K 1
  | [_, _] => K 2
  | [_, _, _] => K 3
  | [_, _, _, _] => K 4
  | [_, _, _, _, _] => K 5
  | [_, _, _, _, _, _] => K 6
  | l => K l.length
theorem lenS_eq (l : List EO) (K : Nat → SR) : lenS l K = K l.length := by
  unfold lenS; split <;> rfl

/-- What a call of a function that writes is known to do. -/
def MS.ok (P : Program) (K : Prop) (g : FuncId) (S : MS) : Prop := ∀ args h, (S.S args h).pre → ∀ m : Nm, MFn P K g (EV.denL m args) (EO.denL m 0 h) ((S.S args h).den m h.length (S.ks args))
/-- A row is made. -/
def msA (ts : List AT) (pre : Args ts → Prop) (e : TypeId) (a : Ty) (res : Args ts → List a.T → Prop) : MS :=
  ⟨fun args h => decAS ts args fun x => .need (pre x) (.all (List a.T) fun l => .giv (res x l) (lenS h fun n => bif objsBelow n h then snocS h (.row e a l) fun h => .r (.row n) h else .none)), fun _ => []⟩
/-- A row is written, at its place. -/
def msU (e : TypeId) (a : Ty) (ts : List AT) (pre : List a.T → Args ts → Prop) (res : List a.T → Args ts → List a.T → Prop) : MS :=
  ⟨fun args h => match args with
    | .row i :: rest => nthS h i fun o => match o with
      | .row e' b l => bif Nat.beq e e' then (match Ty.eqK b a with
        | some ⟨hh⟩ => withTS (a := .list a) (congrArg Ty.list hh) l fun l => decAS ts rest fun x => .need (pre l x) (.all (List a.T) fun l' => .giv (res l x l') (setS' h i (.row e a l') fun h => .r (.tup []) h))
        | none => .none) else .none
      | _ => .none
    | _ => .none, fun _ => []⟩
/-- A row is written, and given back as another one. -/
def msR (e : TypeId) (a : Ty) (ts : List AT) (pre : List a.T → Args ts → Prop) (res : List a.T → Args ts → List a.T → Prop) : MS :=
  ⟨fun args h => match args with
    | .row i :: rest => nthS h i fun o => match o with
      | .row e' b l => bif Nat.beq e e' && objsBelow 0 h then (match Ty.eqK b a with
        | some ⟨hh⟩ => withTS (a := .list a) (congrArg Ty.list hh) l fun l => decAS ts rest fun x => .need (pre l x) (.all (List a.T) fun l' => .giv (res l x l') (setS' h i (.row e a l') fun h => .r (.row i) h))
        | none => .none) else .none
      | _ => .none
    | _ => .none, fun args => match args with
    | .row i :: _ => [i]
    | _ => []⟩
section
variable {P : Program} {K : Prop} {g : FuncId}
theorem msA_ok {ts : List AT} {pre : Args ts → Prop} {e : TypeId} {a : Ty} {res : Args ts → List a.T → Prop} (h0 : ∀ x, pre x → MFn P K g (denA ts x) [] (rowR e (res x))) : MS.ok P K g (msA ts pre e a res) := by
  intro args h hp m
  simp only [msA] at hp ⊢
  obtain ⟨x, h1, h2⟩ := decAS_ok m hp
  rw [h1] at hp ⊢
  obtain ⟨hx, hp⟩ := hp
  rw [h2]
  have hf := (h0 x hx).frame (EO.denL m 0 h)
  rw [List.append_nil] at hf
  refine hf.perm (.refl _) fun av hh ⟨hs', ⟨v, l, r1, r2, r3⟩, r4⟩ => ⟨hh, .refl _, ?_⟩
  subst r3 r4
  have hp2 := hp l r1
  rw [lenS_eq] at hp2
  cases hc : objsBelow h.length h with
  | false => rw [hc] at hp2; exact hp2.elim
  | true =>
    show ∃ l, res x l ∧ _
    refine ⟨l, r1, ?_⟩
    rw [lenS_eq, hc, cond_true, snocS_eq]
    have hr : (withR m h.length v).r h.length = v := by simp [withR]
    refine ⟨withR m h.length v, ⟨fun _ _ => rfl, fun i hi _ => by simp [withR, show i ≠ h.length by omega]⟩, ?_, ?_⟩
    · rw [r2]; simp only [EV.den, hr]
    · rw [EO.denL_app, objs_below (upto_r m h.length v) hc (by omega)]
      simp only [EO.denL, EO.den, Nat.zero_add, hr]
theorem msU_ok {e : TypeId} {a : Ty} {ts : List AT} {pre : List a.T → Args ts → Prop} {res : List a.T → Args ts → List a.T → Prop} (h0 : ∀ v l x, pre l x → MFn P K g (.x v :: denA ts x) [.row v e a.size l.length (l.flatMap a.enc)] (fun av hh => ∃ l', res l x l' ∧ av = .tup [] ∧ hh = [.row v e a.size l'.length (l'.flatMap a.enc)])) : MS.ok P K g (msU e a ts pre res) := by
  intro args h hp m
  unfold msU at hp ⊢
  simp only at hp ⊢
  split at hp
  · rename_i i rest
    obtain ⟨o, hi, e1⟩ := nthS_ok hp
    rw [e1] at hp
    simp only [e1]
    split at hp
    · rename_i e' b l
      cases hc : Nat.beq e e' with
      | false => rw [hc] at hp; exact hp.elim
      | true =>
        rw [hc] at hp
        obtain rfl := beqN hc
        simp only [cond_true] at hp
        simp only [hc, cond_true]
        split at hp
        · rename_i hab e2
          subst hab
          obtain ⟨x, h1, h2⟩ := decAS_ok m (l := ts) (vs := rest) (K := fun x => .need (pre l x) (.all (List _) fun l' => .giv (res l x l') (setS' h i (.row e _ l') fun h => .r (.tup []) h))) hp
          have hp' : (decAS ts rest fun x => SR.need (pre l x) (.all (List _) fun l' => .giv (res l x l') (setS' h i (.row e _ l') fun h => .r (.tup []) h))).pre := hp
          rw [h1] at hp'
          obtain ⟨hx, _⟩ := hp'
          have hd : (EO.denL m 0 h)[i]? = some (.row (m.r i) e b.size l.length (l.flatMap b.enc)) := by rw [EO.denL_get, hi]; simp [EO.den]
          have hf := (h0 (m.r i) l x hx).mid hd (fun av hh ⟨l', _, _, q⟩ => ⟨_, q⟩)
          have ea : EV.denL m (.row i :: rest) = .x (m.r i) :: denA ts x := by simp only [EV.denL, EV.den, h2]
          rw [ea]
          refine hf.perm (.refl _) fun av hh ⟨p, ⟨l', r1, r2, r3⟩, r4⟩ => ⟨hh, .refl _, ?_⟩
          obtain rfl : p = _ := by simpa using r3
          subst r2 r4
          show SR.den m _ _ (decAS ts rest fun x => SR.need (pre l x) (.all (List _) fun l' => .giv (res l x l') (setS' h i (.row e _ l') fun h => .r (.tup []) h))) _ _
          rw [h1]
          refine ⟨l', r1, ?_⟩
          rw [setS'_eq]
          refine ⟨m, ⟨fun _ _ => rfl, fun _ _ _ => rfl⟩, by simp only [EV.den, EV.denL], ?_⟩
          rw [EO.denL_set]; simp only [EO.den, Nat.zero_add]
        · exact hp.elim
    · exact hp.elim
  · exact hp.elim
theorem msR_ok {e : TypeId} {a : Ty} {ts : List AT} {pre : List a.T → Args ts → Prop} {res : List a.T → Args ts → List a.T → Prop} (h0 : ∀ v l x, pre l x → MFn P K g (.x v :: denA ts x) [.row v e a.size l.length (l.flatMap a.enc)] (rowR e (res l x))) : MS.ok P K g (msR e a ts pre res) := by
  intro args h hp m
  unfold msR at hp ⊢
  simp only at hp ⊢
  split at hp
  · rename_i i rest
    obtain ⟨o, hi, e1⟩ := nthS_ok hp
    rw [e1] at hp
    simp only [e1]
    split at hp
    · rename_i e' b l
      cases hc : (Nat.beq e e' && objsBelow 0 h) with
      | false => rw [hc] at hp; exact hp.elim
      | true =>
        rw [hc] at hp
        simp only [cond_true] at hp
        simp only [hc, cond_true]
        simp only [Bool.and_eq_true] at hc
        obtain rfl := beqN hc.1
        split at hp
        · rename_i hab e2
          subst hab
          obtain ⟨x, h1, h2⟩ := decAS_ok m (l := ts) (vs := rest) (K := fun x => .need (pre l x) (.all (List _) fun l' => .giv (res l x l') (setS' h i (.row e _ l') fun h => .r (.row i) h))) hp
          have hp' : (decAS ts rest fun x => SR.need (pre l x) (.all (List _) fun l' => .giv (res l x l') (setS' h i (.row e _ l') fun h => .r (.row i) h))).pre := hp
          rw [h1] at hp'
          obtain ⟨hx, _⟩ := hp'
          have hd : (EO.denL m 0 h)[i]? = some (.row (m.r i) e b.size l.length (l.flatMap b.enc)) := by rw [EO.denL_get, hi]; simp [EO.den]
          have hf := (h0 (m.r i) l x hx).mid hd (fun av hh ⟨v', l', _, _, q⟩ => ⟨_, q⟩)
          have ea : EV.denL m (.row i :: rest) = .x (m.r i) :: denA ts x := by simp only [EV.denL, EV.den, h2]
          rw [ea]
          refine hf.perm (.refl _) fun av hh ⟨p, ⟨v', l', r1, r2, r3⟩, r4⟩ => ⟨hh, .refl _, ?_⟩
          obtain rfl : p = _ := by simpa using r3
          subst r2 r4
          show SR.den m _ _ (decAS ts rest fun x => SR.need (pre l x) (.all (List _) fun l' => .giv (res l x l') (setS' h i (.row e _ l') fun h => .r (.row i) h))) _ _
          rw [h1]
          refine ⟨l', r1, ?_⟩
          rw [setS'_eq]
          have hr : (withR m i v').r i = v' := by simp [withR]
          refine ⟨withR m i v', ⟨fun _ _ => rfl, fun j hj hne => by simp [withR, show j ≠ i by simpa using hne]⟩, by simp only [EV.den, hr], ?_⟩
          rw [EO.denL_set]
          simp only [EO.den, Nat.zero_add, hr]
          apply List.ext_getElem?
          intro j
          rw [List.getElem?_set, List.getElem?_set, EO.denL_len, EO.denL_len]
          split
          · rfl
          · rename_i hne
            rw [EO.denL_get, EO.denL_get]
            cases hj : h[j]? with
            | none => rfl
            | some q =>
              simp only [Option.map_some, Nat.zero_add]
              congr 1
              have hq : q.bw 0 = true := by
                have hall : ∀ {l : List EO}, objsBelow 0 l = true → ∀ q ∈ l, q.bw 0 = true := by
                  intro l
                  induction l with
                  | nil => intro _ q hq; cases hq
                  | cons x l ih =>
                    intro hh q hq
                    simp only [objsBelow, Bool.and_eq_true] at hh
                    rcases List.mem_cons.1 hq with rfl | hq
                    · exact hh.1
                    · exact ih hh.2 q hq
                exact hall hc.2 q (List.mem_of_getElem? hj)
              cases q with
              | cell T c => simp only [EO.den, flat_below (n := 0) (m := m) (m' := withR m i v') ⟨fun _ h => by omega, fun _ h => by omega⟩ c hq]; rfl
              | row e' a' l' => simp only [EO.den]; simp [withR, Ne.symm hne]
              | dead => rfl
              | raw o => rfl
        · exact hp.elim
    · exact hp.elim
  · exact hp.elim
def AllMS (P : Program) (K : Prop) : List (FuncId × MS) → Prop
  | [] => True
  | p :: l => MS.ok P K p.1 p.2 ∧ AllMS P K l
theorem AllMS.mem : ∀ {l : List (FuncId × MS)}, AllMS P K l → ∀ g S, (g, S) ∈ l → MS.ok P K g S
  | p :: l, h, g, S, hm => by
    rcases List.mem_cons.1 hm with e | hm
    · subst e; exact h.1
    · exact AllMS.mem h.2 g S hm
end
def ebM (T : List (TypeId × TI)) (F : List FE) (Q : EqT) (M : List (FuncId × MS)) : EB := { T := T, F := F, Q := Q, M := M }
theorem ebM_ok {P : Program} {K : Prop} {T : List (TypeId × TI)} {F : List FE} {Q : EqT} {M : List (FuncId × MS)} (hm : P.follows .mixedOrders = true) (hT : AllTI P T) (hF : AllFE P K F) (hQ : AllQ P Q) (hM : AllMS P K M) : EBok (ebM T F Q M) P K :=
  ⟨⟨fun t ti h => hT.mem t ti h, fun fe h => hF.mem fe h, fun t q h => hQ.mem t q h⟩, fun g S h => hM.mem g S h, hm⟩
end Go.Proofs.Ytpehmadeklaebaa
