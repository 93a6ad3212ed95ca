/-
  E20
-/
import Derived.Test.YtpehmadeklaebaaZE19
namespace Go.Proofs.Ytpehmadeklaebaa
open Go Go.RowKit
set_option linter.unusedVariables false

theorem kInt {P : Program} {t : TypeId} {k : IntKind} (h : P.underlying t = some (.int k)) : (TK.int k).ok P t := h
theorem kStr {P : Program} {t : TypeId} (h : P.underlying t = some .string) : TK.str.ok P t := h
theorem kBool {P : Program} {t : TypeId} (h : P.underlying t = some .bool) : TK.bool.ok P t := h
theorem kSt {P : Program} {t : TypeId} {fs : List (Nat × Nat)} (h : tyFields P t = some fs) (g : (stPlaces P t).isSome = true) : (TK.st fs).ok P t := ⟨h, g⟩
theorem kArr {P : Program} {t : TypeId} {n e : Nat} (h : P.underlying t = some (.array n e)) : (TK.arr n e).ok P t := h
theorem kSl {P : Program} {t : TypeId} {e b : Nat} (h : P.underlying t = some (.slice e)) (g : (rowOf P e).map (·.2) = some b) : (TK.sl e b).ok P t := ⟨h, g⟩
theorem tiok {P : Program} {t : TypeId} {ti : TI} (h1 : tyOf P t = some (ti.ag, ti.sz)) (h2 : ti.k.ok P t) (h3 : tyZero P t = some ti.zs) (h4 : match ti.code with | some c => c.size = ti.sz ∧ c.agg = ti.ag | none => True) : TIok P t ti :=
  ⟨h1, h2, h3, fun c hc => by rw [hc] at h4; exact h4⟩
def AllTI (P : Program) : List (TypeId × TI) → Prop
  | [] => True
  | p :: l => TIok P p.1 p.2 ∧ AllTI P l
theorem AllTI.mem {P : Program} : ∀ {l : List (TypeId × TI)}, AllTI P l → ∀ t ti, (t, ti) ∈ l → TIok P t ti
  | p :: l, h, t, ti, hm => by
    rcases List.mem_cons.1 hm with e | hm
    · subst e; exact h.1
    · exact AllTI.mem h.2 t ti hm
theorem AllTI.append {P : Program} : ∀ {l k : List (TypeId × TI)}, AllTI P l → AllTI P k → AllTI P (l ++ k)
  | [], _, _, hk => hk
  | _ :: _, _, h, hk => ⟨h.1, AllTI.append h.2 hk⟩
def AllFE (P : Program) (K : Prop) : List FE → Prop
  | [] => True
  | p :: l => FE.ok P K p ∧ AllFE P K l
theorem AllFE.mem {P : Program} {K : Prop} : ∀ {l : List FE}, AllFE P K l → ∀ p ∈ l, FE.ok P K p
  | p :: l, h, q, hm => by
    rcases List.mem_cons.1 hm with e | hm
    · subst e; exact h.1
    · exact AllFE.mem h.2 q hm
theorem AllFE.append {P : Program} {K : Prop} : ∀ {l k : List FE}, AllFE P K l → AllFE P K k → AllFE P K (l ++ k)
  | [], _, _, hk => hk
  | _ :: _, _, h, hk => ⟨h.1, AllFE.append h.2 hk⟩
theorem PFn.weak {P : Program} {K : Prop} {g : FuncId} {avs : List AV} {av : AV} (h : PFn P True g avs av) : PFn P K g avs av :=
  ⟨h.enter, fun O w args hO hl hr => (h.calls O w args hO hl hr).mono fun e w' ⟨r, h1, h2, h3⟩ => ⟨r, h1, h2, ⟨h3.b, fun _ => h3.d trivial⟩⟩⟩
theorem FE.weak {P : Program} {K : Prop} {f : FE} (h : FE.ok P True f) : FE.ok P K f := fun x hx m => (h x hx m).weak
abbrev EqT := List (TypeId × ((a : Ty) × (a.T → a.T → Bool)))
def AllQ (P : Program) : EqT → Prop
  | [] => True
  | p :: l => (p.2.1.agg = true ∧ P.eqGuardType P.depth p.1 = false ∧ ∀ x y, AV.exL (p.2.1.enc x) = true ∧ AV.exL (p.2.1.enc y) = true ∧ ∀ w, (Op.equalIn 10000 p.1 (.agg (AV.vals (p.2.1.enc x)).toArray) (.agg (AV.vals (p.2.1.enc y)).toArray)).run P w = .ok (p.2.2 x y) w) ∧ AllQ P l
theorem AllQ.mem {P : Program} : ∀ {l : EqT}, AllQ P l → ∀ t q, (t, q) ∈ l → q.1.agg = true ∧ P.eqGuardType P.depth t = false ∧ ∀ x y, AV.exL (q.1.enc x) = true ∧ AV.exL (q.1.enc y) = true ∧ ∀ w, (Op.equalIn 10000 t (.agg (AV.vals (q.1.enc x)).toArray) (.agg (AV.vals (q.1.enc y)).toArray)).run P w = .ok (q.2 x y) w
  | p :: l, h, t, q, hm => by
    rcases List.mem_cons.1 hm with e | hm
    · subst e; exact h.1
    · exact AllQ.mem h.2 t q hm
/-- Functions that write nothing, and types. -/
def ebOf (T : List (TypeId × TI)) (F : List FE) (Q : EqT) : EB := { T := T, F := F, Q := Q, M := [] }
theorem ebOf_ok {P : Program} {K : Prop} {T : List (TypeId × TI)} {F : List FE} {Q : EqT} (hm : P.follows .mixedOrders = true) (hT : AllTI P T) (hF : AllFE P K F) (hQ : AllQ P Q) : EBok (ebOf T F Q) P K :=
  ⟨⟨fun t ti h => hT.mem t ti h, fun fe h => hF.mem fe h, fun t q h => hQ.mem t q h⟩, fun g S h => by simp [ebOf] at h, hm⟩

def getS : List (Nat × EV) → Nat → EV
  | [], _ => .any
  | (e, w) :: l, d => bif Nat.beq d e then w else getS l d
theorem getS_slots (m : Nm) : ∀ (l : List (Nat × EV)) (d : Nat), slotsOf m l d = (getS l d).den m
  | [], _ => rfl
  | (e, w) :: l, d => by
    simp only [slotsOf, getS, upd]
    cases Nat.beq d e with
    | true => rfl
    | false => exact getS_slots m l d
/-- A nil slice as a row of the call's own. -/
theorem e_nil {E : EC} {B : Nat → ES → Prop} {R : ES → Prop} {s : ES} {c : Code} {k : List Item} (t : Nat) (e : TypeId) (b : Ty) (n : Nat) (h1 : getS s.t t = .nil) (h2 : (Nat.beq s.h.length n && slotsBelow n s.t && objsBelow n s.h) = true) (hn : E.n0 ≤ n)
    (h : IW E B R (.code c :: k) ⟨(t, .row n) :: s.t, s.h ++ [.row e b []]⟩) : IW E B R (.code c :: k) s := by
  unfold IW at h ⊢
  simp only [Bool.and_eq_true] at h2
  obtain ⟨⟨h3, h4⟩, h5⟩ := h2
  have h3 := beqN h3
  subst h3
  refine ⟨fun m hm a w hs => ?_⟩
  have hu := upto_r m s.h.length (.slice none 0 0)
  have hr : (withR m s.h.length (.slice none 0 0)).r s.h.length = .slice none 0 0 := by simp [withR]
  refine h.run (withR m s.h.length (.slice none 0 0)) (agr_r hm (.inl hn)) a w ?_
  have h6 := st_nilrow (s := s.den m) (e := e) (k := b.size) hs
  have e1 : (ES.den (withR m s.h.length (.slice none 0 0)) ⟨(t, .row s.h.length) :: s.t, s.h ++ [.row e b []]⟩) = ⟨(s.den m).t, (s.den m).h ++ [.row (.slice none 0 0) e b.size 0 []]⟩ := by
    unfold ES.den
    simp only [EO.denL_app, objs_below hu h5 (show 0 + s.h.length ≤ s.h.length by omega), EO.denL, EO.den, Nat.zero_add, hr, slotsOf, slots_below hu h4, EV.den]
    have : upd (slotsOf m s.t) t (.x (.slice none 0 0)) = slotsOf m s.t := by
      funext u
      simp only [upd]
      cases hc : Nat.beq u t with
      | true => obtain rfl := beqN hc; simp only [cond_true]; rw [getS_slots, h1]; rfl
      | false => rfl
    rw [this]; rfl
  rw [e1]; exact h6
theorem e_lp {E : EC} {B : Nat → ES → Prop} {R : ES → Prop} {s : ES} {c : Code} {k : List Item} (h : IW E B R (.code (.loop c) :: k) s) : (Tree.loop c k s).ok E B R := h
theorem nd_t {p : Prop} [Decidable p] (h : (!decide p) = true) : ¬ p := by simpa using h
theorem nd_f {p : Prop} [Decidable p] (h : (!decide p) = false) : p := by simpa using h
theorem d_t {p : Prop} [Decidable p] (h : decide p = true) : p := of_decide_eq_true h
theorem d_f {p : Prop} [Decidable p] (h : decide p = false) : ¬ p := of_decide_eq_false h
theorem nat_t {a b : Nat} (h : decide ((a : Int) < (b : Int)) = true) : a < b := by simpa using h
theorem nat_f {a b : Nat} (h : decide ((a : Int) < (b : Int)) = false) : b ≤ a := by
  have : ¬ (a : Int) < (b : Int) := of_decide_eq_false h
  omega
theorem take_getD {α : Type} {l : List α} {i : Nat} (d : α) (h : i < l.length) : l.take (i + 1) = l.take i ++ [l.getD i d] := by
  rw [List.take_succ_eq_append_getElem h]; simp [h]
theorem filt_step {α : Type} {l : List α} {p : α → Bool} {i : Nat} (d : α) (h : i < l.length) (b : Bool) (hb : p (l.getD i d) = b) : (l.take (i + 1)).filter p = (l.take i).filter p ++ (if b then [l.getD i d] else []) := by
  rw [take_getD d h, List.filter_append, List.filter_cons, hb]; cases b <;> rfl
theorem filt_yes {α : Type} {l : List α} {p : α → Bool} {i : Nat} (d : α) (h : i < l.length) (hb : p (l.getD i d) = true) : (l.take i).filter p ++ [l.getD i d] = (l.take (i + 1)).filter p := (filt_step d h true hb).symm
theorem filt_no {α : Type} {l : List α} {p : α → Bool} {i : Nat} (d : α) (h : i < l.length) (hb : p (l.getD i d) = false) : (l.take i).filter p = (l.take (i + 1)).filter p := by rw [filt_step d h false hb]; simp
theorem map_step {α β : Type} {l : List α} {f : α → β} {i : Nat} (d : α) (h : i < l.length) : (l.take i).map f ++ [f (l.getD i d)] = (l.take (i + 1)).map f := by
  rw [take_getD d h, List.map_append]; rfl
theorem e_skip {E : EC} {R : ES → Prop} {B : Nat → ES → Prop} {d j : Nat} {X : ES → Prop} {s : ES} (h : Nat.beq j d = false) (k : B j s) : backB E R B d X j s := by
  unfold backB; rw [h]; exact k
theorem tw_at {α : Type} {p : α → Bool} (d : α) : ∀ {l : List α} {k : Nat}, k ≤ l.length → (∀ j, j < k → p (l.getD j d) = true) → (k = l.length ∨ p (l.getD k d) = false) → l.takeWhile p = l.take k ∧ l.dropWhile p = l.drop k
  | [], k, h, _, _ => by
    obtain rfl : k = 0 := by simpa using h
    exact ⟨rfl, rfl⟩
  | x :: l, 0, h, h1, h2 => by
    rcases h2 with h2 | h2
    · simp at h2
    · have : p x = false := h2
      simp [this]
  | x :: l, k + 1, h, h1, h2 => by
    have hx : p x = true := h1 0 (by omega)
    obtain ⟨e1, e2⟩ := tw_at d (l := l) (k := k) (by simpa using h) (fun j hj => h1 (j + 1) (by omega)) (by simpa using h2)
    simp [hx, e1, e2]
theorem mem_getD {α : Type} {l : List α} {i : Nat} (d : α) (h : i < l.length) : l.getD i d ∈ l := by
  have : l.getD i d = l[i] := by simp [h]
  rw [this]; exact List.getElem_mem h
theorem nmem_step {α : Type} {l : List α} {i : Nat} {y : α} (d : α) (h : i < l.length) (h1 : y ∉ l.take i) (h2 : ¬ l.getD i d = y) : y ∉ l.take (i + 1) := by
  rw [take_getD d h, List.mem_append, List.mem_singleton]
  rintro (h3 | h3)
  · exact h1 h3
  · exact h2 h3.symm
theorem eq_step {α : Type} {l m : List α} {i : Nat} (d : α) (h : i < l.length) (h' : i < m.length) (h1 : l.take i = m.take i) (h2 : l.getD i d = m.getD i d) : l.take (i + 1) = m.take (i + 1) := by
  rw [take_getD d h, take_getD d h', h1, h2]
theorem eq_all {α : Type} {l m : List α} {i : Nat} (hl : l.length = m.length) (hi : l.length ≤ i) (h : l.take i = m.take i) : l = m := by
  rwa [List.take_of_length_le hi, List.take_of_length_le (by omega)] at h
end Go.Proofs.Ytpehmadeklaebaa
