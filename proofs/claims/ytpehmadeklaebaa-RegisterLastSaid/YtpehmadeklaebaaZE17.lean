/-
  E17
-/
import Derived.Test.YtpehmadeklaebaaZE16
namespace Go.Proofs.Ytpehmadeklaebaa
open Go Go.RowKit
set_option linter.unusedVariables false
set_option linter.unusedSimpArgs false

/-- A value is what it should be. -/
def sameK (v r : EV) (T : Tree) : Tree :=
  match r with
  | .td b y => match v with
    | .td a x => match Ty.eqK a b with
      | some ⟨h⟩ => withT h x fun x => .need (x = y) T
      | none => .bad 150
    | .bl c => match b, y with
      | .bool, y => .need (c = y) T
      | _, _ => .bad 151
    | .nil => match b, y with
      | .list _, y => .need (y = []) T
      | _, _ => .bad 152
    | .st fs => bif b.agg then decK b (.st fs) fun x => .need (x = y) T else .bad 153
    | _ => .bad 154
  | .st gs => match v with
    | .st fs => goL fs gs T
    | v => .need (v = .st gs) T
  | .tup gs => match v with
    | .tup fs => goL fs gs T
    | v => .need (v = .tup gs) T
  | .any => bif Nat.beq v.size 1 then T else .bad 156
  | r => .need (v = r) T
where goL : List EV → List EV → Tree → Tree
  | [], [], T => T
  | v :: l, r :: k, T => sameK v r (goL l k T)
  | _, _, _ => .bad 155

section
variable {E : EC} {B : Nat → ES → Prop} {R : ES → Prop} {m : Nm}
mutual
theorem sameK_ok : ∀ (v r : EV) (T : Tree), (sameK v r T).ok E B R → T.ok E B R ∧ ∀ m, Sub (v.den m) (r.den m) ∧ SubL (v.flat m) (r.flat m)
  | v, .td b y, T, h => by
    unfold sameK at h
    split at h
    · split at h
      · rename_i hb _
        subst hb
        obtain ⟨rfl, h2⟩ := h
        exact ⟨h2, fun m => ⟨Sub.refl, SubL.refl _⟩⟩
      · exact h.elim
    · split at h
      · obtain ⟨rfl, h2⟩ := h
        exact ⟨h2, fun m => ⟨Sub.refl, SubL.refl _⟩⟩
      · exact h.elim
    · split at h
      · obtain ⟨rfl, h2⟩ := h
        exact ⟨h2, fun m => ⟨Sub.nil_, Sub.nil_, trivial⟩⟩
      · exact h.elim
    · cases hc : b.agg with
      | false => rw [hc] at h; exact h.elim
      | true =>
        rw [hc] at h
        obtain ⟨x, ⟨rfl, h2⟩, _⟩ := decK_ok (m := ⟨fun _ => 0, fun _ => undef⟩) h
        refine ⟨h2, fun m => ?_⟩
        rw [cond_true] at h
        obtain ⟨x', ⟨rfl, _⟩, h4⟩ := decK_ok (m := m) h
        refine ⟨?_, h4⟩
        rw [EV.den_agg m (.td b _) hc]
        exact Sub.agg h4
    · exact h.elim
  | v, .st gs, T, h => by
    unfold sameK at h
    split at h
    · obtain ⟨h1, h2⟩ := sameL_ok _ _ T h
      exact ⟨h1, fun m => ⟨Sub.agg (h2 m).2, by simp only [EV.flat]; exact (h2 m).2⟩⟩
    · obtain ⟨rfl, h2⟩ := h
      exact ⟨h2, fun m => ⟨Sub.refl, SubL.refl _⟩⟩
  | v, .tup gs, T, h => by
    unfold sameK at h
    split at h
    · obtain ⟨h1, h2⟩ := sameL_ok _ _ T h
      have ht : ∀ m, Sub ((EV.tup _).den m) ((EV.tup gs).den m) := fun m => by
        simp only [EV.den]
        intro O w u hu
        simp only [Rep] at hu ⊢
        obtain ⟨us, e1, e2, e3⟩ := hu
        exact ⟨us, e1, by rw [e2, (h2 m).1.len], (h2 m).1.repC e3⟩
      exact ⟨h1, fun m => ⟨ht m, ht m, trivial⟩⟩
    · obtain ⟨rfl, h2⟩ := h
      exact ⟨h2, fun m => ⟨Sub.refl, SubL.refl _⟩⟩
  | v, .any, T, h => by
    unfold sameK at h
    cases hc : Nat.beq v.size 1 with
    | false => rw [hc] at h; exact h.elim
    | true =>
      rw [hc] at h
      have hs := beqN hc
      refine ⟨h, fun m => ⟨Sub.any, ?_⟩⟩
      have hl := EV.flat_len m v
      rw [hs] at hl
      match hv : v.flat m, hl with
      | [x], _ => exact ⟨Sub.any, trivial⟩
  | v, .val u, T, h => by unfold sameK at h; obtain ⟨rfl, h2⟩ := h; exact ⟨h2, fun m => ⟨Sub.refl, SubL.refl _⟩⟩
  | v, .nil, T, h => by unfold sameK at h; obtain ⟨rfl, h2⟩ := h; exact ⟨h2, fun m => ⟨Sub.refl, SubL.refl _⟩⟩
  | v, .bl _, T, h => by unfold sameK at h; obtain ⟨rfl, h2⟩ := h; exact ⟨h2, fun m => ⟨Sub.refl, SubL.refl _⟩⟩
  | v, .own _ _, T, h => by unfold sameK at h; obtain ⟨rfl, h2⟩ := h; exact ⟨h2, fun m => ⟨Sub.refl, SubL.refl _⟩⟩
  | v, .row _, T, h => by unfold sameK at h; obtain ⟨rfl, h2⟩ := h; exact ⟨h2, fun m => ⟨Sub.refl, SubL.refl _⟩⟩
  | v, .rp _ _ _ _, T, h => by unfold sameK at h; obtain ⟨rfl, h2⟩ := h; exact ⟨h2, fun m => ⟨Sub.refl, SubL.refl _⟩⟩
  | v, .rs _ _ _ _, T, h => by unfold sameK at h; obtain ⟨rfl, h2⟩ := h; exact ⟨h2, fun m => ⟨Sub.refl, SubL.refl _⟩⟩
  | v, .lp _ _ _, T, h => by unfold sameK at h; obtain ⟨rfl, h2⟩ := h; exact ⟨h2, fun m => ⟨Sub.refl, SubL.refl _⟩⟩
  | v, .fn _ _, T, h => by unfold sameK at h; obtain ⟨rfl, h2⟩ := h; exact ⟨h2, fun m => ⟨Sub.refl, SubL.refl _⟩⟩
  | v, .av _, T, h => by unfold sameK at h; obtain ⟨rfl, h2⟩ := h; exact ⟨h2, fun m => ⟨Sub.refl, SubL.refl _⟩⟩
theorem sameL_ok : ∀ (vs rs : List EV) (T : Tree), (sameK.goL vs rs T).ok E B R → T.ok E B R ∧ ∀ m, SubL (EV.denL m vs) (EV.denL m rs) ∧ SubL (EV.flatL m vs) (EV.flatL m rs)
  | [], [], T, h => ⟨h, fun m => ⟨trivial, trivial⟩⟩
  | v :: l, r :: k, T, h => by
    unfold sameK.goL at h
    obtain ⟨h1, h2⟩ := sameK_ok v r _ h
    obtain ⟨h3, h4⟩ := sameL_ok l k T h1
    exact ⟨h3, fun m => ⟨⟨(h2 m).1, (h4 m).1⟩, by simp only [EV.flatL]; exact (h2 m).2.append (h4 m).2⟩⟩
  | [], _ :: _, T, h => h.elim
  | _ :: _, [], T, h => h.elim
end
end

/-- A state is as it should be. -/
def sameS (s : ES) : List (Nat × EV) → Tree → Tree
  | [], T => T
  | (d, r) :: l, T => findK s.t d fun v => sameK v r (sameS s l T)
def sameO : List EO → List EO → Tree → Tree
  | _, [], T => T
  | o :: l, p :: k, T => match p with
    | .cell T' c' => match o with
      | .cell U c => bif Nat.beq U T' then sameK c c' (sameO l k T) else .bad 160
      | _ => .bad 161
    | .row e' b y => match o with
      | .row e a x => match Ty.eqK a b with
        | some ⟨h⟩ => bif Nat.beq e e' then withT (a := .list b) (congrArg Ty.list h) x fun x => .need (x = y) (sameO l k T) else .bad 162
        | none => .bad 163
      | _ => .bad 164
    | .dead => match o with
      | .dead => sameO l k T
      | .row _ _ _ => sameO l k T
      | .cell _ _ => sameO l k T
      | _ => .bad 165
    | .raw _ => .bad 166
  | [], _ :: _, _ => .bad 167
/-- Rows that should be at rest come to rest. -/
def frzFor : List (Nat × EV) → ES → (ES → Tree) → Tree
  | [], s, K => K s
  | (d, r) :: l, s, K => match r with
    | .td (.list _) _ => findK s.t d fun v => frzL [v] s fun s => frzFor l s K
    | _ => frzFor l s K
def subT (s s' : ES) (T : Tree) : Tree := match s' with
  | ⟨t', h'⟩ => frzFor t' s fun s => match s with
    | ⟨t, h⟩ => sameS ⟨t, h⟩ t' (sameO h h' T)

/-- Fewer own blocks: what is let go is nobody's to write. -/
theorem env_let {X : Nat → Prop} {w0 : Orig} {h h' : List HObj} {w : World} (env : Env X w0 h w) (hl : h'.length ≤ h.length) (hk : ∀ (j : Nat) (o o' : HObj), h[j]? = some o → h'[j]? = some o' → o' = .dead ∨ (o'.blk = o.blk ∧ (o.ok (owned X h) w → o'.ok (owned X h) w))) : Env X w0 h' w ∧ ∀ b, owned X h' b → owned X h b := by
  have at_ : ∀ (j : Nat) (o' : HObj), h'[j]? = some o' → ∃ o, h[j]? = some o ∧ (o' = .dead ∨ (o'.blk = o.blk ∧ (o.ok (owned X h) w → o'.ok (owned X h) w))) := fun j o' hj => by
    have hlt := (List.getElem?_eq_some_iff.1 hj).1
    have hj2 : h[j]? = some h[j] := List.getElem?_eq_getElem (by omega)
    exact ⟨_, hj2, hk j _ o' hj2 hj⟩
  have blk_ : ∀ (j : Nat) (o' : HObj) b, h'[j]? = some o' → o'.blk = some b → ∃ o, h[j]? = some o ∧ o.blk = some b := fun j o' b hj hb => by
    obtain ⟨o, h1, h2⟩ := at_ j o' hj
    rcases h2 with rfl | ⟨h2, _⟩
    · cases hb
    · exact ⟨o, h1, by rw [← h2]; exact hb⟩
  have hsub : ∀ b, owned X h' b → owned X h b := fun b hb => by
    rcases hb with hx | ⟨o', ho, hob⟩
    · exact .inl hx
    · obtain ⟨j, hj⟩ := List.mem_iff_getElem?.1 ho
      obtain ⟨o, h1, h2⟩ := blk_ j o' b hj hob
      exact .inr ⟨o, List.mem_of_getElem? h1, h2⟩
  refine ⟨⟨env.below, fun o' ho => ?_, fun o' ho b hob => ?_, fun o' ho b hob => ?_, env.ext, fun i j o p b hi hj hob hpb => ?_⟩, hsub⟩
  · obtain ⟨j, hj⟩ := List.mem_iff_getElem?.1 ho
    obtain ⟨o, h1, h2⟩ := at_ j o' hj
    rcases h2 with rfl | ⟨h2, h3⟩
    · trivial
    · exact HObj.ok_mono (h3 (env.objs o (List.mem_of_getElem? h1))) (Kept.refl _ _) (fun b _ hb => hsub b hb) fun _ _ => rfl
  · obtain ⟨j, hj⟩ := List.mem_iff_getElem?.1 ho
    obtain ⟨o, h1, h2⟩ := blk_ j o' b hj hob
    exact env.new o (List.mem_of_getElem? h1) b h2
  · obtain ⟨j, hj⟩ := List.mem_iff_getElem?.1 ho
    obtain ⟨o, h1, h2⟩ := blk_ j o' b hj hob
    exact env.lt o (List.mem_of_getElem? h1) b h2
  · obtain ⟨o1, h1, h2⟩ := blk_ i o b hi hob
    obtain ⟨o2, h3, h4⟩ := blk_ j p b hj hpb
    exact env.apart i j o1 o2 b h1 h3 h2 h4

section
variable {E : EC} {B : Nat → ES → Prop} {R : ES → Prop} {m : Nm}
theorem sameS_ok {s : ES} : ∀ {l : List (Nat × EV)} {T : Tree}, (sameS s l T).ok E B R → T.ok E B R ∧ ∀ m t, Sub (slotsOf m s.t t) (slotsOf m l t)
  | [], T, h => ⟨h, fun m t => Sub.any⟩
  | (d, r) :: l, T, h => by
    unfold sameS at h
    obtain ⟨v, h1, h2⟩ := findK_all h
    obtain ⟨h3, h4⟩ := sameK_ok v r _ h1
    obtain ⟨h5, h6⟩ := sameS_ok h3
    refine ⟨h5, fun m t => ?_⟩
    simp only [slotsOf, upd]
    cases hc : Nat.beq t d with
    | true => obtain rfl := beqN hc; rw [h2]; exact (h4 m).1
    | false => exact h6 m t
theorem sameO_ok {m : Nm} : ∀ {h h' : List EO} {T : Tree} {i : Nat}, (sameO h h' T).ok E B R → T.ok E B R ∧ h'.length ≤ h.length ∧ ∀ (j : Nat) (o o' : EO), h[j]? = some o → h'[j]? = some o' → o'.den m (i + j) = .dead ∨ ((o'.den m (i + j)).blk = (o.den m (i + j)).blk ∧ ∀ O w, (o.den m (i + j)).ok O w → (o'.den m (i + j)).ok O w)
  | h, [], T, i, hh => by
    have hh' : T.ok E B R := by cases h <;> exact hh
    exact ⟨hh', by simp, fun j o o' _ h2 => by simp at h2⟩
  | [], p :: k, T, i, hh => hh.elim
  | o :: l, p :: k, T, i, hh => by
    have step : ∀ (hT : (sameO l k T).ok E B R) (h0 : p.den m i = .dead ∨ ((p.den m i).blk = (o.den m i).blk ∧ ∀ O w, (o.den m i).ok O w → (p.den m i).ok O w)), T.ok E B R ∧ (p :: k).length ≤ (o :: l).length ∧ ∀ (j : Nat) (q q' : EO), (o :: l)[j]? = some q → (p :: k)[j]? = some q' → q'.den m (i + j) = .dead ∨ ((q'.den m (i + j)).blk = (q.den m (i + j)).blk ∧ ∀ O w, (q.den m (i + j)).ok O w → (q'.den m (i + j)).ok O w) := fun hT h0 => by
      obtain ⟨h1, h2, h3⟩ := sameO_ok (i := i + 1) hT
      refine ⟨h1, by simpa using h2, fun j q q' hq hq' => ?_⟩
      cases j with
      | zero =>
        obtain rfl : o = q := by simpa using hq
        obtain rfl : p = q' := by simpa using hq'
        exact h0
      | succ j =>
        have := h3 j q q' (by simpa using hq) (by simpa using hq')
        rw [show i + (j + 1) = i + 1 + j by omega]
        exact this
    unfold sameO at hh
    split at hh
    · split at hh
      · rename_i T' c' _ U c
        cases hc : Nat.beq U T' with
        | false => rw [hc] at hh; exact hh.elim
        | true =>
          rw [hc] at hh
          obtain rfl := beqN hc
          obtain ⟨h1, h2⟩ := sameK_ok _ _ _ hh
          refine step h1 (.inr ⟨rfl, fun O w ⟨us, e1, e2, e3⟩ => ⟨us, e1, by rw [e2, (h2 m).2.len], (h2 m).2.repC e3⟩⟩)
      · exact hh.elim
    · split at hh
      · split at hh
        · rename_i e' b y _ e a x _ h0 _
          subst h0
          cases hc : Nat.beq e e' with
          | false => rw [hc] at hh; exact hh.elim
          | true =>
            rw [hc] at hh
            obtain rfl := beqN hc
            obtain ⟨rfl, h1⟩ := hh
            exact step h1 (.inr ⟨rfl, fun O w h => h⟩)
        · exact hh.elim
      · exact hh.elim
    · split at hh
      · exact step hh (.inl rfl)
      · exact step hh (.inl rfl)
      · exact step hh (.inl rfl)
      · exact hh.elim
    · exact hh.elim
theorem frzFor_ok {m : Nm} : ∀ {l : List (Nat × EV)} {s : ES} {K : ES → Tree}, (frzFor l s K).ok E B R → ∃ s1 : ES, (K s1).ok E B R ∧ ∀ a w, E.toCx.St (s.den m) a w → E.toCx.St (s1.den m) a w
  | [], s, K, h => ⟨s, h, fun _ _ h => h⟩
  | (d, r) :: l, s, K, h => by
    unfold frzFor at h
    split at h
    · obtain ⟨v, h1, _⟩ := findK_ok (m := m) h
      obtain ⟨s1, h2, h3⟩ := frzL_ok (m := m) h1
      obtain ⟨s2, h4, h5⟩ := frzFor_ok h2
      exact ⟨s2, h4, fun a w hs => h5 a w (h3 a w hs)⟩
    · exact frzFor_ok h
theorem subT_ok {s s' : ES} {T : Tree} (h : (subT s s' T).ok E B R) : T.ok E B R ∧ ∀ m a w, E.toCx.St (s.den m) a w → E.toCx.St (s'.den m) a w := by
  obtain ⟨t', h'⟩ := s'
  unfold subT at h
  have key : ∀ m : Nm, T.ok E B R ∧ ∀ a w, E.toCx.St (s.den m) a w → E.toCx.St (ES.den m ⟨t', h'⟩) a w := fun m => by
    obtain ⟨⟨t, o⟩, h1, h2⟩ := frzFor_ok (m := m) h
    simp only at h1
    obtain ⟨g1, g2⟩ := sameS_ok h1
    obtain ⟨g3, g4, g5⟩ := sameO_ok (m := m) (i := 0) g1
    refine ⟨g3, fun a w hs => ?_⟩
    have hs := h2 a w hs
    obtain ⟨k1, k2⟩ := env_let (h' := EO.denL m 0 h') hs.env (by show (EO.denL m 0 h').length ≤ (EO.denL m 0 o).length; rw [EO.denL_len, EO.denL_len]; exact g4) fun j p p' hp hp' => by
      change (EO.denL m 0 o)[j]? = some p at hp
      rw [EO.denL_get, Option.map_eq_some_iff] at hp hp'
      obtain ⟨q, hq, rfl⟩ := hp
      obtain ⟨q', hq', rfl⟩ := hp'
      rcases g5 j q q' hq hq' with h6 | ⟨h6, h7⟩
      · exact .inl h6
      · exact .inr ⟨h6, fun hk => h7 _ _ hk⟩
    exact ⟨k1, hs.slots.defers, hs.slots.size, fun t => Rep.mono (Kept.refl _ _) (fun b _ hb => k2 b hb) _ _ (g2 m t _ _ _ (hs.slots.slot t))⟩
  exact ⟨(key ⟨fun _ => 0, fun _ => undef⟩).1, fun m => (key m).2⟩
end
end Go.Proofs.Ytpehmadeklaebaa
