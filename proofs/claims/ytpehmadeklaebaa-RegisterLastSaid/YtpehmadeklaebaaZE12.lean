/-
  E12
-/
import Derived.Test.YtpehmadeklaebaaZC9
import Derived.Test.YtpehmadeklaebaaZE11
namespace Go.Proofs.Ytpehmadeklaebaa
open Go Go.RowKit
set_option linter.unusedVariables false
set_option linter.unusedSimpArgs false

theorem env_weak {X : Nat → Prop} {w0 : Orig} {h h' : List HObj} {w : World} (env : Env X w0 h w) (hb : h'.map HObj.blk = h.map HObj.blk) (hk : ∀ (j : Nat) (o o' : HObj), h[j]? = some o → h'[j]? = some o' → o.ok (owned X h) w → o'.ok (owned X h) w) : Env X w0 h' w := by
  have hlen : h'.length = h.length := by rw [← List.length_map (f := HObj.blk), hb, List.length_map]
  have at_ : ∀ (j : Nat) (o' : HObj), h'[j]? = some o' → ∃ o, h[j]? = some o ∧ o'.blk = o.blk := fun j o' hj => by
    have hlt := (List.getElem?_eq_some_iff.1 hj).1
    have h1 : (h'.map HObj.blk)[j]? = (h.map HObj.blk)[j]? := by rw [hb]
    rw [List.getElem?_map, List.getElem?_map, hj, List.getElem?_eq_getElem (by omega)] at h1
    refine ⟨_, List.getElem?_eq_getElem (by omega), ?_⟩
    simpa using h1
  refine ⟨env.below, fun o' ho => ?_, fun o' ho b hob => ?_, fun o' ho b hob => ?_, env.ext, fun i j o p b hi hj hob hpb => ?_⟩
  · obtain ⟨j, hj⟩ := List.mem_iff_getElem?.1 ho
    obtain ⟨o, h1, h2⟩ := at_ j o' hj
    rw [owned_map hb]
    exact hk j o o' h1 hj (env.objs o (List.mem_of_getElem? h1))
  · obtain ⟨j, hj⟩ := List.mem_iff_getElem?.1 ho
    obtain ⟨o, h1, h2⟩ := at_ j o' hj
    exact env.new o (List.mem_of_getElem? h1) b (by rw [← h2]; exact hob)
  · obtain ⟨j, hj⟩ := List.mem_iff_getElem?.1 ho
    obtain ⟨o, h1, h2⟩ := at_ j o' hj
    exact env.lt o (List.mem_of_getElem? h1) b (by rw [← h2]; exact hob)
  · obtain ⟨o1, h1, h2⟩ := at_ i o hi
    obtain ⟨o2, h3, h4⟩ := at_ j p hj
    exact env.apart i j o1 o2 b h1 h3 (by rw [← h2]; exact hob) (by rw [← h4]; exact hpb)

theorem slots_map {O : Nat → Prop} {wo : World} {i : Nat} {kp : Bool} {w : EV} {m m' : Nm} (ho : Off i m m') (hk : kp = true → SameB (m.r i) (m'.r i)) (hw : Rep O wo (w.den m') (m.r i)) (h1 : w.isAgg = false) : ∀ (l : List (Nat × EV)) (t : Nat) (u : Value), Rep O wo (slotsOf m l t) u → Rep O wo (slotsOf m' (mapSlots i kp w l) t) u
  | [], t, u, h => h
  | (d, v) :: l, t, u, h => by
    simp only [slotsOf, mapSlots, List.map_cons, upd] at h ⊢
    cases hc : Nat.beq t d with
    | true => rw [hc] at h; exact rep_map ho hk hw h1 v u h
    | false => rw [hc] at h; exact slots_map ho hk hw h1 l t u h
theorem obj_map {O : Nat → Prop} {wo : World} {i : Nat} {kp : Bool} {w : EV} {m m' : Nm} (ho : Off i m m') (hk : kp = true → SameB (m.r i) (m'.r i)) (hw : Rep O wo (w.den m') (m.r i)) (h1 : w.isAgg = false) (j : Nat) (o : EO) (hj : ∀ e a l, o = .row e a l → j ≠ i) (h : (o.den m j).ok O wo) : ((mapObj i kp w o).den m' j).ok O wo := by
  cases o with
  | cell T c =>
    obtain ⟨us, e1, e2, e3⟩ := h
    refine ⟨us, by rw [ho.g]; exact e1, by rw [e2]; exact (map_flat_len1 (m := m) (m' := m') h1 c).symm, repF_map ho hk hw h1 c _ e3⟩
  | row e a l =>
    have := ho.r j (hj e a l rfl)
    simp only [mapObj, EO.den, this]
    exact h
  | dead => trivial
  | raw o => exact h
theorem obj_map_blk {i : Nat} {kp : Bool} {w : EV} {m m' : Nm} (ho : Off i m m') (j : Nat) (o : EO) (hj : ∀ e a l, o = .row e a l → j ≠ i) : ((mapObj i kp w o).den m' j).blk = (o.den m j).blk := by
  cases o with
  | cell T c => simp only [mapObj, EO.den, HObj.blk, ho.g]
  | row e a l => simp only [mapObj, EO.den, HObj.blk, ho.r j (hj e a l rfl)]
  | dead => rfl
  | raw o => rfl

section
variable {C : Cx} {a : Act} {w : World}
/-- A row's slice, once nobody writes it. -/
theorem row_rest {X : Nat → Prop} {w0 : Orig} {h : List HObj} {i : Nat} {v : Value} {e : TypeId} {k n : Nat} {cs : List AV} (env : Env X w0 h w) (hi : h[i]? = some (.row v e k n cs)) : Rep (owned X (h.set i .dead)) w (.sl k n cs) v := by
  have hq : ∀ b, HObj.dead.blk = some b → (HObj.row v e k n cs).blk = some b ∨ w.heap.size ≤ b := fun b hb => by cases hb
  obtain ⟨vs, h2, h3, h4⟩ := env.objs _ (List.mem_of_getElem? hi)
  simp only [Rep]
  refine ⟨by rw [← h3]; exact h2.1, ?_⟩
  rcases h2.2 with ⟨rfl, rfl⟩ | ⟨g, cap, cur, rfl, hb, hh, hn, hc, hsz, htk⟩
  · exact ⟨none, 0, rfl, Nat.le_refl _, by omega, .inl (by simp)⟩
  · simp only [maxLen] at hc
    refine ⟨_, cap, rfl, hn, hc, .inr ⟨_, rfl, (Array.getElem?_eq_some_iff.1 hh).1, ?_, ?_⟩⟩
    · rintro (hx | ⟨o, ho, hob⟩)
      · have h5 := env.ext _ hx
        have h6 := env.new _ (List.mem_of_getElem? hi) g rfl
        simp only at h5
        rcases h6 with h6 | h6
        · omega
        · exact h5.2 h6
      · obtain ⟨j, hj⟩ := List.mem_iff_getElem?.1 ho
        rw [List.getElem?_set] at hj
        split at hj
        · split at hj
          · obtain rfl : HObj.dead = o := by simpa using hj
            cases hob
          · cases hj
        · rename_i hne
          exact hne (env.apart i j _ o g hi hj rfl hob)
    · have h5 := RepC.mono (Kept.refl _ w) (owned_set (q := .dead) hi env hq) _ _ h4
      refine RepC.mk fun j c hj => ?_
      obtain ⟨u', hu', hr⟩ := h5.at_ j c hj
      exact ⟨u', h2.cells (g := g) rfl j u' hu', hr⟩
theorem denL_map_get (m : Nm) (i : Nat) (kp : Bool) (w : EV) (h : List EO) (j : Nat) : (EO.denL m 0 (h.map (mapObj i kp w)))[j]? = (h[j]?).map fun o => (mapObj i kp w o).den m j := by
  rw [EO.denL_get, List.getElem?_map, Option.map_map, Nat.zero_add]; rfl
/-- A row comes to rest, wherever it is told. -/
theorem st_freezeE {m : Nm} {s : ES} {i : Nat} {e : TypeId} {b : Ty} {l : List b.T} (hi : s.h[i]? = some (.row e b l)) (hs : C.St (s.den m) a w) : C.St (ES.den m ⟨mapSlots i false (.td (.list b) l) s.t, (s.h.map (mapObj i false (.td (.list b) l))).set i .dead⟩) a w := by
  have hd : (EO.denL m 0 s.h)[i]? = some (.row (m.r i) e b.size l.length (l.flatMap b.enc)) := by rw [EO.denL_get, hi]; simp [EO.den]
  have hrest := row_rest hs.env hd
  have hq : ∀ c, HObj.dead.blk = some c → (HObj.row (m.r i) e b.size l.length (l.flatMap b.enc)).blk = some c ∨ w.heap.size ≤ c := fun c hb => by cases hb
  have hg : w.grownBy w (HObj.row (m.r i) e b.size l.length (l.flatMap b.enc)).blk := World.grownBy.refl _ _
  have env2 := hs.env.set_ (q := .dead) hd hg (fun _ => Nat.le_refl _) trivial hq (fun b hb => by cases hb)
  have sl2 := slots_set (q := .dead) hs.env hd hg hq hs.slots
  have off : Off i m m := ⟨fun _ => rfl, fun _ _ => rfl⟩
  have hw : Rep (owned C.X ((EO.denL m 0 s.h).set i .dead)) w ((EV.td (.list b) l).den m) (m.r i) := hrest
  have hgetL : ∀ j, ((EO.denL m 0 s.h).set i .dead)[j]? = if i = j then (if i < s.h.length then some .dead else none) else (s.h[j]?).map fun o => o.den m j := fun j => by
    rw [List.getElem?_set, EO.denL_len, EO.denL_get]
    simp
  have hgetR : ∀ j, (EO.denL m 0 ((s.h.map (mapObj i false (.td (.list b) l))).set i .dead))[j]? = if i = j then (if i < s.h.length then some .dead else none) else (s.h[j]?).map fun o => (mapObj i false (.td (.list b) l) o).den m j := fun j => by
    rw [EO.denL_set, List.getElem?_set, EO.denL_len, List.length_map, denL_map_get]
    rfl
  have hbk : (EO.denL m 0 ((s.h.map (mapObj i false (.td (.list b) l))).set i .dead)).map HObj.blk = ((EO.denL m 0 s.h).set i .dead).map HObj.blk := by
    apply List.ext_getElem?
    intro j
    rw [List.getElem?_map, List.getElem?_map, hgetL, hgetR]
    split
    · rfl
    · rename_i hne
      cases hj : s.h[j]? with
      | none => rfl
      | some o => simp only [Option.map_some]; rw [obj_map_blk (kp := false) off j o (fun e a l h => by intro e2; exact hne e2.symm)]
  refine ⟨env_weak env2 hbk fun j o o' h1 h2 hok => ?_, sl2.defers, sl2.size, fun t => ?_⟩
  · change ((EO.denL m 0 s.h).set i HObj.dead)[j]? = some o at h1
    change (EO.denL m 0 ((s.h.map (mapObj i false (.td (.list b) l))).set i .dead))[j]? = some o' at h2
    rw [hgetL] at h1
    rw [hgetR] at h2
    split at h1
    · rename_i hij
      rw [if_pos hij] at h2
      rw [h1] at h2
      injection h2 with h2
      rw [← h2]; exact hok
    · rename_i hij
      rw [if_neg hij] at h2
      cases hj : s.h[j]? with
      | none => rw [hj] at h1; cases h1
      | some p =>
        rw [hj] at h1 h2
        simp only [Option.map_some, Option.some.injEq] at h1 h2
        subst h1 h2
        exact obj_map (kp := false) off (fun h => by cases h) hw rfl j p (fun e a l h e2 => hij e2.symm) hok
  · have := slots_map (kp := false) off (fun h => by cases h) hw rfl s.t t _ (sl2.slot t)
    show Rep (owned C.X (EO.denL m 0 ((s.h.map (mapObj i false (.td (.list b) l))).set i .dead))) _ _ _
    rw [owned_map hbk]
    exact this
/-- A row that has grown: what it was is told nowhere any more. -/
theorem st_grown {m : Nm} {s : ES} {i d : Nat} {e : TypeId} {b : Ty} {l l' : List b.T} {v' : Value} (hi : s.h[i]? = some (.row e b l)) (hs : C.St ⟨upd (slotsOf m s.t) d (.x v'), (EO.denL m 0 s.h).set i (.row v' e b.size l'.length (l'.flatMap b.enc))⟩ a w) :
    C.St ⟨upd (slotsOf { m with r := fun j => if j = i then v' else m.r j } (mapSlots i false .any s.t)) d (.x v'), EO.denL { m with r := fun j => if j = i then v' else m.r j } 0 ((s.h.map (mapObj i false .any)).set i (.row e b l'))⟩ a w := by
  have hilt := (List.getElem?_eq_some_iff.1 hi).1
  have off : Off i m { m with r := fun j => if j = i then v' else m.r j } := ⟨fun _ => rfl, fun j hj => by simp [hj]⟩
  have hw : ∀ O, Rep O w (EV.any.den { m with r := fun j => if j = i then v' else m.r j }) (m.r i) := fun O => by simp only [EV.den, Rep]
  have hgetL : ∀ j, ((EO.denL m 0 s.h).set i (.row v' e b.size l'.length (l'.flatMap b.enc)))[j]? = if i = j then some (.row v' e b.size l'.length (l'.flatMap b.enc)) else (s.h[j]?).map fun o => o.den m j := fun j => by
    rw [List.getElem?_set, EO.denL_len, EO.denL_get, if_pos hilt]
    simp
  have hgetR : ∀ j, (EO.denL { m with r := fun j => if j = i then v' else m.r j } 0 ((s.h.map (mapObj i false .any)).set i (.row e b l')))[j]? = if i = j then some (.row v' e b.size l'.length (l'.flatMap b.enc)) else (s.h[j]?).map fun o => (mapObj i false .any o).den { m with r := fun j => if j = i then v' else m.r j } j := fun j => by
    rw [EO.denL_set, List.getElem?_set, EO.denL_len, List.length_map, if_pos hilt, denL_map_get]
    simp [EO.den]
  have hbk : (EO.denL { m with r := fun j => if j = i then v' else m.r j } 0 ((s.h.map (mapObj i false .any)).set i (.row e b l'))).map HObj.blk = ((EO.denL m 0 s.h).set i (.row v' e b.size l'.length (l'.flatMap b.enc))).map HObj.blk := by
    apply List.ext_getElem?
    intro j
    rw [List.getElem?_map, List.getElem?_map, hgetL, hgetR]
    split
    · rfl
    · rename_i hne
      cases hj : s.h[j]? with
      | none => rfl
      | some o => simp only [Option.map_some]; rw [obj_map_blk (kp := false) off j o (fun e a l h => by intro e2; exact hne e2.symm)]
  refine ⟨env_weak hs.env hbk fun j o o' h1 h2 hok => ?_, hs.slots.defers, hs.slots.size, fun t => ?_⟩
  · simp only at h1
    rw [hgetL] at h1
    rw [hgetR] at h2
    split at h1
    · rename_i hij
      rw [if_pos hij] at h2
      rw [h1] at h2
      injection h2 with h2
      rw [← h2]; exact hok
    · rename_i hij
      rw [if_neg hij] at h2
      cases hj : s.h[j]? with
      | none => rw [hj] at h1; cases h1
      | some p =>
        rw [hj] at h1 h2
        simp only [Option.map_some, Option.some.injEq] at h1 h2
        subst h1 h2
        exact obj_map (kp := false) off (fun h => by cases h) (hw _) rfl j p (fun e a l h e2 => hij e2.symm) hok
  · have h1 := hs.slots.slot t
    show Rep (owned C.X (EO.denL _ 0 _)) _ (upd _ d _ t) _
    rw [owned_map hbk]
    simp only [upd] at h1 ⊢
    cases hc : Nat.beq t d with
    | true => rw [hc] at h1; exact h1
    | false => rw [hc] at h1; exact slots_map (kp := false) off (fun h => by cases h) (hw _) rfl s.t t _ h1
end
end Go.Proofs.Ytpehmadeklaebaa
