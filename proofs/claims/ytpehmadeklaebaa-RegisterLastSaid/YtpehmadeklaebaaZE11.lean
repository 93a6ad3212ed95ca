/-
  E11
-/
import Derived.Test.YtpehmadeklaebaaZE10
namespace Go.Proofs.Ytpehmadeklaebaa
open Go Go.RowKit
set_option linter.unusedVariables false
set_option linter.unusedSimpArgs false

/-- Nothing of the own blocks from n on. -/
def EV.bw (n : Nat) : EV → Bool
  | .own i _ => Nat.blt i n
  | .row i => Nat.blt i n
  | .rp i _ _ _ => Nat.blt i n
  | .rs i _ _ _ => Nat.blt i n
  | .st fs => go fs
  | .tup fs => go fs
  | .fn _ fs => go fs
  | _ => true
where go : List EV → Bool
  | [] => true
  | v :: l => v.bw n && go l
/-- A row, told as something else. -/
def mapRow (i : Nat) (kp : Bool) (w : EV) : EV → EV
  | .row j => bif Nat.beq j i then w else .row j
  | .rp j k z p => bif Nat.beq j i && !kp then .any else .rp j k z p
  | .rs j k lo n => bif Nat.beq j i && !kp then .any else .rs j k lo n
  | .st fs => .st (go fs)
  | .tup fs => .tup (go fs)
  | .fn f fs => .fn f (go fs)
  | .td a x => .td a x
  | .val u => .val u
  | .nil => .nil
  | .bl b => .bl b
  | .own j p => .own j p
  | .lp a x p => .lp a x p
  | .av a => .av a
  | .any => .any
where go : List EV → List EV
  | [] => []
  | v :: l => (mapRow i kp w v) :: go l
def mapK (i : Nat) (kp : Bool) (w : EV) : EV → (EV → Tree) → Tree
  | .row j, K => bif Nat.beq j i then K w else K (.row j)
  | .rp j k z p, K => bif Nat.beq j i && !kp then K .any else K (.rp j k z p)
  | .rs j k lo n, K => bif Nat.beq j i && !kp then K .any else K (.rs j k lo n)
  | .st fs, K => go fs fun l => K (.st l)
  | .tup fs, K => go fs fun l => K (.tup l)
  | .fn f fs, K => go fs fun l => K (.fn f l)
  | v, K => K v
where go : List EV → (List EV → Tree) → Tree
  | [], K => K []
  | v :: l, K => mapK i kp w v fun u => go l fun us => K (u :: us)
def mapSlots (i : Nat) (kp : Bool) (w : EV) (l : List (Nat × EV)) : List (Nat × EV) := l.map fun p => (p.1, mapRow i kp w p.2)
def mapSlotsK (i : Nat) (kp : Bool) (w : EV) : List (Nat × EV) → (List (Nat × EV) → Tree) → Tree
  | [], K => K []
  | (d, v) :: l, K => mapK i kp w v fun u => mapSlotsK i kp w l fun us => K ((d, u) :: us)
def mapObj (i : Nat) (kp : Bool) (w : EV) : EO → EO
  | .cell T c => .cell T ((mapRow i kp w c))
  | o => o
def mapObjsK (i : Nat) (kp : Bool) (w : EV) : List EO → (List EO → Tree) → Tree
  | [], K => K []
  | o :: l, K => match o with
    | .cell T c => mapK i kp w c fun c => mapObjsK i kp w l fun l => K (.cell T c :: l)
    | o => mapObjsK i kp w l fun l => K (o :: l)
def setNK {α : Type} : List α → Nat → α → (List α → Tree) → Tree
  | [], _, _, K => K []
  | _ :: l, 0, y, K => K (y :: l)
  | x :: l, n + 1, y, K => setNK l n y fun l => K (x :: l)

theorem setNK_eq {α : Type} : ∀ (l : List α) (n : Nat) (y : α) (K : List α → Tree), setNK l n y K = K (l.set n y)
  | [], _, _, _ => rfl
  | _ :: _, 0, _, _ => rfl
  | x :: l, n + 1, y, K => by simp only [setNK, List.set_cons_succ, setNK_eq l n y]
mutual
theorem mapK_eq (i : Nat) (kp : Bool) (w : EV) : ∀ (v : EV) (K : EV → Tree), mapK i kp w v K = K (mapRow i kp w v)
  | .row j, K => by
    simp only [mapK, mapRow]
    cases Nat.beq j i <;> rfl
  | .rp j k z p, K => by
    simp only [mapK, mapRow]
    cases (Nat.beq j i && !kp) <;> rfl
  | .rs j k lo n, K => by
    simp only [mapK, mapRow]
    cases (Nat.beq j i && !kp) <;> rfl
  | .st fs, K => by simp only [mapK, mapRow, mapKL_eq i kp w fs]
  | .tup fs, K => by simp only [mapK, mapRow, mapKL_eq i kp w fs]
  | .fn f fs, K => by simp only [mapK, mapRow, mapKL_eq i kp w fs]
  | .td _ _, K => rfl
  | .val _, K => rfl
  | .nil, K => rfl
  | .bl _, K => rfl
  | .own _ _, K => rfl
  | .lp _ _ _, K => rfl
  | .av _, K => rfl
  | .any, K => rfl
theorem mapKL_eq (i : Nat) (kp : Bool) (w : EV) : ∀ (l : List EV) (K : List EV → Tree), mapK.go i kp w l K = K (mapRow.go i kp w l)
  | [], K => rfl
  | v :: l, K => by simp only [mapK.go, mapRow.go, mapK_eq i kp w v, mapKL_eq i kp w l]
end
theorem mapSlotsK_eq (i : Nat) (kp : Bool) (w : EV) : ∀ (l : List (Nat × EV)) (K : List (Nat × EV) → Tree), mapSlotsK i kp w l K = K (mapSlots i kp w l)
  | [], K => rfl
  | (d, v) :: l, K => by simp only [mapSlotsK, mapK_eq, mapSlotsK_eq i kp w l, mapSlots, List.map_cons]
theorem mapObjsK_eq (i : Nat) (kp : Bool) (w : EV) : ∀ (l : List EO) (K : List EO → Tree), mapObjsK i kp w l K = K (l.map (mapObj i kp w))
  | [], K => rfl
  | .cell T c :: l, K => by simp only [mapObjsK, mapK_eq, mapObjsK_eq i kp w l, List.map_cons, mapObj]
  | .row e a x :: l, K => by simp only [mapObjsK, mapObjsK_eq i kp w l, List.map_cons, mapObj]
  | .dead :: l, K => by simp only [mapObjsK, mapObjsK_eq i kp w l, List.map_cons, mapObj]
  | .raw o :: l, K => by simp only [mapObjsK, mapObjsK_eq i kp w l, List.map_cons, mapObj]

theorem RepC.app_iff {O : Nat → Prop} {w : World} {a b : List AV} {f : Nat → Option Value} : RepC O w (a ++ b) f ↔ RepC O w a f ∧ RepC O w b (fun j => f (a.length + j)) := by
  constructor
  · intro h
    refine ⟨?_, ?_⟩
    · have := h.take a.length
      rwa [List.take_left] at this
    · have := h.drop a.length
      rwa [List.drop_left] at this
  · rintro ⟨h1, h2⟩
    refine RepC.mk fun j c hj => ?_
    rw [List.getElem?_append] at hj
    split at hj
    · exact h1.at_ j c hj
    · rename_i hge
      obtain ⟨u, hu, hr⟩ := h2.at_ _ c hj
      exact ⟨u, by rw [← hu]; congr 1; omega, hr⟩

/-- Two values of one row: the same block, the same room. -/
structure SameB (v v' : Value) : Prop where
  p : ∀ n, rowPtr v' n = rowPtr v n
  s : ∀ k lo n, rowSl v' k lo n = rowSl v k lo n
/-- The same names, but for a row. -/
structure Off (i : Nat) (m m' : Nm) : Prop where
  g : ∀ j, m'.g j = m.g j
  r : ∀ j, j ≠ i → m'.r j = m.r j
mutual
theorem rep_map {O : Nat → Prop} {wo : World} {i : Nat} {kp : Bool} {w : EV} {m m' : Nm} (ho : Off i m m') (hk : kp = true → SameB (m.r i) (m'.r i)) (hw : Rep O wo (w.den m') (m.r i)) (h1 : w.isAgg = false) : ∀ (v : EV) (u : Value), Rep O wo (v.den m) u → Rep O wo ((mapRow i kp w v).den m') u
  | .row j, u, h => by
    simp only [mapRow]
    cases hc : Nat.beq j i with
    | true =>
      obtain rfl := beqN hc
      simp only [EV.den, rep_x] at h
      subst h; exact hw
    | false =>
      simp only [EV.den, rep_x, cond_false] at h ⊢
      rw [h, ho.r j (fun e => by subst e; simp at hc)]
  | .rp j k z p, u, h => by
    simp only [mapRow]
    cases hc : (Nat.beq j i && !kp) with
    | true => simp only [cond_true, EV.den, Rep]
    | false =>
      simp only [EV.den, cond_false] at h ⊢
      by_cases hj : j = i
      · subst hj
        have : kp = true := by cases kp <;> simp_all
        rw [(hk this).p]; exact h
      · rw [ho.r j hj]; exact h
  | .rs j k lo n, u, h => by
    simp only [mapRow]
    cases hc : (Nat.beq j i && !kp) with
    | true => simp only [cond_true, EV.den, Rep]
    | false =>
      simp only [EV.den, cond_false] at h ⊢
      by_cases hj : j = i
      · subst hj
        have : kp = true := by cases kp <;> simp_all
        rw [(hk this).s]; exact h
      · rw [ho.r j hj]; exact h
  | .st fs, u, h => by
    simp only [mapRow, EV.den, Rep] at h ⊢
    obtain ⟨us, e1, e2, e3⟩ := h
    exact ⟨us, e1, by rw [e2]; exact (map_flat_len (m := m) (m' := m') h1 fs).symm, repL_map ho hk hw h1 fs _ e3⟩
  | .tup fs, u, h => by
    simp only [mapRow, EV.den, Rep] at h ⊢
    obtain ⟨us, e1, e2, e3⟩ := h
    exact ⟨us, e1, by rw [e2, denL_len, denL_len]; exact (map_len fs).symm, repD_map ho hk hw h1 fs _ e3⟩
  | .fn f fs, u, h => by
    simp only [mapRow, EV.den, Rep] at h ⊢
    obtain ⟨us, e1, e2, e3⟩ := h
    exact ⟨us, e1, by rw [e2, denL_len, denL_len]; exact (map_len fs).symm, repD_map ho hk hw h1 fs _ e3⟩
  | .own j p, u, h => by simp only [mapRow, EV.den] at h ⊢; rw [ho.g]; exact h
  | .td _ _, u, h => h
  | .val _, u, h => h
  | .nil, u, h => h
  | .bl _, u, h => h
  | .lp _ _ _, u, h => h
  | .av _, u, h => h
  | .any, u, h => h
theorem repD_map {O : Nat → Prop} {wo : World} {i : Nat} {kp : Bool} {w : EV} {m m' : Nm} (ho : Off i m m') (hk : kp = true → SameB (m.r i) (m'.r i)) (hw : Rep O wo (w.den m') (m.r i)) (h1 : w.isAgg = false) : ∀ (l : List EV) (f : Nat → Option Value), RepC O wo (EV.denL m l) f → RepC O wo (EV.denL m' (mapRow.go i kp w l)) f
  | [], f, h => by simp only [mapRow.go, EV.denL, RepC]
  | v :: l, f, h => by
    simp only [mapRow.go, EV.denL, RepC] at h ⊢
    obtain ⟨⟨u, hu, hr⟩, h2⟩ := h
    exact ⟨⟨u, hu, rep_map ho hk hw h1 v u hr⟩, repD_map ho hk hw h1 l _ h2⟩
theorem repF_map {O : Nat → Prop} {wo : World} {i : Nat} {kp : Bool} {w : EV} {m m' : Nm} (ho : Off i m m') (hk : kp = true → SameB (m.r i) (m'.r i)) (hw : Rep O wo (w.den m') (m.r i)) (h1 : w.isAgg = false) : ∀ (v : EV) (f : Nat → Option Value), RepC O wo (v.flat m) f → RepC O wo ((mapRow i kp w v).flat m') f
  | .st fs, f, h => by simp only [mapRow, EV.flat] at h ⊢; exact repL_map ho hk hw h1 fs f h
  | .td _ _, f, h => h
  | .val _, f, h => h
  | .nil, f, h => h
  | .bl _, f, h => h
  | .lp _ _ _, f, h => h
  | .av _, f, h => h
  | .any, f, h => h
  | .own j p, f, h => by simp only [mapRow, EV.flat] at h ⊢; rw [ho.g]; exact h
  | .row j, f, h => by
    simp only [EV.flat, RepC, rep_x] at h
    obtain ⟨⟨u, hu, hr⟩, _⟩ := h
    subst hr
    simp only [mapRow]
    cases hc : Nat.beq j i with
    | true =>
      obtain rfl := beqN hc
      rw [cond_true, EV.den_one m' w h1]
      simp only [RepC]
      exact ⟨⟨_, hu, hw⟩, trivial⟩
    | false =>
      simp only [cond_false, EV.flat, RepC, rep_x]
      exact ⟨⟨_, hu, (ho.r j (fun e => by subst e; simp at hc)).symm⟩, trivial⟩
  | .rp j k z p, f, h => by
    simp only [EV.flat, RepC] at h
    obtain ⟨⟨u, hu, hr⟩, _⟩ := h
    have := rep_map ho hk hw h1 (.rp j k z p) u (by simp only [EV.den]; exact hr)
    simp only [mapRow] at this ⊢
    cases hc : (Nat.beq j i && !kp) with
    | true => rw [hc] at this; simp only [cond_true, EV.flat, RepC]; exact ⟨⟨u, hu, this⟩, trivial⟩
    | false => rw [hc] at this; simp only [cond_false, EV.flat, RepC]; exact ⟨⟨u, hu, this⟩, trivial⟩
  | .rs j k lo n, f, h => by
    simp only [EV.flat, RepC] at h
    obtain ⟨⟨u, hu, hr⟩, _⟩ := h
    have := rep_map ho hk hw h1 (.rs j k lo n) u (by simp only [EV.den]; exact hr)
    simp only [mapRow] at this ⊢
    cases hc : (Nat.beq j i && !kp) with
    | true => rw [hc] at this; simp only [cond_true, EV.flat, RepC]; exact ⟨⟨u, hu, this⟩, trivial⟩
    | false => rw [hc] at this; simp only [cond_false, EV.flat, RepC]; exact ⟨⟨u, hu, this⟩, trivial⟩
  | .tup fs, f, h => by
    simp only [EV.flat, RepC] at h
    obtain ⟨⟨u, hu, hr⟩, _⟩ := h
    have := rep_map ho hk hw h1 (.tup fs) u (by simp only [EV.den]; exact hr)
    simp only [mapRow, EV.den] at this
    simp only [mapRow, EV.flat, RepC]
    exact ⟨⟨u, hu, this⟩, trivial⟩
  | .fn g fs, f, h => by
    simp only [EV.flat, RepC] at h
    obtain ⟨⟨u, hu, hr⟩, _⟩ := h
    have := rep_map ho hk hw h1 (.fn g fs) u (by simp only [EV.den]; exact hr)
    simp only [mapRow, EV.den] at this
    simp only [mapRow, EV.flat, RepC]
    exact ⟨⟨u, hu, this⟩, trivial⟩
theorem repL_map {O : Nat → Prop} {wo : World} {i : Nat} {kp : Bool} {w : EV} {m m' : Nm} (ho : Off i m m') (hk : kp = true → SameB (m.r i) (m'.r i)) (hw : Rep O wo (w.den m') (m.r i)) (h1 : w.isAgg = false) : ∀ (l : List EV) (f : Nat → Option Value), RepC O wo (EV.flatL m l) f → RepC O wo (EV.flatL m' (mapRow.go i kp w l)) f
  | [], f, h => by simp only [mapRow.go, EV.flatL, RepC]
  | v :: l, f, h => by
    simp only [mapRow.go, EV.flatL] at h ⊢
    rw [RepC.app_iff] at h ⊢
    refine ⟨repF_map ho hk hw h1 v f h.1, ?_⟩
    rw [map_flat_len1 (m := m) (m' := m') h1 v]
    exact repL_map ho hk hw h1 l _ h.2
theorem map_len {i : Nat} {kp : Bool} {w : EV} : ∀ l : List EV, (mapRow.go i kp w l).length = l.length
  | [] => rfl
  | v :: l => by simp only [mapRow.go, List.length_cons, map_len l]
theorem map_flat_len1 {i : Nat} {kp : Bool} {w : EV} {m m' : Nm} (h1 : w.isAgg = false) : ∀ v : EV, ((mapRow i kp w v).flat m').length = (v.flat m).length
  | .st fs => by simp only [mapRow, EV.flat]; exact map_flat_len (m := m) (m' := m') h1 fs
  | .row j => by
    simp only [mapRow]
    cases Nat.beq j i with
    | true => rw [cond_true, EV.den_one m' w h1]; rfl
    | false => rfl
  | .rp j k z p => by
    simp only [mapRow]
    cases (Nat.beq j i && !kp) <;> rfl
  | .rs j k lo n => by
    simp only [mapRow]
    cases (Nat.beq j i && !kp) <;> rfl
  | .td _ _ => rfl
  | .val _ => rfl
  | .nil => rfl
  | .bl _ => rfl
  | .lp _ _ _ => rfl
  | .av _ => rfl
  | .any => rfl
  | .own _ _ => rfl
  | .tup _ => rfl
  | .fn _ _ => rfl
theorem map_flat_len {i : Nat} {kp : Bool} {w : EV} {m m' : Nm} (h1 : w.isAgg = false) : ∀ l : List EV, (EV.flatL m' (mapRow.go i kp w l)).length = (EV.flatL m l).length
  | [] => rfl
  | v :: l => by simp only [mapRow.go, EV.flatL, List.length_append, map_flat_len1 (m := m) (m' := m') h1 v, map_flat_len (m := m) (m' := m') h1 l]
end

/-- The same names below n. -/
structure Upto (n : Nat) (m m' : Nm) : Prop where
  g : ∀ j, j < n → m'.g j = m.g j
  r : ∀ j, j < n → m'.r j = m.r j
mutual
theorem den_below {n : Nat} {m m' : Nm} (hu : Upto n m m') : ∀ v : EV, v.bw n = true → v.den m' = v.den m
  | .own i p, h => by simp only [EV.bw] at h; simp only [EV.den, hu.g i (bltN h)]
  | .row i, h => by simp only [EV.bw] at h; simp only [EV.den, hu.r i (bltN h)]
  | .rp i k z p, h => by simp only [EV.bw] at h; simp only [EV.den, hu.r i (bltN h)]
  | .rs i k lo n, h => by simp only [EV.bw] at h; simp only [EV.den, hu.r i (bltN h)]
  | .st fs, h => by simp only [EV.bw] at h; simp only [EV.den, flatL_below hu fs h]
  | .tup fs, h => by simp only [EV.bw] at h; simp only [EV.den, denL_below hu fs h]
  | .fn f fs, h => by simp only [EV.bw] at h; simp only [EV.den, denL_below hu fs h]
  | .td _ _, _ => rfl
  | .val _, _ => rfl
  | .nil, _ => rfl
  | .bl _, _ => rfl
  | .lp _ _ _, _ => rfl
  | .av _, _ => rfl
  | .any, _ => rfl
theorem denL_below {n : Nat} {m m' : Nm} (hu : Upto n m m') : ∀ l : List EV, EV.bw.go n l = true → EV.denL m' l = EV.denL m l
  | [], _ => rfl
  | v :: l, h => by
    simp only [EV.bw.go, Bool.and_eq_true] at h
    simp only [EV.denL, den_below hu v h.1, denL_below hu l h.2]
theorem flat_below {n : Nat} {m m' : Nm} (hu : Upto n m m') : ∀ v : EV, v.bw n = true → v.flat m' = v.flat m
  | .own i p, h => by simp only [EV.bw] at h; simp only [EV.flat, hu.g i (bltN h)]
  | .row i, h => by simp only [EV.bw] at h; simp only [EV.flat, hu.r i (bltN h)]
  | .rp i k z p, h => by simp only [EV.bw] at h; simp only [EV.flat, hu.r i (bltN h)]
  | .rs i k lo n, h => by simp only [EV.bw] at h; simp only [EV.flat, hu.r i (bltN h)]
  | .st fs, h => by simp only [EV.bw] at h; simp only [EV.flat, flatL_below hu fs h]
  | .tup fs, h => by simp only [EV.bw] at h; simp only [EV.flat, denL_below hu fs h]
  | .fn f fs, h => by simp only [EV.bw] at h; simp only [EV.flat, denL_below hu fs h]
  | .td _ _, _ => rfl
  | .val _, _ => rfl
  | .nil, _ => rfl
  | .bl _, _ => rfl
  | .lp _ _ _, _ => rfl
  | .av _, _ => rfl
  | .any, _ => rfl
theorem flatL_below {n : Nat} {m m' : Nm} (hu : Upto n m m') : ∀ l : List EV, EV.bw.go n l = true → EV.flatL m' l = EV.flatL m l
  | [], _ => rfl
  | v :: l, h => by
    simp only [EV.bw.go, Bool.and_eq_true] at h
    simp only [EV.flatL, flat_below hu v h.1, flatL_below hu l h.2]
end
def slotsBelow (n : Nat) : List (Nat × EV) → Bool
  | [] => true
  | p :: l => p.2.bw n && slotsBelow n l
def EO.bw (n : Nat) : EO → Bool
  | .cell _ c => c.bw n
  | _ => true
def objsBelow (n : Nat) : List EO → Bool
  | [] => true
  | o :: l => o.bw n && objsBelow n l
theorem slots_below {n : Nat} {m m' : Nm} (hu : Upto n m m') : ∀ {l : List (Nat × EV)}, slotsBelow n l = true → slotsOf m' l = slotsOf m l
  | [], _ => rfl
  | p :: l, h => by
    simp only [slotsBelow, Bool.and_eq_true] at h
    simp only [slotsOf, den_below hu p.2 h.1, slots_below hu h.2]
theorem objs_below {n : Nat} {m m' : Nm} (hu : Upto n m m') : ∀ {l : List EO} {i : Nat}, objsBelow n l = true → i + l.length ≤ n → EO.denL m' i l = EO.denL m i l
  | [], _, _, _ => rfl
  | o :: l, i, h, hi => by
    simp only [objsBelow, Bool.and_eq_true] at h
    simp only [List.length_cons] at hi
    simp only [EO.denL, objs_below hu h.2 (show i + 1 + l.length ≤ n by omega)]
    congr 1
    cases o with
    | cell T c => simp only [EO.den, hu.g i (by omega), flat_below hu c h.1]
    | row e a x => simp only [EO.den, hu.r i (by omega)]
    | dead => rfl
    | raw o => rfl
end Go.Proofs.Ytpehmadeklaebaa
