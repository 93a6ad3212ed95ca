/-
  E3
-/
import Derived.Test.YtpehmadeklaebaaZE2
namespace Go.Proofs.Ytpehmadeklaebaa
open Go Go.RowKit
set_option linter.unusedVariables false
set_option linter.unusedSimpArgs false

def withT : {b a : Ty} → b = a → b.T → (a.T → Tree) → Tree
  | _, _, rfl, y, K => K y
theorem SubL.append : ∀ {a b c d : List AV}, SubL a b → SubL c d → SubL (a ++ c) (b ++ d)
  | [], [], _, _, _, h => h
  | _ :: _, _ :: _, _, _, h, k => ⟨h.1, SubL.append h.2 k⟩
theorem SubL.trans : ∀ {a b c : List AV}, SubL a b → SubL b c → SubL a c
  | [], [], [], _, _ => trivial
  | _ :: _, _ :: _, _ :: _, h, k => ⟨h.1.trans k.1, SubL.trans h.2 k.2⟩
theorem SubL.take : ∀ {a b : List AV} (n : Nat), SubL a b → SubL (a.take n) (b.take n)
  | [], [], n, _ => by simp only [List.take_nil]; trivial
  | _ :: _, _ :: _, 0, _ => trivial
  | _ :: _, _ :: _, n + 1, h => ⟨h.1, SubL.take n h.2⟩
theorem SubL.drop : ∀ {a b : List AV} (n : Nat), SubL a b → SubL (a.drop n) (b.drop n)
  | [], [], n, _ => by simp only [List.drop_nil]; trivial
  | _ :: _, _ :: _, 0, h => h
  | _ :: _, _ :: _, n + 1, h => SubL.drop n h.2
theorem SubL.spl {a b c d : List AV} (off : Nat) (h : SubL a b) (k : SubL c d) : SubL (spl a off c) (spl b off d) := by
  unfold Go.Proofs.Ytpehmadeklaebaa.spl
  rw [k.len]
  exact ((h.take off).append k).append (h.drop _)
theorem spl_left {α : Type} {a b n : List α} {off : Nat} (h : off + n.length ≤ a.length) : spl (a ++ b) off n = spl a off n ++ b := by
  unfold spl
  rw [List.take_append_of_le_length (by omega), List.drop_append_of_le_length (by omega)]
  simp
theorem spl_right {α : Type} {a b n : List α} {off : Nat} : spl (a ++ b) (a.length + off) n = a ++ spl b off n := by
  unfold spl
  rw [List.take_length_add_append, Nat.add_assoc, List.drop_length_add_append]
  simp
theorem spl_all {α : Type} {a n : List α} (h : n.length = a.length) : spl a 0 n = n := by
  unfold spl
  rw [List.take_zero, Nat.zero_add, h, List.drop_length]; simp

theorem flatMap_congr_ {α β : Type} {f g : α → List β} : ∀ {l : List α}, (∀ x ∈ l, f x = g x) → l.flatMap f = l.flatMap g
  | [], _ => rfl
  | x :: l, h => by rw [List.flatMap_cons, List.flatMap_cons, h x (by simp), flatMap_congr_ fun y hy => h y (by simp [hy])]
/-- A value decoded. -/
def decV (a : Ty) (v : EV) (K : a.T → Tree) : Tree :=
  match v with
  | .td b y => match Ty.eqK b a with
    | some ⟨h⟩ => withT h y K
    | none => .bad 30
  | .bl b => match a, K with
    | .bool, K => K b
    | _, _ => .bad 31
  | .nil => match a, K with
    | .list _, K => K []
    | _, _ => .bad 32
  | _ => .bad 33
def decL : (a : Ty) → List EV → (a.T → List EV → Tree) → Tree
  | .pair a b, l, K =>
    match l with
    | .td c y :: r => match Ty.eqK c (.pair a b) with
      | some ⟨h⟩ => withT h y fun x => K x r
      | none => decL a (.td c y :: r) fun x r => decL b r fun y r => K (x, y) r
    | l => decL a l fun x r => decL b r fun y r => K (x, y) r
  | .one a, l, K =>
    match l with
    | .td c y :: r => match Ty.eqK c (.one a) with
      | some ⟨h⟩ => withT h y fun x => K x r
      | none => decL a (.td c y :: r) K
    | l => decL a l K
  | .unit, l, K => K () l
  | a, l, K => match l with
    | v :: r => decV a v fun x => K x r
    | [] => .bad 34
def EV.parts : EV → List EV
  | .st fs => go fs
  | v => [v]
where go : List EV → List EV
  | [] => []
  | v :: l => v.parts ++ go l
def decK (a : Ty) (v : EV) (K : a.T → Tree) : Tree := decL a v.parts fun x r => match r with | [] => K x | _ => .bad 35
def EV.typed : EV → Bool
  | .td _ _ => true
  | .bl _ => true
  | .nil => true
  | .st fs => go fs
  | _ => false
where go : List EV → Bool
  | [] => true
  | v :: l => v.typed && go l
def EV.okS : EV → Bool
  | .td _ _ => true
  | .val u => u.oneCell'
  | .nil => true
  | .bl _ => true
  | .own _ _ => true
  | .lp _ _ _ => true
  | .fn _ _ => true
  | .st fs => go fs
  | _ => false
where go : List EV → Bool
  | [] => true
  | v :: l => v.okS && go l

section
variable {E : EC} {B : Nat → ES → Prop} {R : ES → Prop} {m : Nm}
theorem withT_ok {b a : Ty} (h : b = a) {y : b.T} {K : a.T → Tree} (k : (withT h y K).ok E B R) : ∃ x : a.T, (K x).ok E B R ∧ b.enc y = a.enc x := by
  subst h; exact ⟨y, k, rfl⟩
theorem decV_ok {a : Ty} {v : EV} {K : a.T → Tree} (h : (decV a v K).ok E B R) : ∃ x : a.T, (K x).ok E B R ∧ SubL (v.flat m) (a.enc x) := by
  unfold decV at h
  split at h
  · split at h
    · obtain ⟨x, h1, h2⟩ := withT_ok _ h
      exact ⟨x, h1, SubL.of_eq h2⟩
    · exact h.elim
  · split at h
    · exact ⟨_, h, SubL.refl _⟩
    · exact h.elim
  · split at h
    · exact ⟨_, h, Sub.nil_, trivial⟩
    · exact h.elim
  · exact h.elim
theorem decLeaf_ok {a : Ty} {l : List EV} {K : a.T → List EV → Tree} (h : (match l with | v :: r => decV a v fun x => K x r | [] => Tree.bad 34).ok E B R) : ∃ x r, (K x r).ok E B R ∧ SubL (EV.flatL m l) (a.enc x ++ EV.flatL m r) := by
  split at h
  · obtain ⟨x, h1, h2⟩ := decV_ok (m := m) h
    exact ⟨x, _, h1, by simp only [EV.flatL]; exact h2.append (SubL.refl _)⟩
  · exact h.elim
theorem decL_ok : ∀ (a : Ty) (l : List EV) (K : a.T → List EV → Tree), (decL a l K).ok E B R → ∃ x r, (K x r).ok E B R ∧ SubL (EV.flatL m l) (a.enc x ++ EV.flatL m r)
  | .pair a b, l, K, h => by
    have two : ∀ l, (decL a l fun x r => decL b r fun y r => K (x, y) r).ok E B R → ∃ x r, (K x r).ok E B R ∧ SubL (EV.flatL m l) ((Ty.pair a b).enc x ++ EV.flatL m r) := fun l h => by
      obtain ⟨x, r, h1, h2⟩ := decL_ok a l _ h
      obtain ⟨y, q, h3, h4⟩ := decL_ok b r _ h1
      refine ⟨(x, y), q, h3, h2.trans ?_⟩
      simp only [Ty.enc, List.append_assoc]
      exact (SubL.refl _).append h4
    unfold decL at h
    split at h
    · split at h
      · obtain ⟨x, h1, h2⟩ := withT_ok _ h
        exact ⟨x, _, h1, SubL.of_eq (by simp only [EV.flatL, EV.flat, h2])⟩
      · exact two _ h
    · exact two _ h
  | .one a, l, K, h => by
    unfold decL at h
    split at h
    · split at h
      · obtain ⟨x, h1, h2⟩ := withT_ok _ h
        exact ⟨x, _, h1, SubL.of_eq (by simp only [EV.flatL, EV.flat, h2])⟩
      · exact decL_ok a _ K h
    · exact decL_ok a _ K h
  | .unit, l, K, h => ⟨(), l, h, SubL.refl _⟩
  | .int k, l, K, h => decLeaf_ok h
  | .bool, l, K, h => decLeaf_ok h
  | .str, l, K, h => decLeaf_ok h
  | .flt, l, K, h => decLeaf_ok h
  | .list a, l, K, h => decLeaf_ok h
  | .arr n a, l, K, h => decLeaf_ok h
theorem flatL_app (m : Nm) : ∀ (a b : List EV), EV.flatL m (a ++ b) = EV.flatL m a ++ EV.flatL m b
  | [], b => rfl
  | v :: a, b => by simp only [List.cons_append, EV.flatL, flatL_app m a b, List.append_assoc]
mutual
theorem parts_flat (m : Nm) : ∀ v : EV, EV.flatL m v.parts = v.flat m
  | .st fs => by simp only [EV.parts, EV.flat]; exact partsL_flat m fs
  | .td _ _ => by simp [EV.parts, EV.flatL]
  | .val _ => rfl
  | .nil => rfl
  | .bl _ => rfl
  | .own _ _ => rfl
  | .row _ => rfl
  | .rp _ _ _ _ => rfl
  | .rs _ _ _ _ => rfl
  | .lp _ _ _ => rfl
  | .tup _ => rfl
  | .fn _ _ => rfl
  | .av _ => rfl
  | .any => rfl
theorem partsL_flat (m : Nm) : ∀ fs : List EV, EV.flatL m (EV.parts.go fs) = EV.flatL m fs
  | [] => rfl
  | v :: l => by simp only [EV.parts.go, EV.flatL, flatL_app, parts_flat m v, partsL_flat m l]
end
theorem decK_ok {a : Ty} {v : EV} {K : a.T → Tree} (h : (decK a v K).ok E B R) : ∃ x : a.T, (K x).ok E B R ∧ SubL (v.flat m) (a.enc x) := by
  unfold decK at h
  obtain ⟨x, r, h1, h2⟩ := decL_ok (m := m) a _ _ h
  split at h1
  · refine ⟨x, h1, ?_⟩
    rw [parts_flat] at h2
    simpa only [EV.flatL, List.append_nil] using h2
  · exact h1.elim

mutual
theorem okS_ones (m : Nm) : ∀ v : EV, v.okS = true → AV.ones (v.flat m) = true
  | .td a x, _ => by simp only [EV.flat]; exact Ty.enc_ones a x
  | .val u, h => by simp only [EV.okS] at h; simp only [EV.flat, AV.ones, AV.one, h, Bool.and_self]
  | .nil, _ => rfl
  | .bl _, _ => rfl
  | .own _ _, _ => rfl
  | .lp _ _ _, _ => rfl
  | .fn _ _, _ => rfl
  | .st fs, h => by simp only [EV.okS] at h; simp only [EV.flat]; exact okSL_ones m fs h
theorem okSL_ones (m : Nm) : ∀ fs : List EV, EV.okS.go fs = true → AV.ones (EV.flatL m fs) = true
  | [], _ => rfl
  | v :: l, h => by
    simp only [EV.okS.go, Bool.and_eq_true] at h
    simp only [EV.flatL]
    exact ones_app (okS_ones m v h.1) (okSL_ones m l h.2)
end
theorem okS_flat (m : Nm) : ∀ v : EV, v.okS = true → (v.den m).flat = true
  | .td a x, _ => by simp only [EV.den]; exact Ty.den_flat a x
  | .val u, h => by simp only [EV.okS] at h; exact h
  | .nil, _ => rfl
  | .bl _, _ => rfl
  | .own _ _, _ => rfl
  | .lp _ _ _, _ => rfl
  | .fn _ _, _ => rfl
  | .st fs, h => rfl
theorem okS_cells (m : Nm) (v : EV) (h : v.okS = true) : (v.den m).cells = v.flat m := EV.flat_cells m v fun a e => by subst e; cases h

/-- Something typed, written in part. -/
def setK : (a : Ty) → a.T → List PS → EV → (a.T → Tree) → Tree
  | .pair a b, x, p, v, K =>
    match p with
    | [] => bif v.isAgg && Nat.beq v.size (a.size + b.size) then decK (.pair a b) v K else (match x with | (x1, x2) => setK a x1 [] v fun y => K (y, x2))
    | .o n :: q => bif Nat.blt n a.size then (match x with | (x1, x2) => setK a x1 (.o n :: q) v fun y => K (y, x2)) else (match x with | (x1, x2) => setK b x2 (oo (n - a.size) q) v fun y => K (x1, y))
    | .x _ _ :: _ => .bad 40
  | .one a, x, p, v, K =>
    match p with
    | [] => bif v.isAgg && Nat.beq v.size a.size then decK (.one a) v K else setK a x [] v K
    | q :: r => setK a x (q :: r) v K
  | .arr n a, l, p, v, K =>
    match p with
    | [] => bif Nat.beq v.size (n * a.size) then decK (.arr n a) v K else .bad 41
    | .x k z :: q => bif Nat.beq k a.size then .need (z < n ∧ l.length = n) (setK a (l.getD z a.dflt) q v fun y => K (l.set z y)) else .bad 42
    | .o _ :: _ => .bad 43
  | .unit, _, _, _, _ => .bad 44
  | a, _, p, v, K => match p with
    | [] => decK a v K
    | _ :: _ => .bad 45

theorem spl_flat {α : Type} {enc : α → List AV} {k : Nat} (hk : ∀ x, (enc x).length = k) {l : List α} {i : Nat} {x : α} (h : l[i]? = some x) {off : Nat} {n : List AV} (hn : off + n.length ≤ k) : spl (l.flatMap enc) (i * k + off) n = (l.take i).flatMap enc ++ (spl (enc x) off n ++ (l.drop (i + 1)).flatMap enc) := by
  have hlt := (List.getElem?_eq_some_iff.1 h).1
  have hd := drop_flatMap hk h
  have ht := flat_take_ hk l i
  have e : l.flatMap enc = (l.take i).flatMap enc ++ (enc x ++ (l.drop (i + 1)).flatMap enc) := by rw [← hd, ← ht, List.take_append_drop]
  have hl : ((l.take i).flatMap enc).length = i * k := by rw [flat_len_ hk, List.length_take, Nat.min_eq_left (Nat.le_of_lt hlt)]
  conv => lhs; rw [e, ← hl]
  rw [spl_right, spl_left (by rw [hk]; exact hn)]

theorem setLeaf_ok {a : Ty} {x : a.T} {p : List PS} {v : EV} {K : a.T → Tree} (h1 : a.size = 1) (h : (match p with | [] => decK a v K | _ :: _ => Tree.bad 45).ok E B R) : ∃ y : a.T, (K y).ok E B R ∧ poff p + v.size ≤ a.size ∧ SubL (spl (a.enc x) (poff p) (v.flat m)) (a.enc y) := by
  split at h
  · obtain ⟨y, h2, h3⟩ := decK_ok (m := m) h
    have hl := h3.len
    rw [EV.flat_len, Ty.enc_len] at hl
    refine ⟨y, h2, by simp only [poff]; omega, ?_⟩
    rw [show poff [] = 0 from rfl, spl_all (by rw [EV.flat_len, Ty.enc_len, hl])]
    exact h3
  · exact h.elim
theorem setK_ok : ∀ (a : Ty) (x : a.T) (p : List PS) (v : EV) (K : a.T → Tree), (setK a x p v K).ok E B R → ∃ y : a.T, (K y).ok E B R ∧ poff p + v.size ≤ a.size ∧ SubL (spl (a.enc x) (poff p) (v.flat m)) (a.enc y)
  | .pair a b, (x1, x2), p, v, K, h => by
    have hA : (Ty.pair a b).enc (x1, x2) = a.enc x1 ++ b.enc x2 := rfl
    unfold setK at h
    cases p with
    | nil =>
      simp only at h
      cases hc : (v.isAgg && Nat.beq v.size (a.size + b.size)) with
      | true =>
        rw [hc] at h
        simp only [Bool.and_eq_true] at hc
        have hs := beqN hc.2
        obtain ⟨y, h1, h2⟩ := decK_ok (m := m) h
        refine ⟨y, h1, by simp only [poff, Ty.size]; omega, ?_⟩
        rw [show poff [] = 0 from rfl, spl_all (by rw [EV.flat_len, Ty.enc_len, hs]; rfl)]
        exact h2
      | false =>
        rw [hc] at h
        obtain ⟨y, h1, h2, h3⟩ := setK_ok a x1 [] v _ h
        refine ⟨(y, x2), h1, by simp only [Ty.size]; omega, ?_⟩
        rw [hA, spl_left (by rw [EV.flat_len, Ty.enc_len]; exact h2)]
        exact h3.append (SubL.refl _)
    | cons q r =>
      cases q with
      | o n =>
        simp only at h
        cases hc : Nat.blt n a.size with
        | true =>
          rw [hc] at h
          obtain ⟨y, h1, h2, h3⟩ := setK_ok a x1 _ v _ h
          refine ⟨(y, x2), h1, by simp only [Ty.size]; omega, ?_⟩
          rw [hA, spl_left (by rw [EV.flat_len, Ty.enc_len]; exact h2)]
          exact h3.append (SubL.refl _)
        | false =>
          rw [hc] at h
          obtain ⟨y, h1, h2, h3⟩ := setK_ok b x2 _ v _ h
          have hge := bltN' hc
          rw [poff_oo] at h2 h3
          refine ⟨(x1, y), h1, by simp only [Ty.size, poff]; omega, ?_⟩
          rw [hA, show poff (.o n :: r) = (a.enc x1).length + (n - a.size + poff r) by rw [Ty.enc_len]; simp only [poff]; omega, spl_right]
          exact (SubL.refl _).append h3
      | x k z => exact h.elim
  | .one a, x, p, v, K, h => by
    unfold setK at h
    cases p with
    | nil =>
      simp only at h
      cases hc : (v.isAgg && Nat.beq v.size a.size) with
      | true =>
        rw [hc] at h
        simp only [Bool.and_eq_true] at hc
        have hs := beqN hc.2
        obtain ⟨y, h1, h2⟩ := decK_ok (m := m) h
        refine ⟨y, h1, by simp only [poff, Ty.size]; omega, ?_⟩
        rw [show poff [] = 0 from rfl, spl_all (by rw [EV.flat_len, Ty.enc_len, hs]; rfl)]
        exact h2
      | false =>
        rw [hc] at h
        exact setK_ok a x [] v K h
    | cons q r => exact setK_ok a x (q :: r) v K h
  | .arr n a, l, p, v, K, h => by
    unfold setK at h
    cases p with
    | nil =>
      simp only at h
      cases hc : Nat.beq v.size (n * a.size) with
      | true =>
        rw [hc] at h
        have hs := beqN hc
        obtain ⟨y, h1, h2⟩ := decK_ok (m := m) h
        refine ⟨y, h1, by simp only [poff, Ty.size]; omega, ?_⟩
        rw [show poff [] = 0 from rfl, spl_all (by rw [EV.flat_len, Ty.enc_len, hs]; rfl)]
        exact h2
      | false => rw [hc] at h; exact h.elim
    | cons q r =>
      cases q with
      | o n => exact h.elim
      | x k z =>
        simp only at h
        cases hc : Nat.beq k a.size with
        | true =>
          rw [hc] at h
          obtain rfl := beqN hc
          obtain ⟨⟨hz, hl⟩, h⟩ := h
          obtain ⟨y, h1, h2, h3⟩ := setK_ok a (l.getD z a.dflt) r v _ h
          have hzn : z * a.size + a.size ≤ n * a.size := by rw [← Nat.succ_mul]; exact Nat.mul_le_mul_right _ hz
          refine ⟨_, h1, by simp only [Ty.size, poff]; omega, ?_⟩
          have e := spl_flat (enc := fun i => a.enc (l.getD i a.dflt)) (fun i => Ty.enc_len a _) (l := List.range n) (i := z) (x := z) (by rw [List.getElem?_range hz]) (off := poff r) (n := v.flat m) (by rw [EV.flat_len]; exact h2)
          simp only [poff, Ty.enc]
          rw [e]
          have e2 : (List.range n).flatMap (fun i => a.enc ((l.set z y).getD i a.dflt)) = ((List.range n).take z).flatMap (fun i => a.enc (l.getD i a.dflt)) ++ (a.enc y ++ ((List.range n).drop (z + 1)).flatMap (fun i => a.enc (l.getD i a.dflt))) := by
            have hr : List.range n = (List.range n).take z ++ (z :: (List.range n).drop (z + 1)) := by
              have h9 := List.drop_eq_getElem_cons (l := List.range n) (i := z) (by simpa using hz)
              rw [List.getElem_range] at h9
              rw [← h9, List.take_append_drop]
            conv => lhs; rw [hr]
            rw [List.flatMap_append, List.flatMap_cons]
            have hx : (l.set z y).getD z a.dflt = y := by rw [List.getD_eq_getElem?_getD, List.getElem?_set_self (by omega)]; rfl
            have hne : ∀ i, i ≠ z → (l.set z y).getD i a.dflt = l.getD i a.dflt := fun i hi => by
              rw [List.getD_eq_getElem?_getD, List.getD_eq_getElem?_getD, List.getElem?_set_ne (Ne.symm hi)]
            rw [hx]
            have c1 : ∀ i ∈ (List.range n).take z, i ≠ z := fun i hi => by
              rw [List.take_range] at hi
              have := List.mem_range.1 hi; omega
            have c2 : ∀ i ∈ (List.range n).drop (z + 1), i ≠ z := fun i hi => by
              obtain ⟨j, hj, e⟩ := List.mem_iff_getElem.1 hi
              simp only [List.getElem_drop, List.getElem_range] at e
              omega
            rw [flatMap_congr_ fun i hi => by rw [hne i (c1 i hi)], flatMap_congr_ (l := (List.range n).drop (z + 1)) fun i hi => by rw [hne i (c2 i hi)]]
          rw [e2]
          exact (SubL.refl _).append (h3.append (SubL.refl _))
        | false => rw [hc] at h; exact h.elim
  | .int k, x, p, v, K, h => setLeaf_ok rfl h
  | .bool, x, p, v, K, h => setLeaf_ok rfl h
  | .str, x, p, v, K, h => setLeaf_ok rfl h
  | .flt, x, p, v, K, h => setLeaf_ok rfl h
  | .list a, x, p, v, K, h => setLeaf_ok rfl h
  | .unit, x, p, v, K, h => h.elim

/-- Something typed taken apart, for what is not typed. -/
def explK : (a : Ty) → a.T → List PS → EV → (EV → Tree) → Tree
  | .pair a b, x, p, v, K =>
    match p with
    | [] => bif v.isAgg && Nat.beq v.size (a.size + b.size) then K v else (match x with | (x1, x2) => explK a x1 [] v fun c => K (.st [c, .td b x2]))
    | .o n :: q => bif Nat.blt n a.size then (match x with | (x1, x2) => explK a x1 (.o n :: q) v fun c => K (.st [c, .td b x2])) else (match x with | (x1, x2) => explK b x2 (oo (n - a.size) q) v fun c => K (.st [.td a x1, c]))
    | .x _ _ :: _ => .bad 50
  | .one a, x, p, v, K =>
    match p with
    | [] => bif v.isAgg && Nat.beq v.size a.size then K v else explK a x [] v fun c => K (.st [c])
    | q :: r => explK a x (q :: r) v fun c => K (.st [c])
  | .arr _ _, _, _, _, _ => .bad 51
  | .unit, _, _, _, _ => .bad 52
  | _, _, p, v, K => match p with
    | [] => bif Nat.beq v.size 1 then K v else .bad 53
    | _ :: _ => .bad 54
theorem explLeaf_ok {a : Ty} {x : a.T} {p : List PS} {v : EV} {K : EV → Tree} (h1 : a.size = 1) (h : (match p with | [] => bif Nat.beq v.size 1 then K v else .bad 53 | _ :: _ => Tree.bad 54).ok E B R) : ∃ u : EV, (K u).ok E B R ∧ poff p + v.size ≤ a.size ∧ SubL (spl (a.enc x) (poff p) (v.flat m)) (u.flat m) := by
  split at h
  · cases hc : Nat.beq v.size 1 with
    | true =>
      rw [hc] at h
      have := beqN hc
      refine ⟨v, h, by simp only [poff]; omega, ?_⟩
      rw [show poff [] = 0 from rfl, spl_all (by rw [EV.flat_len, Ty.enc_len, h1, this])]
      exact SubL.refl _
    | false => rw [hc] at h; exact h.elim
  · exact h.elim
theorem explK_ok : ∀ (a : Ty) (x : a.T) (p : List PS) (v : EV) (K : EV → Tree), (explK a x p v K).ok E B R → ∃ u : EV, (K u).ok E B R ∧ poff p + v.size ≤ a.size ∧ SubL (spl (a.enc x) (poff p) (v.flat m)) (u.flat m)
  | .pair a b, (x1, x2), p, v, K, h => by
    have hA : (Ty.pair a b).enc (x1, x2) = a.enc x1 ++ b.enc x2 := rfl
    have f1 : ∀ c, (EV.st [c, .td b x2]).flat m = c.flat m ++ b.enc x2 := fun c => by simp [EV.flat, EV.flatL]
    have f2 : ∀ c, (EV.st [.td a x1, c]).flat m = a.enc x1 ++ c.flat m := fun c => by simp [EV.flat, EV.flatL]
    unfold explK at h
    cases p with
    | nil =>
      simp only at h
      cases hc : (v.isAgg && Nat.beq v.size (a.size + b.size)) with
      | true =>
        rw [hc] at h
        simp only [Bool.and_eq_true] at hc
        have hs := beqN hc.2
        refine ⟨v, h, by simp only [poff, Ty.size]; omega, ?_⟩
        rw [show poff [] = 0 from rfl, spl_all (by rw [EV.flat_len, Ty.enc_len, hs]; rfl)]
        exact SubL.refl _
      | false =>
        rw [hc] at h
        obtain ⟨y, h1, h2, h3⟩ := explK_ok a x1 [] v _ h
        refine ⟨_, h1, by simp only [Ty.size]; omega, ?_⟩
        rw [hA, f1, spl_left (by rw [EV.flat_len, Ty.enc_len]; exact h2)]
        exact h3.append (SubL.refl _)
    | cons q r =>
      cases q with
      | o n =>
        simp only at h
        cases hc : Nat.blt n a.size with
        | true =>
          rw [hc] at h
          obtain ⟨y, h1, h2, h3⟩ := explK_ok a x1 _ v _ h
          refine ⟨_, h1, by simp only [Ty.size]; omega, ?_⟩
          rw [hA, f1, spl_left (by rw [EV.flat_len, Ty.enc_len]; exact h2)]
          exact h3.append (SubL.refl _)
        | false =>
          rw [hc] at h
          obtain ⟨y, h1, h2, h3⟩ := explK_ok b x2 _ v _ h
          have hge := bltN' hc
          rw [poff_oo] at h2 h3
          refine ⟨_, h1, by simp only [Ty.size, poff]; omega, ?_⟩
          rw [hA, f2, show poff (.o n :: r) = (a.enc x1).length + (n - a.size + poff r) by rw [Ty.enc_len]; simp only [poff]; omega, spl_right]
          exact (SubL.refl _).append h3
      | x k z => exact h.elim
  | .one a, x, p, v, K, h => by
    have f1 : ∀ c : EV, (EV.st [c]).flat m = c.flat m := fun c => by simp [EV.flat, EV.flatL]
    unfold explK at h
    cases p with
    | nil =>
      simp only at h
      cases hc : (v.isAgg && Nat.beq v.size a.size) with
      | true =>
        rw [hc] at h
        simp only [Bool.and_eq_true] at hc
        have hs := beqN hc.2
        refine ⟨v, h, by simp only [poff, Ty.size]; omega, ?_⟩
        rw [show poff [] = 0 from rfl, spl_all (by rw [EV.flat_len, Ty.enc_len, hs]; rfl)]
        exact SubL.refl _
      | false =>
        rw [hc] at h
        obtain ⟨u, h1, h2, h3⟩ := explK_ok a x [] v _ h
        exact ⟨_, h1, h2, by rw [f1]; exact h3⟩
    | cons q r =>
      obtain ⟨u, h1, h2, h3⟩ := explK_ok a x (q :: r) v _ h
      exact ⟨_, h1, h2, by rw [f1]; exact h3⟩
  | .arr n a, l, p, v, K, h => h.elim
  | .unit, x, p, v, K, h => h.elim
  | .int k, x, p, v, K, h => explLeaf_ok rfl h
  | .bool, x, p, v, K, h => explLeaf_ok rfl h
  | .str, x, p, v, K, h => explLeaf_ok rfl h
  | .flt, x, p, v, K, h => explLeaf_ok rfl h
  | .list a, x, p, v, K, h => explLeaf_ok rfl h

/-- What a block holds, written in part. -/
def putP (v : EV) (p : List PS) (w : EV) (K : EV → Tree) : Tree :=
  match v with
  | .td a x => bif w.typed then setK a x p w fun y => K (.td a y) else explK a x p w K
  | .st fs => match p with
    | [] => bif w.isAgg && Nat.beq w.size (EV.size.go fs) then K w else goL fs 0 [] w fun fs => K (.st fs)
    | .o n :: q => goL fs n q w fun fs => K (.st fs)
    | .x _ _ :: _ => .bad 55
  | _ => match p with
    | [] => bif Nat.beq w.size 1 then K w else .bad 56
    | _ :: _ => .bad 57
where goL : List EV → Nat → List PS → EV → (List EV → Tree) → Tree
  | [], _, _, _, _ => .bad 58
  | v :: l, n, q, w, K => bif Nat.blt n v.size then putP v (oo n q) w fun v' => K (v' :: l) else goL l (n - v.size) q w fun l' => K (v :: l')
theorem put_leaf {v w : EV} {p : List PS} {K : EV → Tree} (h : (match p with | [] => bif Nat.beq w.size 1 then K w else .bad 56 | _ :: _ => Tree.bad 57).ok E B R) (h1 : v.size = 1) : ∃ u : EV, (K u).ok E B R ∧ poff p + w.size ≤ v.size ∧ SubL (spl (v.flat m) (poff p) (w.flat m)) (u.flat m) := by
  split at h
  · cases hc : Nat.beq w.size 1 with
    | true =>
      rw [hc] at h
      have := beqN hc
      refine ⟨w, h, by simp only [poff]; omega, ?_⟩
      rw [show poff [] = 0 from rfl, spl_all (by rw [EV.flat_len, EV.flat_len, h1, this])]
      exact SubL.refl _
    | false => rw [hc] at h; exact h.elim
  · exact h.elim
mutual
theorem putP_ok : ∀ (v : EV) (p : List PS) (w : EV) (K : EV → Tree), (putP v p w K).ok E B R → ∃ u : EV, (K u).ok E B R ∧ poff p + w.size ≤ v.size ∧ SubL (spl (v.flat m) (poff p) (w.flat m)) (u.flat m)
  | .td a x, p, w, K, h => by
    unfold putP at h
    cases hc : w.typed with
    | true =>
      rw [hc] at h
      obtain ⟨y, h1, h2, h3⟩ := setK_ok (m := m) a x p w _ h
      exact ⟨_, h1, by simp only [EV.size]; exact h2, by simp only [EV.flat]; exact h3⟩
    | false =>
      rw [hc] at h
      obtain ⟨u, h1, h2, h3⟩ := explK_ok (m := m) a x p w _ h
      exact ⟨_, h1, by simp only [EV.size]; exact h2, by simp only [EV.flat]; exact h3⟩
  | .st fs, p, w, K, h => by
    unfold putP at h
    cases p with
    | nil =>
      simp only at h
      cases hc : (w.isAgg && Nat.beq w.size (EV.size.go fs)) with
      | true =>
        rw [hc] at h
        simp only [Bool.and_eq_true] at hc
        have hs := beqN hc.2
        refine ⟨w, h, by simp only [poff, EV.size]; omega, ?_⟩
        rw [show poff [] = 0 from rfl, spl_all (by rw [EV.flat_len, EV.flat_len, hs]; simp only [EV.size])]
        exact SubL.refl _
      | false =>
        rw [hc] at h
        obtain ⟨u, h1, h2, h3⟩ := putPL_ok fs 0 [] w _ h
        exact ⟨_, h1, by simp only [EV.size]; exact h2, by simp only [EV.flat]; exact h3⟩
    | cons q r =>
      cases q with
      | o n =>
        obtain ⟨u, h1, h2, h3⟩ := putPL_ok fs n r w _ h
        exact ⟨_, h1, by simp only [EV.size]; exact h2, by simp only [EV.flat]; exact h3⟩
      | x k z => exact h.elim
  | .val _, p, w, K, h => by unfold putP at h; exact put_leaf h rfl
  | .nil, p, w, K, h => by unfold putP at h; exact put_leaf h rfl
  | .bl _, p, w, K, h => by unfold putP at h; exact put_leaf h rfl
  | .own _ _, p, w, K, h => by unfold putP at h; exact put_leaf h rfl
  | .row _, p, w, K, h => by unfold putP at h; exact put_leaf h rfl
  | .rp _ _ _ _, p, w, K, h => by unfold putP at h; exact put_leaf h rfl
  | .rs _ _ _ _, p, w, K, h => by unfold putP at h; exact put_leaf h rfl
  | .lp _ _ _, p, w, K, h => by unfold putP at h; exact put_leaf h rfl
  | .tup _, p, w, K, h => by unfold putP at h; exact put_leaf h rfl
  | .fn _ _, p, w, K, h => by unfold putP at h; exact put_leaf h rfl
  | .av _, p, w, K, h => by unfold putP at h; exact put_leaf h rfl
  | .any, p, w, K, h => by unfold putP at h; exact put_leaf h rfl
theorem putPL_ok : ∀ (fs : List EV) (n : Nat) (q : List PS) (w : EV) (K : List EV → Tree), (putP.goL fs n q w K).ok E B R → ∃ us : List EV, (K us).ok E B R ∧ n + poff q + w.size ≤ EV.size.go fs ∧ SubL (spl (EV.flatL m fs) (n + poff q) (w.flat m)) (EV.flatL m us)
  | [], n, q, w, K, h => by unfold putP.goL at h; exact h.elim
  | v :: l, n, q, w, K, h => by
    unfold putP.goL at h
    cases hc : Nat.blt n v.size with
    | true =>
      rw [hc] at h
      obtain ⟨u, h1, h2, h3⟩ := putP_ok v (oo n q) w _ h
      rw [poff_oo] at h2 h3
      refine ⟨_, h1, by simp only [EV.size.go]; omega, ?_⟩
      simp only [EV.flatL]
      rw [spl_left (by rw [EV.flat_len, EV.flat_len]; exact h2)]
      exact h3.append (SubL.refl _)
    | false =>
      rw [hc] at h
      obtain ⟨us, h1, h2, h3⟩ := putPL_ok l (n - v.size) q w _ h
      have hge := bltN' hc
      refine ⟨_, h1, by simp only [EV.size.go]; omega, ?_⟩
      simp only [EV.flatL]
      rw [show n + poff q = (v.flat m).length + (n - v.size + poff q) by rw [EV.flat_len]; omega, spl_right]
      exact (SubL.refl _).append h3
end
end
end Go.Proofs.Ytpehmadeklaebaa
