/-
  GP
-/
import Derived.Test.YtpehmadeklaebaaZC12
import Derived.Test.YtpehmadeklaebaaZOrd
namespace Go.Proofs.Ytpehmadeklaebaa.V
open Go Go.RowKit
set_option linter.unusedVariables false
set_option linter.unusedSimpArgs false
abbrev DotT := Int × Int
abbrev StampT := Int × Int × Int
abbrev FactT := DotT × StampT × Int × ByteArray × ByteArray
def hasB {α : Type} [DecidableEq α] (l : List α) (y : α) : Bool := decide (y ∈ l)
def eqB {α : Type} [DecidableEq α] (l m : List α) : Bool := decide (l = m)
theorem hasB_t {α : Type} [DecidableEq α] {l : List α} {y : α} (h : y ∈ l) : true = hasB l y := (decide_eq_true h).symm
theorem hasB_f {α : Type} [DecidableEq α] {l : List α} {y : α} (h : y ∉ l) : false = hasB l y := (decide_eq_false h).symm
theorem hasB_m {α : Type} [DecidableEq α] {l : List α} {y : α} (h : hasB l y = true) : y ∈ l := of_decide_eq_true h
theorem hasB_n {α : Type} [DecidableEq α] {l : List α} {y : α} (h : hasB l y = false) : y ∉ l := of_decide_eq_false h
theorem eqB_t {α : Type} [DecidableEq α] {l m : List α} (h : l = m) : true = eqB l m := (decide_eq_true h).symm
theorem eqB_f {α : Type} [DecidableEq α] {l m : List α} (h : ¬ l = m) : false = eqB l m := (decide_eq_false h).symm
def lessS (a b : ByteArray) : Bool := Op.bytesLess a.toList b.toList
def cmpI (a b : Int) : Int := if a < b then -1 else if b < a then 1 else 0
def byL (p q : Bool) : Int := if p = true then -1 else if q = true then 1 else 0
def cmpB (a b : ByteArray) : Int := byL (lessS a b) (lessS b a)
def orI : List Int → Int
  | [] => 0
  | a :: l => if a = 0 then orI l else a
def or2 (a b : Int) : Int := if a = 0 then b else a
theorem orI_drop {l : List Int} {i : Nat} (h : i < l.length) (h0 : l.getD i 0 = 0) : orI (l.drop i) = orI (l.drop (i + 1)) := by
  rw [List.drop_eq_getElem_cons h, orI, if_pos (by rw [← h0]; simp [h])]
theorem orI_at {l : List Int} {i : Nat} (h : i < l.length) (h0 : ¬ l.getD i 0 = 0) : orI (l.drop i) = l.getD i 0 := by
  have e : l.getD i 0 = l[i] := by simp [h]
  rw [List.drop_eq_getElem_cons h, orI, if_neg (by rw [← e]; exact h0), e]
def dLt (a b : DotT) : Bool := decide (a.1 < b.1) || decide (a.1 = b.1) && decide (a.2 < b.2)
def sLt (a b : StampT) : Bool := decide (a.1 < b.1) || decide (a.1 = b.1) && (decide (a.2.1 < b.2.1) || decide (a.2.1 = b.2.1) && decide (a.2.2 < b.2.2))
def dOrd (a b : DotT) : Int := orI [cmpI a.1 b.1, cmpI a.2 b.2]
def sOrd (a b : StampT) : Int := orI [cmpI a.1 b.1, cmpI a.2.1 b.2.1, cmpI a.2.2 b.2.2]
theorem dOrd_lt (a b : DotT) : decide (dOrd a b < 0) = dLt a b := by
  simp only [dOrd, dLt, orI, cmpI]; grind
theorem sOrd_lt (a b : StampT) : decide (sOrd a b < 0) = sLt a b := by
  simp only [sOrd, sLt, orI, cmpI]; grind
theorem stoD : STO dLt where
  irrefl a := by simp [dLt]
  trans a b c h1 h2 := by simp only [dLt] at *; grind
  total a b h1 h2 := by
    obtain ⟨a1, a2⟩ := a; obtain ⟨b1, b2⟩ := b
    simp only [dLt] at h1 h2; simp only [Prod.mk.injEq]; grind
theorem stoW : STO sLt where
  irrefl a := by simp [sLt]
  trans a b c h1 h2 := by simp only [sLt] at *; grind
  total a b h1 h2 := by
    obtain ⟨a1, a2, a3⟩ := a; obtain ⟨b1, b2, b3⟩ := b
    simp only [sLt] at h1 h2; simp only [Prod.mk.injEq]; grind
theorem bytesLess_irrefl : ∀ l, Op.bytesLess l l = false
  | [] => rfl
  | a :: x => by simp [Op.bytesLess, bytesLess_irrefl x]
theorem bytesLess_trans : ∀ a b c, Op.bytesLess a b = true → Op.bytesLess b c = true → Op.bytesLess a c = true
  | _, _, [] => by intro _ h; simp [Op.bytesLess] at h
  | _, [], _ :: _ => by intro h; simp [Op.bytesLess] at h
  | [], _ :: _, _ :: _ => by intro _ _; simp [Op.bytesLess]
  | a :: x, b :: y, c :: z => by
    intro h1 h2
    simp only [Op.bytesLess, Bool.or_eq_true, Bool.and_eq_true, decide_eq_true_eq, beq_iff_eq] at h1 h2 ⊢
    rcases h1 with h1 | ⟨rfl, h1⟩
    · rcases h2 with h2 | ⟨rfl, h2⟩
      · exact .inl (UInt8.lt_trans h1 h2)
      · exact .inl h1
    · rcases h2 with h2 | ⟨rfl, h2⟩
      · exact .inl h2
      · exact .inr ⟨rfl, bytesLess_trans _ _ _ h1 h2⟩
theorem bytesLess_total : ∀ a b, Op.bytesLess a b = false → Op.bytesLess b a = false → a = b
  | [], [] => fun _ _ => rfl
  | _ :: _, [] => by intro _ h; simp [Op.bytesLess] at h
  | [], _ :: _ => by intro h; simp [Op.bytesLess] at h
  | a :: x, b :: y => by
    intro h1 h2
    simp only [Op.bytesLess, Bool.or_eq_false_iff, decide_eq_false_iff_not, Bool.and_eq_false_iff] at h1 h2
    have hab : a = b := UInt8.le_antisymm (UInt8.not_lt.1 h2.1) (UInt8.not_lt.1 h1.1)
    subst hab
    simp at h1 h2
    rw [bytesLess_total x y h1 h2]

theorem toList_inj_ {a b : ByteArray} (h : a.toList = b.toList) : a = b := by
  rw [ByteArray.toList_eq, ByteArray.toList_eq] at h
  cases a; cases b
  simp only [ByteArray.mk.injEq]
  exact Array.toList_inj.1 h

theorem stoStr : STO lessS where
  irrefl a := bytesLess_irrefl _
  trans a b c := bytesLess_trans _ _ _
  total a b h1 h2 := toList_inj_ (bytesLess_total _ _ h1 h2)

theorem gtrStr (a b : ByteArray) : (!(Op.bytesLess a.toList b.toList) && !(a.toList == b.toList)) = lessS b a := by
  unfold lessS
  cases h : Op.bytesLess a.toList b.toList with
  | true =>
    cases h2 : Op.bytesLess b.toList a.toList with
    | false => rfl
    | true => have := bytesLess_trans _ _ _ h h2; rw [bytesLess_irrefl] at this; cases this
  | false =>
    cases h2 : Op.bytesLess b.toList a.toList with
    | false => have := bytesLess_total _ _ h h2; simp [this]
    | true =>
      have : ¬ a.toList = b.toList := fun e => by rw [e, bytesLess_irrefl] at h2; cases h2
      simpa using this

/-- A comparison as Go's packages know it: below zero, zero, above. -/
structure Cmps {α : Type} (c : α → α → Int) : Prop where
  zero : ∀ a b, c a b = 0 ↔ a = b
  flip : ∀ a b, c a b < 0 ↔ 0 < c b a
  trans : ∀ a b d, c a b < 0 → c b d < 0 → c a d < 0

theorem Cmps.sto {α : Type} {c : α → α → Int} (h : Cmps c) : STO (fun a b => decide (c a b < 0)) where
  irrefl a := by
    have := (h.zero a a).2 rfl
    simp [this]
  trans a b d h1 h2 := by
    simp only [decide_eq_true_eq] at *
    exact h.trans a b d h1 h2
  total a b h1 h2 := by
    simp only [decide_eq_false_iff_not] at *
    have := h.flip b a
    exact (h.zero a b).1 (by omega)

theorem Cmps.lex {α β γ : Type} {c : α → α → Int} {d : β → β → Int} (hc : Cmps c) (hd : Cmps d) (f : γ → α) (g : γ → β)
    (hi : ∀ x y, f x = f y → g x = g y → x = y) : Cmps (fun x y => or2 (c (f x) (f y)) (d (g x) (g y))) where
  zero x y := by
    have h1 := hc.zero (f x) (f y)
    have h2 := hd.zero (g x) (g y)
    unfold or2
    constructor
    · intro h
      split at h
      · rename_i h0; exact hi x y (h1.1 h0) (h2.1 h)
      · rename_i h0; exact absurd h h0
    · intro h
      subst h
      rw [if_pos (h1.2 rfl)]
      exact h2.2 rfl
  flip x y := by
    have h1 := hc.flip (f x) (f y)
    have h1' := hc.flip (f y) (f x)
    have h2 := hd.flip (g x) (g y)
    unfold or2
    split <;> split <;> first | exact h2 | omega
  trans x y z := by
    have a1 := hc.zero (f x) (f y)
    have a2 := hc.zero (f y) (f z)
    have a3 := hc.zero (f x) (f z)
    have b := hc.trans (f x) (f y) (f z)
    have e := hd.trans (g x) (g y) (g z)
    unfold or2
    intro h1 h2
    split at h1 <;> split at h2
    · rename_i p q
      rw [if_pos (a3.2 ((a1.1 p).trans (a2.1 q)))]
      exact e h1 h2
    · rename_i p q
      have := a1.1 p
      rw [← this] at h2 q
      rw [if_neg q]; exact h2
    · rename_i p q
      have := a2.1 q
      rw [this] at h1 p
      rw [if_neg p]; exact h1
    · have := b h1 h2
      rw [if_neg (by omega)]; exact this

theorem cmps_of_sto {α : Type} {lt : α → α → Bool} (h : STO lt) : Cmps (fun a b => byL (lt a b) (lt b a)) where
  zero a b := by
    unfold byL
    constructor
    · intro e
      cases h1 : lt a b with
      | true => rw [h1] at e; simp at e
      | false =>
        cases h2 : lt b a with
        | true => rw [h1, h2] at e; simp at e
        | false => exact h.total a b h1 h2
    · intro e; subst e; simp [h.irrefl a]
  flip a b := by
    unfold byL
    cases h1 : lt a b with
    | true => simp [h.asymm h1]
    | false => cases h2 : lt b a <;> simp
  trans a b d h1 h2 := by
    have g : ∀ a b, byL (lt a b) (lt b a) < 0 → lt a b = true := fun a b e => by
      cases h1 : lt a b with
      | true => rfl
      | false => rw [h1] at e; unfold byL at e; cases h2 : lt b a <;> rw [h2] at e <;> simp at e
    have := h.trans a b d (g a b h1) (g b d h2)
    simp [byL, this]

theorem gtrS (a b : ByteArray) : (!(Op.bytesLess a.toList b.toList || decide (a = b))) = lessS b a := by
  rw [← gtrStr, Bool.not_or]
  congr 2
  rw [Bool.eq_iff_iff]; simp only [beq_iff_eq, decide_eq_true_eq]
  exact ⟨fun e => by rw [e], fun e => toList_inj_ e⟩
theorem cmpsB : Cmps cmpB := cmps_of_sto stoStr
end Go.Proofs.Ytpehmadeklaebaa.V
