/-
  MayG FacB
-/
import Derived.Test.YtmhkalalcmkpbaaZDotPlain
import Derived.Test.YtmhkalalcmkpbaaZFacP
import Derived.Test.YtmhkalalcmkpbaaZOrd
import Derived.Test.YtmhkalalcmkpbaaZWireText
namespace Go.Proofs.Ytmhkalalcmkpbaa
set_option linter.unusedVariables false
section
variable {α : Type}
def chkAll (chk : α → Int) : List α → Int
  | [] => 0
  | x :: l => if chk x ≠ 0 then chk x else chkAll chk l
def risesG (lt : α → α → Bool) : List α → Bool
  | x :: y :: l => lt x y && risesG lt (y :: l)
  | _ => true
def mayG (chk : α → Int) (lt : α → α → Bool) (l : List α) : Int := if chkAll chk l ≠ 0 then chkAll chk l else if risesG lt l = true then 0 else 5

theorem chkAll_zero {chk : α → Int} : ∀ {l : List α}, (∀ (j : Nat) y, l[j]? = some y → chk y = 0) → chkAll chk l = 0
  | [], _ => rfl
  | y :: l, h => by
    simp only [chkAll, h 0 y rfl, ne_eq, not_true, if_false]
    exact chkAll_zero fun j z hz => h (j + 1) z (by simpa using hz)
theorem rises_iff {lt : α → α → Bool} : ∀ {l : List α}, risesG lt l = true ↔ ∀ (j : Nat) x y, l[j]? = some x → l[j + 1]? = some y → lt x y = true
  | [] => by simp [risesG]
  | [x] => by simp [risesG]
  | x :: y :: l => by
    simp only [risesG, Bool.and_eq_true]
    rw [rises_iff (l := y :: l)]
    constructor
    · rintro ⟨h1, h2⟩ j a b ha hb
      cases j with
      | zero => simp at ha hb; subst ha hb; exact h1
      | succ j => exact h2 j a b (by simpa using ha) (by simpa using hb)
    · intro h
      exact ⟨h 0 x y rfl rfl, fun j a b ha hb => h (j + 1) a b (by simpa using ha) (by simpa using hb)⟩
theorem may_ok {chk : α → Int} {lt : α → α → Bool} {l : List α} (h0 : ∀ (j : Nat) y, l[j]? = some y → chk y = 0) (h1 : ∀ (j : Nat) x y, l[j]? = some x → l[j + 1]? = some y → lt x y = true) : mayG chk lt l = 0 := by
  unfold mayG
  rw [chkAll_zero h0, if_neg (by simp), if_pos (rises_iff.2 h1)]
end
end Go.Proofs.Ytmhkalalcmkpbaa

namespace Go.Proofs.Ytmhkalalcmkpbaa
open Go.RowKit
set_option linter.unusedVariables false

/-- Strings, one behind the other. -/
def cat (l : List ByteArray) : ByteArray := l.foldl (· ++ ·) ⟨#[]⟩
theorem cat_snoc (l : List ByteArray) (x : ByteArray) : cat (l ++ [x]) = cat l ++ x := by unfold cat; rw [List.foldl_append]; rfl
theorem nil_app (s : ByteArray) : (⟨#[]⟩ : ByteArray) ++ s = s := ba_ext (by simp)
theorem cat_data_from (l : List ByteArray) : ∀ s : ByteArray, (l.foldl (· ++ ·) s).data.toList = s.data.toList ++ l.flatMap (·.data.toList) := by
  induction l with
  | nil => intro s; simp
  | cons x l ih => intro s; rw [List.foldl_cons, ih, app_data, List.flatMap_cons, List.append_assoc]
theorem cat_data (l : List ByteArray) : (cat l).data.toList = l.flatMap (·.data.toList) := by unfold cat; rw [cat_data_from]; rfl
theorem cat_take {α : Type} (g : α → ByteArray) {xs : List α} {k : Nat} {x : α} (h : xs[k]? = some x) (s0 : ByteArray) : s0 ++ cat ((xs.take k).map g) ++ g x = s0 ++ cat ((xs.take (k + 1)).map g) := by
  rw [List.take_add_one, h]
  simp only [Option.toList_some, List.map_append, List.map_cons, List.map_nil, cat_snoc]
  rw [ByteArray.append_assoc]
theorem cat_size {k : Nat} : ∀ (l : List ByteArray), (∀ x ∈ l, x.size ≤ k) → (cat l).size ≤ l.length * k := by
  intro l
  have key : ∀ (l : List ByteArray) (s : ByteArray), (∀ x ∈ l, x.size ≤ k) → (l.foldl (· ++ ·) s).size ≤ s.size + l.length * k := by
    intro l
    induction l with
    | nil => intro s _; simp
    | cons x l ih =>
      intro s h
      have h1 := h x (by simp)
      have h2 := ih (s ++ x) (fun y hy => h y (by simp [hy]))
      rw [ByteArray.size_append] at h2
      rw [List.foldl_cons, List.length_cons, Nat.add_mul, Nat.one_mul]
      omega
  intro h
  have := key l ⟨#[]⟩ h
  unfold cat
  have e : (⟨#[]⟩ : ByteArray).size = 0 := rfl
  omega

/-- A fact that is not too great. -/
def okF (f : FactT) : Prop := f.2.2.2.1.size < 1000000000 ∧ f.2.2.2.2.size < 1000000000
theorem txS_size (s : ByteArray) : (txS s).size ≤ s.size + 8 := by
  unfold txS
  split
  · exact Nat.zero_le _
  · rw [ByteArray.size_append]; have := numS_size s.size; omega
end Go.Proofs.Ytmhkalalcmkpbaa
