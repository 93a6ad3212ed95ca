/-
  MayG FacB
-/
import Derived.Test.YtmhkalalcmkpbaaZDotPlain
import Derived.Test.YtmhkalalcmkpbaaZFacP
import Derived.Test.YtmhkalalcmkpbaaZOrd
import Derived.Test.YtmhkalalcmkpbaaZWireText
namespace Go.Proofs.Ytmhkalalcmkpbaa
set_option linter.unusedVariables false
section
variable {α : Type}
def chkAll (chk : α → Int) : List α → Int
  | [] => 0
  | x :: l => if chk x ≠ 0 then chk x else chkAll chk l
def risesG (lt : α → α → Bool) : List α → Bool
  | x :: y :: l => lt x y && risesG lt (y :: l)
  | _ => true
def mayG (chk : α → Int) (lt : α → α → Bool) (l : List α) : Int := if chkAll chk l ≠ 0 then chkAll chk l else if risesG lt l = true then 0 else 5

theorem chkAll_stop {chk : α → Int} : ∀ {l : List α} {i : Nat} {x : α}, (∀ j y, j < i → l[j]? = some y → chk y = 0) → l[i]? = some x → chk x ≠ 0 → chkAll chk l = chk x
  | [], i, x, _, h, _ => by simp at h
  | y :: l, 0, x, _, h, hx => by
    obtain rfl : y = x := by simpa using h
    simp [chkAll, hx]
  | y :: l, i + 1, x, h0, h, hx => by
    have h1 := h0 0 y (by omega) rfl
    simp only [chkAll, h1, ne_eq, not_true, if_false]
    exact chkAll_stop (i := i) (fun j z hj hz => h0 (j + 1) z (by omega) (by simpa using hz)) (by simpa using h) hx
theorem chkAll_zero {chk : α → Int} : ∀ {l : List α}, (∀ (j : Nat) y, l[j]? = some y → chk y = 0) → chkAll chk l = 0
  | [], _ => rfl
  | y :: l, h => by
    simp only [chkAll, h 0 y rfl, ne_eq, not_true, if_false]
    exact chkAll_zero fun j z hz => h (j + 1) z (by simpa using hz)
theorem rises_iff {lt : α → α → Bool} : ∀ {l : List α}, risesG lt l = true ↔ ∀ (j : Nat) x y, l[j]? = some x → l[j + 1]? = some y → lt x y = true
  | [] => by simp [risesG]
  | [x] => by simp [risesG]
  | x :: y :: l => by
    simp only [risesG, Bool.and_eq_true]
    rw [rises_iff (l := y :: l)]
    constructor
    · rintro ⟨h1, h2⟩ j a b ha hb
      cases j with
      | zero => simp at ha hb; subst ha hb; exact h1
      | succ j => exact h2 j a b (by simpa using ha) (by simpa using hb)
    · intro h
      exact ⟨h 0 x y rfl rfl, fun j a b ha hb => h (j + 1) a b (by simpa using ha) (by simpa using hb)⟩
theorem may_chk {chk : α → Int} {lt : α → α → Bool} {l : List α} {i : Nat} {x : α} (h0 : ∀ j y, j < i → l[j]? = some y → chk y = 0) (h : l[i]? = some x) (hx : chk x ≠ 0) : mayG chk lt l = chk x := by
  unfold mayG
  rw [chkAll_stop h0 h hx, if_pos hx]
theorem may_form {chk : α → Int} {lt : α → α → Bool} {l : List α} {i : Nat} {x y : α} (h0 : ∀ (j : Nat) y, l[j]? = some y → chk y = 0) (hx : l[i]? = some x) (hy : l[i + 1]? = some y) (hl : lt x y = false) : mayG chk lt l = 5 := by
  unfold mayG
  rw [chkAll_zero h0, if_neg (by simp), if_neg]
  intro h
  have := rises_iff.1 h i x y hx hy
  rw [hl] at this; cases this
theorem may_ok {chk : α → Int} {lt : α → α → Bool} {l : List α} (h0 : ∀ (j : Nat) y, l[j]? = some y → chk y = 0) (h1 : ∀ (j : Nat) x y, l[j]? = some x → l[j + 1]? = some y → lt x y = true) : mayG chk lt l = 0 := by
  unfold mayG
  rw [chkAll_zero h0, if_neg (by simp), if_pos (rises_iff.2 h1)]
end
end Go.Proofs.Ytmhkalalcmkpbaa

namespace Go.Proofs.Ytmhkalalcmkpbaa
open Go.RowKit
set_option linter.unusedVariables false

/-- Strings, one behind the other. -/
def cat (l : List ByteArray) : ByteArray := l.foldl (· ++ ·) ⟨#[]⟩
theorem cat_snoc (l : List ByteArray) (x : ByteArray) : cat (l ++ [x]) = cat l ++ x := by unfold cat; rw [List.foldl_append]; rfl
theorem cat_nil : cat [] = ⟨#[]⟩ := rfl
theorem app_nil (s : ByteArray) : s ++ (⟨#[]⟩ : ByteArray) = s := ba_ext (by simp)
theorem nil_app (s : ByteArray) : (⟨#[]⟩ : ByteArray) ++ s = s := ba_ext (by simp)
theorem cat_data_from (l : List ByteArray) : ∀ s : ByteArray, (l.foldl (· ++ ·) s).data.toList = s.data.toList ++ l.flatMap (·.data.toList) := by
  induction l with
  | nil => intro s; simp
  | cons x l ih => intro s; rw [List.foldl_cons, ih, app_data, List.flatMap_cons, List.append_assoc]
theorem cat_data (l : List ByteArray) : (cat l).data.toList = l.flatMap (·.data.toList) := by unfold cat; rw [cat_data_from]; rfl
theorem cat_take {α : Type} (g : α → ByteArray) {xs : List α} {k : Nat} {x : α} (h : xs[k]? = some x) (s0 : ByteArray) : s0 ++ cat ((xs.take k).map g) ++ g x = s0 ++ cat ((xs.take (k + 1)).map g) := by
  rw [List.take_add_one, h]
  simp only [Option.toList_some, List.map_append, List.map_cons, List.map_nil, cat_snoc]
  rw [ByteArray.append_assoc]
theorem cat_size {k : Nat} : ∀ (l : List ByteArray), (∀ x ∈ l, x.size ≤ k) → (cat l).size ≤ l.length * k := by
  intro l
  have key : ∀ (l : List ByteArray) (s : ByteArray), (∀ x ∈ l, x.size ≤ k) → (l.foldl (· ++ ·) s).size ≤ s.size + l.length * k := by
    intro l
    induction l with
    | nil => intro s _; simp
    | cons x l ih =>
      intro s h
      have h1 := h x (by simp)
      have h2 := ih (s ++ x) (fun y hy => h y (by simp [hy]))
      rw [ByteArray.size_append] at h2
      rw [List.foldl_cons, List.length_cons, Nat.add_mul, Nat.one_mul]
      omega
  intro h
  have := key l ⟨#[]⟩ h
  unfold cat
  have e : (⟨#[]⟩ : ByteArray).size = 0 := rfl
  omega

def numsF (f : FactT) : List Int := [f.1.1, f.1.2, f.2.1.1, f.2.1.2.1, f.2.2.1]
def txsF (f : FactT) : List ByteArray := [f.2.2.2.1, f.2.2.2.2]
def factB (f : FactT) : ByteArray := cat ((numsF f).map numS) ++ cat ((txsF f).map txS)
def factsB (l : List FactT) : ByteArray := cat (l.map factB)
def fputE (l : List FactT) : Int := if 4096 < l.length then 3 else mayG chkF ltF l
def fputS (l : List FactT) : ByteArray := if fputE l ≠ 0 then ⟨#[]⟩ else numS l.length ++ factsB l
/-- A fact that is not too great. -/
def okF (f : FactT) : Prop := f.2.2.2.1.size < 1000000000 ∧ f.2.2.2.2.size < 1000000000
theorem txS_size (s : ByteArray) : (txS s).size ≤ s.size + 8 := by
  unfold txS
  split
  · exact Nat.zero_le _
  · rw [ByteArray.size_append]; have := numS_size s.size; omega
theorem nums_size (f : FactT) (k : Nat) : (cat (((numsF f).take k).map numS)).size ≤ 40 := by
  have h := cat_size (k := 8) (((numsF f).take k).map numS) (fun x hx => by
    obtain ⟨n, _, rfl⟩ := List.mem_map.1 hx; exact numS_size n)
  have : (((numsF f).take k).map numS).length ≤ 5 := by simp [numsF]; omega
  omega
theorem txs_size (f : FactT) (hf : okF f) (k : Nat) : (cat (((txsF f).take k).map txS)).size ≤ 2000000016 := by
  have h := cat_size (k := 1000000008) (((txsF f).take k).map txS) (fun x hx => by
    obtain ⟨s, hs, rfl⟩ := List.mem_map.1 hx
    have h1 := txS_size s
    have h2 : s ∈ txsF f := List.mem_of_mem_take hs
    simp only [txsF, List.mem_cons, List.not_mem_nil, or_false] at h2
    rcases h2 with rfl | rfl
    · have := hf.1; omega
    · have := hf.2; omega)
  have : (((txsF f).take k).map txS).length ≤ 2 := by simp [txsF]; omega
  omega
theorem factB_size (f : FactT) (hf : okF f) : (factB f).size ≤ 2000000056 := by
  have h1 := nums_size f 5
  have h2 := txs_size f hf 2
  have e1 : (numsF f).take 5 = numsF f := rfl
  have e2 : (txsF f).take 2 = txsF f := rfl
  rw [e1] at h1; rw [e2] at h2
  unfold factB
  rw [ByteArray.size_append]; omega
theorem factsB_size (l : List FactT) (h : ∀ f ∈ l, okF f) (hn : l.length ≤ 4096) : (factsB l).size ≤ 8192000229376 := by
  have := cat_size (k := 2000000056) (l.map factB) (fun x hx => by
    obtain ⟨f, hf, rfl⟩ := List.mem_map.1 hx; exact factB_size f (h f hf))
  rw [List.length_map] at this
  unfold factsB
  have : l.length * 2000000056 ≤ 4096 * 2000000056 := Nat.mul_le_mul_right _ hn
  omega
theorem fputE_long {l : List FactT} (h : 4096 < l.length) : fputE l = 3 := if_pos h
theorem fputE_may {l : List FactT} (h : ¬ 4096 < l.length) : fputE l = mayG chkF ltF l := if_neg h
theorem fputS_err {l : List FactT} (h : fputE l ≠ 0) : fputS l = ⟨#[]⟩ := if_pos h
theorem fputS_ok {l : List FactT} (h : fputE l = 0) : fputS l = numS l.length ++ factsB l := if_neg (by simpa using h)
end Go.Proofs.Ytmhkalalcmkpbaa
