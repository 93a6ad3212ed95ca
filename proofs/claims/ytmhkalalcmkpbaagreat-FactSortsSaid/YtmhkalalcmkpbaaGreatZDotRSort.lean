/-
  DotRSort
-/
import Derived.Test.YtmhkalalcmkpbaaGreatZDotApp
import Derived.Test.YtmhkalalcmkpbaaGreatZDotMay
import Derived.Test.YtmhkalalcmkpbaaGreatZOrd
namespace Go.Proofs.YtmhkalalcmkpbaaGreat
open Go.RowKit
set_option linter.unusedVariables false
set_option linter.unusedSimpArgs false

theorem stoD : STO ltD where
  irrefl a := by unfold ltD; rw [decide_eq_false_iff_not]; omega
  trans a b c h1 h2 := by unfold ltD at *; rw [decide_eq_true_eq] at *; omega
  total a b h1 h2 := by
    unfold ltD at *; rw [decide_eq_false_iff_not] at *
    exact Prod.ext (by omega) (by omega)
theorem OwnD.form {w : World} {base : Nat} {v : Value} {l : List (Int × Int)} (h : OwnD w base v l) : ∃ A c, v = .slice A l.length c ∧ l.length ≤ c ∧ RdD w w.heap.size A l.length l := by
  rcases h.2 with ⟨hv, hx⟩ | ⟨g, cap, cur, hv, _, _, hnc, _⟩
  · have hl : l = [] := by
      cases l with
      | nil => rfl
      | cons a l => simp [encD] at hx
    subst hl
    exact ⟨none, 0, hv, by simp, Reads.none_⟩
  · refine ⟨some ⟨g, 0, none⟩, cap, hv, hnc, ?_⟩
    subst hv
    exact Reads.of_own h
theorem flat_take (l : List (Int × Int)) (k : Nat) : (l.take k).flatMap encD = (l.flatMap encD).take (k * 2) := by
  induction l generalizing k with
  | nil => simp
  | cons d l ih =>
    cases k with
    | zero => simp
    | succ k => rw [List.take_succ_cons, List.flatMap_cons, List.flatMap_cons, ih, show (k + 1) * 2 = k * 2 + 1 + 1 by omega]; simp [encD]
theorem flat_drop (l : List (Int × Int)) (k : Nat) : (l.drop k).flatMap encD = (l.flatMap encD).drop (k * 2) := by
  induction l generalizing k with
  | nil => simp
  | cons d l ih =>
    cases k with
    | zero => simp
    | succ k => rw [List.drop_succ_cons, List.flatMap_cons, ih, show (k + 1) * 2 = k * 2 + 1 + 1 by omega]; simp [encD]
theorem RdD.take {w : World} {B : Nat} {A : Option Addr} {n : Nat} {l : List (Int × Int)} (h : RdD w B A n l) {k : Nat} (hk : k ≤ n) : RdD w B A k (l.take k) := by
  have hl := h.len
  refine ⟨by rw [flat_length, List.length_take, Nat.min_eq_left (by omega)], fun h0 => ?_⟩
  obtain ⟨ad, e, hb, hc⟩ := h.2 (by omega)
  refine ⟨ad, e, hb, fun j u hj => hc j u ?_⟩
  rw [flat_take] at hj
  rw [List.getElem?_take] at hj
  split at hj
  · exact hj
  · cases hj
theorem RdD.drop {w : World} {B : Nat} {A : Option Addr} {n cap : Nat} {l : List (Int × Int)} (h : RdD w B A n l) {k : Nat} (hk : k ≤ n) (hc : n ≤ cap) : RdD w B (if cap = k then A else A.map (·.add (k * 2))) (n - k) (l.drop k) := by
  have := Reads.cut h hk hc
  show Reads _ _ _ _ _ _
  rw [flat_drop]; exact this
theorem RdD.drop2 {w : World} {B b off : Nat} {n cap : Nat} {l : List (Int × Int)} (h : RdD w B (some ⟨b, off, none⟩) n l) {k : Nat} (hk : k ≤ n) (hc : n ≤ cap) (hlt : k < cap) : RdD w B (some ⟨b, off + k * 2, none⟩) (n - k) (l.drop k) := by
  have := RdD.drop h hk hc
  rw [if_neg (by omega), Option.map_some, add_flat] at this
  exact this
/-- The first k are less than x. -/
def LessTo (l : List (Int × Int)) (x : Int × Int) (k : Nat) : Prop := ∀ j, j < k → ltD (l.getD j default) x = true
theorem less_take : ∀ (l : List (Int × Int)) (x : Int × Int) (k : Nat), k ≤ l.length → LessTo l x k → (k < l.length → ltD (l.getD k default) x = false) →
    l.takeWhile (fun y => ltD y x) = l.take k ∧ l.dropWhile (fun y => ltD y x) = l.drop k := by
  intro l
  induction l with
  | nil => intro x k hk _ _; simp
  | cons a l ih =>
    intro x k hk h1 h2
    cases k with
    | zero =>
      have := h2 (by simp)
      simp only [List.getD_cons_zero] at this
      simp [List.takeWhile_cons, List.dropWhile_cons, this]
    | succ k =>
      have h0 := h1 0 (by omega)
      simp only [List.getD_cons_zero] at h0
      have := ih x k (by simpa using hk) (fun j hj => by simpa using h1 (j + 1) (by omega)) (fun h => by simpa using h2 (by simpa using h))
      rw [List.takeWhile_cons, List.dropWhile_cons, if_pos h0, if_pos h0, this.1, this.2]
      simp
theorem ins_at {l : List (Int × Int)} {x : Int × Int} {k : Nat} (hx : x ∉ l) (hk : k ≤ l.length) (h1 : LessTo l x k) (h2 : k < l.length → ltD (l.getD k default) x = false) : insK ltD l x = l.take k ++ [x] ++ l.drop k := by
  have := less_take l x k hk h1 h2
  unfold insK; rw [if_neg hx, this.1, this.2]; simp
theorem flat_len (l : List (Int × Int)) : (l.flatMap encD).length = l.length * 2 := flat_length l
theorem enc1 (l : List (Int × Int)) : ∀ u ∈ l.flatMap encD, u.oneCell' = true := enc_one l

theorem own_dot {w : World} {base n : Nat} {v : Value} {l : List (Int × Int)} {xs : List Value} (hn : l.length = n) (hx : l.flatMap encD = xs) (h : w.ownsRow base 32 2 v n xs) : OwnD w base v l := by
  subst hn hx; exact h

end Go.Proofs.YtmhkalalcmkpbaaGreat
