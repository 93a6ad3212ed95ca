/-
  BTD Del1
-/
import Derived.Test.YtmhkalalcmkpbaaZBT2
import Derived.Test.YtmhkalalcmkpbaaZC7
import Derived.Test.YtmhkalalcmkpbaaZDw
import Derived.Test.YtmhkalalcmkpbaaZLfoB
namespace Go.Proofs.Ytmhkalalcmkpbaa
open Go
end Go.Proofs.Ytmhkalalcmkpbaa

namespace Go.Proofs.Ytmhkalalcmkpbaa
open Go Go.RowKit
set_option linter.unusedVariables false
set_option linter.unusedSimpArgs false

/-- An update that is not so great that counting fails. -/
structure OkD (d : DeltaT) : Prop where
  nf : d.2.2.1.length < 1000000
  ng : d.2.2.2.length < 1000000
  of : ∀ f ∈ d.2.2.1, okF f

section
variable {α : Type} [DecidableEq α]
def idxG (l : List α) (x : α) : Int := if x ∈ l then (l.idxOf x : Int) else -1
theorem idxG_at {l : List α} {x : α} {i : Nat} {d : α} (h0 : ∀ (j : Nat) y, j < i → l[j]? = some y → y ≠ x) (h : l[i]? = some d) (e : x = d) : idxG l x = (i : Int) := by
  subst e
  have hm : x ∈ l := List.mem_of_getElem? h
  unfold idxG
  rw [if_pos hm]
  have hi : i < l.length := (List.getElem?_eq_some_iff.1 h).1
  have h1 : l.idxOf x < l.length := List.idxOf_lt_length_of_mem hm
  have h2 : l[l.idxOf x] = x := List.getElem_idxOf h1
  have h3 : ¬ l.idxOf x < i := fun g => h0 _ _ g (List.getElem?_eq_getElem h1) h2
  have h4 : l.idxOf x ≤ i := by
    rcases Nat.lt_or_ge i (l.idxOf x) with g | g
    · exfalso
      have := List.not_of_lt_findIdx (p := (· == x)) (xs := l) (i := i) g
      rw [(List.getElem?_eq_some_iff.1 h).2] at this
      simp at this
    · exact g
  omega
theorem idxG_none {l : List α} {x : α} (h0 : ∀ (j : Nat) y, l[j]? = some y → y ≠ x) : idxG l x = -1 := by
  unfold idxG
  rw [if_neg]
  intro hm
  obtain ⟨j, hj⟩ := List.mem_iff_getElem?.1 hm
  exact h0 j x hj rfl
theorem idxG_mem (l : List α) (x : α) [Decidable (x ∈ l)] : decide (0 ≤ idxG l x) = decide (x ∈ l) := by
  unfold idxG
  by_cases h : x ∈ l
  · rw [if_pos h, decide_eq_true h]; exact decide_eq_true (by omega)
  · rw [if_neg h, decide_eq_false h]; rfl
end

set_option maxRecDepth 100000 in
theorem dindex_p (l : List (Int × Int)) (x : (Int × Int)) (hn : l.length < 1000000) : PFn Try.prog False 137 [slD l, dA x] (iA (idxG l x)) := by
  refine pfn Try.func137 rfl (by kernel_rfl) 19 rfl _ rfl (Nat.le_of_ble_eq_true rfl) (fun X w0 => ?_)
  refine wSeq ?_
  refine wReg ?_
  refine sBox rfl rfl rfl rfl rfl (fun g3 => ?_)
  refine sP rfl rfl rfl (pA rfl rfl) ?_
  refine lNil ?_
  refine wSeq ?_
  refine wSeq ?_
  refine wReg ?_
  refine sP rfl rfl rfl (pMs rfl rfl) ?_
  refine sP rfl rfl rfl (p_len_sl rfl rfl Try.underlying27) ?_
  refine sP rfl rfl rfl (pM rfl rfl) ?_
  refine lNil ?_
  refine wBlock ?_
  refine wLoop (fun mm L h => ∃ i, mm = l.length - i ∧ i ≤ l.length ∧ (∀ (j : Nat) y, j < i → l[j]? = some y → y ≠ x) ∧ L = [(0, slD l), (3, .x (.pointer (some ⟨g3, 0, none⟩))), (7, iA l.length), (8, iA (i : Nat))] ∧ h = [.cells g3 23 (encA x)]) ⟨_, _, _, _, ⟨0, rfl, Nat.zero_le _, fun j y hj => absurd hj (by omega), rfl, rfl⟩, ⟨rfl, rfl, rfl, rfl, trivial⟩, rfl⟩ ?_
  rintro mm L h ⟨i, rfl, hi, h0, rfl, rfl⟩
  refine wSeq ?_
  refine wReg ?_
  refine sP rfl rfl rfl (p_icmp rfl rfl rfl rfl) ?_
  refine lNil ?_
  refine wSeq ?_
  refine wCond rfl (fun hc1 => ?_) (fun hc1 => ?_)
  · have hlt : i < l.length := by simpa using hc1
    obtain ⟨d, hd⟩ := getL hlt
    refine wSkip ?_
    refine wSeq ?_
    refine wBlock ?_
    refine wSeq ?_
    refine wReg ?_
    refine sP rfl rfl rfl (pM rfl rfl) ?_
    refine sP rfl rfl rfl (pA rfl rfl) ?_
    refine lNil ?_
    refine wSeq ?_
    refine wDraw 6 (by kernel_rfl) (by kernel_rfl) ?_
    refine sP rfl rfl rfl (pLdW 0 rfl rfl rfl ty23 rfl) ?_
    refine sP rfl rfl rfl (pMs rfl rfl) ?_
    refine sP rfl rfl rfl (pM rfl rfl) ?_
    refine sP rfl rfl rfl (pIdx i rfl rfl Try.underlying27 ty23 (by decide) rfl (fun _ => rfl) rfl rfl hd) ?_
    refine sP rfl rfl rfl (pLdE rfl rfl ty23 rfl) ?_
    refine sP rfl rfl rfl (p_eqs rfl rfl rfl rfl rfl guardD (fun w => eqD 9998 w x d)) ?_
    refine lTail ?_
    refine lNil ?_
    refine wCond rfl (fun hc2 => ?_) (fun hc2 => ?_)
    · refine wSeq ?_
      refine wReg ?_
      refine sP rfl rfl rfl (pM rfl rfl) ?_
      refine sP rfl rfl rfl (pA rfl rfl) ?_
      refine lNil ?_
      refine wRet ?_
      have he : x = d := by simpa using hc2
      exact rgs1 (rg_tmp (gives_sub (Sub.of_eq (avI (idxG_at h0 hd he).symm))))
    · refine wSkip ?_
      refine wReg ?_
      refine sP rfl rfl rfl (p_iar rfl rfl rfl rfl) ?_
      refine sP rfl rfl rfl (pM rfl rfl) ?_
      refine lNil ?_
      have he : x ≠ d := by simpa using hc2
      refine ⟨_, _, [.cells g3 23 (encA x)], _, ?_, ⟨i + 1, rfl, hlt, fun j y hj hy => ?_, rfl, rfl⟩, ⟨rfl, rfl, rfl, avI (wrapI (by omega) (by omega)), trivial⟩, rfl⟩
      · omega
      · rcases Nat.lt_or_ge j i with h | h
        · exact h0 j y h hy
        · obtain rfl : j = i := by omega
          rw [hd] at hy; injection hy with hy; rw [← hy]; exact fun e => he e.symm
  · have hge : i = l.length := by
      have h : ¬ i < l.length := by simpa using hc1
      omega
    subst hge
    replace h0 : ∀ (j : Nat) y, l[j]? = some y → y ≠ x := fun j y hy => h0 j y (List.getElem?_eq_some_iff.1 hy).1 hy
    refine wExit ?_
    refine wSeq ?_
    refine wReg ?_
    refine sP rfl rfl rfl (pA rfl rfl) ?_
    refine lNil ?_
    refine wRet ?_
    exact rgs1 (rg_tmp (gives_sub (Sub.of_eq (avI (idxG_none h0).symm))))
set_option maxRecDepth 100000 in
theorem dcontains_p (l : List (Int × Int)) (x : Int × Int) (hn : l.length < 1000000) : PFn Try.prog False 100 [slD l, dA x] (bA (decide (x ∈ l))) := by
  refine pfn Try.func100 rfl (by kernel_rfl) 9 rfl _ rfl (Nat.le_of_ble_eq_true rfl) (fun X w0 => ?_)
  refine wSeq ?_
  refine wReg ?_
  refine sBox rfl rfl rfl rfl rfl (fun g3 => ?_)
  refine sP rfl rfl rfl (pA rfl rfl) ?_
  refine lNil ?_
  refine wSeq ?_
  refine wReg ?_
  refine sP rfl rfl rfl (pMs rfl rfl) ?_
  refine sP rfl rfl rfl (pLdW 0 rfl rfl rfl ty23 rfl) ?_
  refine sP rfl rfl rfl (p_call rfl (dindex_p l x hn) ⟨Sub.refl, Sub.refl, trivial⟩) ?_
  refine sP rfl rfl rfl (p_icmp rfl rfl rfl rfl) ?_
  refine sP rfl rfl rfl (pA rfl rfl) ?_
  refine lNil ?_
  refine wRet ?_
  exact rgs1 (rg_tmp (gives_sub (Sub.of_eq (avB (idxG_mem l x)))))

def prevLess {α : Type} (lt : α → α → Bool) (l : List α) (i : Nat) (f : α) : Bool := match l[i - 1]? with | some c => lt c f | none => false
def badP {α : Type} (lt : α → α → Bool) (l : List α) (i : Nat) (f : α) : Bool := decide (0 < i) && !prevLess lt l i f
/-- What rises so far, and one more. -/
def RiseTo {α : Type} (lt : α → α → Bool) (l : List α) (i : Nat) : Prop := ∀ (j : Nat) x y, j + 1 < i → l[j]? = some x → l[j + 1]? = some y → lt x y = true
theorem RiseTo.zero {α : Type} {lt : α → α → Bool} {l : List α} : RiseTo lt l 0 := fun j _ _ hj => absurd hj (by omega)
theorem RiseTo.next {α : Type} {lt : α → α → Bool} {l : List α} {i : Nat} {f : α} (h : RiseTo lt l i) (hf : l[i]? = some f) (hb : badP lt l i f = false) : RiseTo lt l (i + 1) := fun j x y hj hx hy => by
  rcases Nat.lt_or_ge (j + 1) i with g | g
  · exact h j x y g hx hy
  · obtain rfl : i = j + 1 := by omega
    rw [hf] at hy; injection hy with hy; subst hy
    unfold badP prevLess at hb
    rw [show j + 1 - 1 = j by omega, hx] at hb
    simpa using hb
theorem RiseTo.all {α : Type} {lt : α → α → Bool} {l : List α} (h : RiseTo lt l l.length) : risesG lt l = true := rises_iff.2 fun j x y hx hy => h j x y (List.getElem?_eq_some_iff.1 hy).1 hx hy
end Go.Proofs.Ytmhkalalcmkpbaa
