/-
  BTD Del1
-/
import Derived.Test.YtmhkalalcmkpbaaZBT2
import Derived.Test.YtmhkalalcmkpbaaZC7
import Derived.Test.YtmhkalalcmkpbaaZDw
import Derived.Test.YtmhkalalcmkpbaaZLfoB
namespace Go.Proofs.Ytmhkalalcmkpbaa
open Go
theorem ty29 : tyOf Try.prog 29 = some (true, 7) := by kernel_rfl
theorem ze29 : tyZero Try.prog 29 = some [.int .i64 0, .int .i64 0, .int .i64 0, .int .i64 0, .int .i64 0, .slice none 0 0, .slice none 0 0] := by kernel_rfl
theorem ro29 : rowOf Try.prog 29 = some (7, 88) := by kernel_rfl
theorem fl29_0 : tyField Try.prog 29 0 = some (0, 23) := by kernel_rfl
theorem fl29_1 : tyField Try.prog 29 1 = some (2, 25) := by kernel_rfl
theorem fl29_2 : tyField Try.prog 29 2 = some (5, 26) := by kernel_rfl
theorem fl29_3 : tyField Try.prog 29 3 = some (6, 27) := by kernel_rfl
theorem pl29 : stPlaces Try.prog 29 = some [(0, 2), (2, 3), (5, 1), (6, 1)] := by kernel_rfl
theorem ty121 : tyOf Try.prog 121 = some (true, 2) := by kernel_rfl
theorem ze121 : tyZero Try.prog 121 = some [.pointer none, .int .i64 0] := by kernel_rfl
theorem ro121 : rowOf Try.prog 121 = some (2, 16) := by kernel_rfl
theorem fl121_0 : tyField Try.prog 121 0 = some (0, 118) := by kernel_rfl
theorem fl121_1 : tyField Try.prog 121 1 = some (1, 32) := by kernel_rfl
theorem pl121 : stPlaces Try.prog 121 = some [(0, 1), (1, 1)] := by kernel_rfl
theorem ty118 : tyOf Try.prog 118 = some (false, 1) := by kernel_rfl
theorem ze118 : tyZero Try.prog 118 = some [.pointer none] := by kernel_rfl
theorem ro118 : rowOf Try.prog 118 = some (1, 8) := by kernel_rfl
theorem ty100 : tyOf Try.prog 100 = some (true, 4) := by kernel_rfl
theorem ze100 : tyZero Try.prog 100 = some [.int .i64 0, .int .i64 0, .int .i64 0, .int .i64 0] := by kernel_rfl
theorem ro100 : rowOf Try.prog 100 = some (4, 32) := by kernel_rfl
end Go.Proofs.Ytmhkalalcmkpbaa

namespace Go.Proofs.Ytmhkalalcmkpbaa
open Go Go.RowKit
set_option linter.unusedVariables false
set_option linter.unusedSimpArgs false

def encDl (d : DeltaT) : List AV := [iA d.1.1, iA d.1.2, iA d.2.1.1, iA d.2.1.2.1, iA d.2.1.2.2, slF d.2.2.1, slD d.2.2.2]
abbrev dlA (d : DeltaT) : AV := .agg (encDl d)
/-- An update that is not so great that counting fails. -/
structure OkD (d : DeltaT) : Prop where
  nf : d.2.2.1.length < 1000000
  ng : d.2.2.2.length < 1000000
  of : ∀ f ∈ d.2.2.1, okF f

theorem eqD_t {d : Nat} {w : World} {a b : Int × Int} (h : a = b) : (Op.equalIn (d + 2) 23 (.agg #[.int .i64 a.1, .int .i64 a.2]) (.agg #[.int .i64 b.1, .int .i64 b.2])).run Try.prog w = .ok true w := by rw [eqD, decide_eq_true h]
theorem eqD_f {d : Nat} {w : World} {a b : Int × Int} (h : a ≠ b) : (Op.equalIn (d + 2) 23 (.agg #[.int .i64 a.1, .int .i64 a.2]) (.agg #[.int .i64 b.1, .int .i64 b.2])).run Try.prog w = .ok false w := by rw [eqD, decide_eq_false h]
theorem eqW_t {d : Nat} {w : World} {a b : Int × Int × Int} (h : a = b) : (Op.equalIn (d + 2) 25 (.agg #[.int .i64 a.1, .int .i64 a.2.1, .int .i64 a.2.2]) (.agg #[.int .i64 b.1, .int .i64 b.2.1, .int .i64 b.2.2])).run Try.prog w = .ok true w := by rw [eqW, decide_eq_true h]
theorem eqW_f {d : Nat} {w : World} {a b : Int × Int × Int} (h : a ≠ b) : (Op.equalIn (d + 2) 25 (.agg #[.int .i64 a.1, .int .i64 a.2.1, .int .i64 a.2.2]) (.agg #[.int .i64 b.1, .int .i64 b.2.1, .int .i64 b.2.2])).run Try.prog w = .ok false w := by rw [eqW, decide_eq_false h]
theorem gtr_t {a b : Int} (h : b < a) : icmp .gtr a b = some true := congrArg some (decide_eq_true h)
theorem gtr_f {a b : Int} (h : ¬ b < a) : icmp .gtr a b = some false := congrArg some (decide_eq_false h)
theorem dless_is {x y : Int × Int} {b : Bool} (h : ltD x y = b) : PFn Try.prog False 79 [dA x, dA y] (bA b) := h ▸ dless_p x y

section
variable {α : Type} [DecidableEq α]
def idxG (l : List α) (x : α) : Int := if x ∈ l then (l.idxOf x : Int) else -1
theorem idxG_at {l : List α} {x : α} {i : Nat} {d : α} (h0 : ∀ (j : Nat) y, j < i → l[j]? = some y → y ≠ x) (h : l[i]? = some d) (e : x = d) : idxG l x = (i : Int) := by
  subst e
  have hm : x ∈ l := List.mem_of_getElem? h
  unfold idxG
  rw [if_pos hm]
  have hi : i < l.length := (List.getElem?_eq_some_iff.1 h).1
  have h1 : l.idxOf x < l.length := List.idxOf_lt_length_of_mem hm
  have h2 : l[l.idxOf x] = x := List.getElem_idxOf h1
  have h3 : ¬ l.idxOf x < i := fun g => h0 _ _ g (List.getElem?_eq_getElem h1) h2
  have h4 : l.idxOf x ≤ i := by
    rcases Nat.lt_or_ge i (l.idxOf x) with g | g
    · exfalso
      have := List.not_of_lt_findIdx (p := (· == x)) (xs := l) (i := i) g
      rw [(List.getElem?_eq_some_iff.1 h).2] at this
      simp at this
    · exact g
  omega
theorem idxG_none {l : List α} {x : α} (h0 : ∀ (j : Nat) y, l[j]? = some y → y ≠ x) : idxG l x = -1 := by
  unfold idxG
  rw [if_neg]
  intro hm
  obtain ⟨j, hj⟩ := List.mem_iff_getElem?.1 hm
  exact h0 j x hj rfl
theorem idxG_mem (l : List α) (x : α) [Decidable (x ∈ l)] : decide (0 ≤ idxG l x) = decide (x ∈ l) := by
  unfold idxG
  by_cases h : x ∈ l
  · rw [if_pos h, decide_eq_true h]; exact decide_eq_true (by omega)
  · rw [if_neg h, decide_eq_false h]; rfl
end

set_option maxRecDepth 100000 in
theorem dindex_p (l : List (Int × Int)) (x : (Int × Int)) (hn : l.length < 1000000) : PFn Try.prog False 137 [slD l, dA x] (iA (idxG l x)) := by
  refine pfn Try.func137 rfl (by kernel_rfl) 19 rfl _ rfl (Nat.le_of_ble_eq_true rfl) (fun X w0 => ?_)
  refine wSeq ?_
  refine wReg ?_
  refine sBox rfl rfl rfl rfl rfl (fun g3 => ?_)
  refine sP rfl rfl rfl (pA rfl rfl) ?_
  refine lNil ?_
  refine wSeq ?_
  refine wSeq ?_
  refine wReg ?_
  refine sP rfl rfl rfl (pMs rfl rfl) ?_
  refine sP rfl rfl rfl (p_len_sl rfl rfl Try.underlying27) ?_
  refine sP rfl rfl rfl (pM rfl rfl) ?_
  refine lNil ?_
  refine wBlock ?_
  refine wLoop (fun mm L h => ∃ i, mm = l.length - i ∧ i ≤ l.length ∧ (∀ (j : Nat) y, j < i → l[j]? = some y → y ≠ x) ∧ L = [(0, slD l), (3, .x (.pointer (some ⟨g3, 0, none⟩))), (7, iA l.length), (8, iA (i : Nat))] ∧ h = [.cells g3 23 (encA x)]) ⟨_, _, _, _, ⟨0, rfl, Nat.zero_le _, fun j y hj => absurd hj (by omega), rfl, rfl⟩, ⟨rfl, rfl, rfl, rfl, trivial⟩, rfl⟩ ?_
  rintro mm L h ⟨i, rfl, hi, h0, rfl, rfl⟩
  refine wSeq ?_
  refine wReg ?_
  refine sP rfl rfl rfl (p_icmp rfl rfl rfl rfl) ?_
  refine lNil ?_
  refine wSeq ?_
  refine wCond rfl (fun hc1 => ?_) (fun hc1 => ?_)
  · have hlt : i < l.length := by simpa using hc1
    obtain ⟨d, hd⟩ := getL hlt
    refine wSkip ?_
    refine wSeq ?_
    refine wBlock ?_
    refine wSeq ?_
    refine wReg ?_
    refine sP rfl rfl rfl (pM rfl rfl) ?_
    refine sP rfl rfl rfl (pA rfl rfl) ?_
    refine lNil ?_
    refine wSeq ?_
    refine wDraw 6 (by kernel_rfl) (by kernel_rfl) ?_
    refine sP rfl rfl rfl (pLdW 0 rfl rfl rfl ty23 rfl) ?_
    refine sP rfl rfl rfl (pMs rfl rfl) ?_
    refine sP rfl rfl rfl (pM rfl rfl) ?_
    refine sP rfl rfl rfl (pIdx i rfl rfl Try.underlying27 ty23 (by decide) rfl (fun _ => rfl) rfl rfl hd) ?_
    refine sP rfl rfl rfl (pLdE rfl rfl ty23 rfl) ?_
    refine sP rfl rfl rfl (p_eqs rfl rfl rfl rfl rfl guardD (fun w => eqD 9998 w x d)) ?_
    refine lTail ?_
    refine lNil ?_
    refine wCond rfl (fun hc2 => ?_) (fun hc2 => ?_)
    · refine wSeq ?_
      refine wReg ?_
      refine sP rfl rfl rfl (pM rfl rfl) ?_
      refine sP rfl rfl rfl (pA rfl rfl) ?_
      refine lNil ?_
      refine wRet ?_
      have he : x = d := by simpa using hc2
      exact rgs1 (rg_tmp (gives_sub (Sub.of_eq (avI (idxG_at h0 hd he).symm))))
    · refine wSkip ?_
      refine wReg ?_
      refine sP rfl rfl rfl (p_iar rfl rfl rfl rfl) ?_
      refine sP rfl rfl rfl (pM rfl rfl) ?_
      refine lNil ?_
      have he : x ≠ d := by simpa using hc2
      refine ⟨_, _, [.cells g3 23 (encA x)], _, ?_, ⟨i + 1, rfl, hlt, fun j y hj hy => ?_, rfl, rfl⟩, ⟨rfl, rfl, rfl, avI (wrapI (by omega) (by omega)), trivial⟩, rfl⟩
      · omega
      · rcases Nat.lt_or_ge j i with h | h
        · exact h0 j y h hy
        · obtain rfl : j = i := by omega
          rw [hd] at hy; injection hy with hy; rw [← hy]; exact fun e => he e.symm
  · have hge : i = l.length := by
      have h : ¬ i < l.length := by simpa using hc1
      omega
    subst hge
    replace h0 : ∀ (j : Nat) y, l[j]? = some y → y ≠ x := fun j y hy => h0 j y (List.getElem?_eq_some_iff.1 hy).1 hy
    refine wExit ?_
    refine wSeq ?_
    refine wReg ?_
    refine sP rfl rfl rfl (pA rfl rfl) ?_
    refine lNil ?_
    refine wRet ?_
    exact rgs1 (rg_tmp (gives_sub (Sub.of_eq (avI (idxG_none h0).symm))))
set_option maxRecDepth 100000 in
theorem dcontains_p (l : List (Int × Int)) (x : Int × Int) (hn : l.length < 1000000) : PFn Try.prog False 100 [slD l, dA x] (bA (decide (x ∈ l))) := by
  refine pfn Try.func100 rfl (by kernel_rfl) 9 rfl _ rfl (Nat.le_of_ble_eq_true rfl) (fun X w0 => ?_)
  refine wSeq ?_
  refine wReg ?_
  refine sBox rfl rfl rfl rfl rfl (fun g3 => ?_)
  refine sP rfl rfl rfl (pA rfl rfl) ?_
  refine lNil ?_
  refine wSeq ?_
  refine wReg ?_
  refine sP rfl rfl rfl (pMs rfl rfl) ?_
  refine sP rfl rfl rfl (pLdW 0 rfl rfl rfl ty23 rfl) ?_
  refine sP rfl rfl rfl (p_call rfl (dindex_p l x hn) ⟨Sub.refl, Sub.refl, trivial⟩) ?_
  refine sP rfl rfl rfl (p_icmp rfl rfl rfl rfl) ?_
  refine sP rfl rfl rfl (pA rfl rfl) ?_
  refine lNil ?_
  refine wRet ?_
  exact rgs1 (rg_tmp (gives_sub (Sub.of_eq (avB (idxG_mem l x)))))

def prevLess {α : Type} (lt : α → α → Bool) (l : List α) (i : Nat) (f : α) : Bool := match l[i - 1]? with | some c => lt c f | none => false
theorem prevLess_eq {α : Type} {lt : α → α → Bool} {l : List α} {i : Nat} {f c : α} (h : l[i - 1]? = some c) : prevLess lt l i f = lt c f := by unfold prevLess; rw [h]
def badP {α : Type} (lt : α → α → Bool) (l : List α) (i : Nat) (f : α) : Bool := decide (0 < i) && !prevLess lt l i f
theorem badP_cases {α : Type} (lt : α → α → Bool) {l : List α} {i : Nat} {f : α} (hi : i < l.length) : (¬ (0 : Int) < (i : Nat) ∧ badP lt l i f = false) ∨ ((0 : Int) < (i : Nat) ∧ ∃ c, l[i - 1]? = some c ∧ lt c f = true ∧ badP lt l i f = false) ∨ ((0 : Int) < (i : Nat) ∧ ∃ c, l[i - 1]? = some c ∧ lt c f = false ∧ badP lt l i f = true) := by
  rcases Nat.eq_zero_or_pos i with h | h
  · subst h; exact .inl ⟨by simp, rfl⟩
  · obtain ⟨c, hc⟩ := getL (l := l) (i := i - 1) (by omega)
    cases hl : lt c f with
    | true => exact .inr (.inl ⟨by omega, c, hc, hl, by unfold badP; rw [prevLess_eq hc, hl]; simp⟩)
    | false => exact .inr (.inr ⟨by omega, c, hc, hl, by unfold badP; rw [prevLess_eq hc, hl]; simpa using h⟩)
/-- What rises so far, and one more. -/
def RiseTo {α : Type} (lt : α → α → Bool) (l : List α) (i : Nat) : Prop := ∀ (j : Nat) x y, j + 1 < i → l[j]? = some x → l[j + 1]? = some y → lt x y = true
theorem RiseTo.zero {α : Type} {lt : α → α → Bool} {l : List α} : RiseTo lt l 0 := fun j _ _ hj => absurd hj (by omega)
theorem RiseTo.next {α : Type} {lt : α → α → Bool} {l : List α} {i : Nat} {f : α} (h : RiseTo lt l i) (hf : l[i]? = some f) (hb : badP lt l i f = false) : RiseTo lt l (i + 1) := fun j x y hj hx hy => by
  rcases Nat.lt_or_ge (j + 1) i with g | g
  · exact h j x y g hx hy
  · obtain rfl : i = j + 1 := by omega
    rw [hf] at hy; injection hy with hy; subst hy
    unfold badP prevLess at hb
    rw [show j + 1 - 1 = j by omega, hx] at hb
    simpa using hb
theorem RiseTo.all {α : Type} {lt : α → α → Bool} {l : List α} (h : RiseTo lt l l.length) : risesG lt l = true := rises_iff.2 fun j x y hx hy => h j x y (List.getElem?_eq_some_iff.1 hy).1 hx hy
theorem not_rises {α : Type} {lt : α → α → Bool} {l : List α} {i : Nat} {f : α} (hf : l[i]? = some f) (hb : badP lt l i f = true) : risesG lt l = false := by
  cases hh : risesG lt l with
  | false => rfl
  | true =>
    exfalso
    unfold badP at hb
    rw [Bool.and_eq_true, decide_eq_true_eq] at hb
    obtain ⟨h0, h1⟩ := hb
    obtain ⟨c, hc⟩ := getL (l := l) (i := i - 1) (by have := (List.getElem?_eq_some_iff.1 hf).1; omega)
    rw [prevLess_eq hc] at h1
    have := rises_iff.1 hh (i - 1) c f hc (by rw [show i - 1 + 1 = i by omega]; exact hf)
    rw [this] at h1; cases h1
def badF (d : DeltaT) (i : Nat) (f : FactT) : Bool := !sameF d f || badP ltF d.2.2.1 i f
theorem badF_cases {d : DeltaT} {i : Nat} {f : FactT} (hi : i < d.2.2.1.length) : (f.1 ≠ d.1 ∧ badF d i f = true) ∨ (f.1 = d.1 ∧ f.2.1 ≠ d.2.1 ∧ badF d i f = true) ∨
    (f.1 = d.1 ∧ f.2.1 = d.2.1 ∧ ¬ (0 : Int) < (i : Nat) ∧ badF d i f = false) ∨ (f.1 = d.1 ∧ f.2.1 = d.2.1 ∧ (0 : Int) < (i : Nat) ∧ ∃ c, d.2.2.1[i - 1]? = some c ∧ ltF c f = true ∧ badF d i f = false) ∨
    (f.1 = d.1 ∧ f.2.1 = d.2.1 ∧ (0 : Int) < (i : Nat) ∧ ∃ c, d.2.2.1[i - 1]? = some c ∧ ltF c f = false ∧ badF d i f = true) := by
  by_cases h1 : f.1 = d.1
  · by_cases h2 : f.2.1 = d.2.1
    · have hs : sameF d f = true := by unfold sameF; rw [decide_eq_true h1, decide_eq_true h2]; rfl
      have e : badF d i f = badP ltF d.2.2.1 i f := by unfold badF; rw [hs]; rfl
      rw [e]
      rcases badP_cases ltF hi with ⟨a, b⟩ | ⟨a, c, b⟩ | ⟨a, c, b⟩
      · exact .inr (.inr (.inl ⟨h1, h2, a, b⟩))
      · exact .inr (.inr (.inr (.inl ⟨h1, h2, a, c, b⟩)))
      · exact .inr (.inr (.inr (.inr ⟨h1, h2, a, c, b⟩)))
    · exact .inr (.inl ⟨h1, h2, by unfold badF sameF; rw [decide_eq_false h2]; simp⟩)
  · exact .inl ⟨h1, by unfold badF sameF; rw [decide_eq_false h1]; simp⟩
theorem badF_no {d : DeltaT} {i : Nat} {f : FactT} (h : badF d i f = false) : sameF d f = true ∧ badP ltF d.2.2.1 i f = false := by
  unfold badF at h; simpa using h
theorem dfacts_chk {d : DeltaT} {i : Nat} {x : FactT} (h0 : ∀ j y, j < i → d.2.2.1[j]? = some y → chkF y = 0) (h : d.2.2.1[i]? = some x) (hx : chkF x ≠ 0) : dfactsE d = chkF x := by
  unfold dfactsE; rw [chkAll_stop h0 h hx, if_pos hx]
theorem dfacts_form {d : DeltaT} {i : Nat} {f : FactT} (h0 : ∀ (j : Nat) y, d.2.2.1[j]? = some y → chkF y = 0) (hf : d.2.2.1[i]? = some f) (h : badF d i f = true) : dfactsE d = 5 := by
  unfold dfactsE
  rw [chkAll_zero h0, if_neg (by simp), if_neg]
  intro g
  rw [Bool.and_eq_true] at g
  unfold badF at h
  rw [Bool.or_eq_true] at h
  rcases h with h | h
  · have := List.all_eq_true.1 g.1 f (List.mem_of_getElem? hf)
    rw [this] at h; cases h
  · have := not_rises hf h
    rw [g.2] at this; cases this
theorem dfacts_ok {d : DeltaT} (h0 : ∀ (j : Nat) y, d.2.2.1[j]? = some y → chkF y = 0) (h1 : ∀ (j : Nat) y, d.2.2.1[j]? = some y → sameF d y = true) (h2 : RiseTo ltF d.2.2.1 d.2.2.1.length) : dfactsE d = 0 := by
  unfold dfactsE
  rw [chkAll_zero h0, if_neg (by simp), if_pos]
  rw [h2.all, Bool.and_true]
  exact List.all_eq_true.2 fun f hf => by obtain ⟨j, hj⟩ := List.mem_iff_getElem?.1 hf; exact h1 j f hj
theorem dgone_chk {d : DeltaT} {i : Nat} {x : Int × Int} (h0 : ∀ j y, j < i → d.2.2.2[j]? = some y → chk y = 0) (h : d.2.2.2[i]? = some x) (hx : chk x ≠ 0) : dgoneE d = chk x := by
  unfold dgoneE; rw [may_chk h0 h hx, if_pos hx]
theorem dgone_form {d : DeltaT} {i : Nat} {f : Int × Int} (h0 : ∀ (j : Nat) y, d.2.2.2[j]? = some y → chk y = 0) (hf : d.2.2.2[i]? = some f) (h : badP ltD d.2.2.2 i f = true) : dgoneE d = 5 := by
  have hm : mayG chk ltD d.2.2.2 = 5 := by unfold mayG; rw [chkAll_zero h0, if_neg (by simp), not_rises hf h]; rfl
  unfold dgoneE; rw [hm]; rfl
theorem dgone_in {d : DeltaT} (h0 : ∀ (j : Nat) y, d.2.2.2[j]? = some y → chk y = 0) (h2 : RiseTo ltD d.2.2.2 d.2.2.2.length) : dgoneE d = if d.1 ∈ d.2.2.2 then 5 else 0 := by
  have hm : mayG chk ltD d.2.2.2 = 0 := by unfold mayG; rw [chkAll_zero h0, if_neg (by simp), h2.all]; rfl
  unfold dgoneE; rw [hm]; rfl

set_option maxRecDepth 100000 in
theorem dfacts_p (d : DeltaT) (ok : OkD d) : PFn Try.prog False 72 [dlA d] (iA (dfactsE d)) := by
  refine pfn Try.func72 rfl (by kernel_rfl) 57 rfl _ rfl (Nat.le_of_ble_eq_true rfl) (fun X w0 => ?_)
  have hnf := ok.nf
  have hng := ok.ng
  refine wSeq ?_
  refine wReg ?_
  refine sBox rfl rfl rfl rfl rfl (fun g1 => ?_)
  refine sP rfl rfl rfl (pA rfl rfl) ?_
  refine lNil ?_
  refine wSeq ?_
  refine wSeq ?_
  refine wReg ?_
  refine sP rfl rfl rfl (p_fieldAddr_own rfl rfl fl29_2 ty26 (by decide)) ?_
  refine sP rfl rfl rfl (pLdO1 0 rfl rfl rfl ty26 rfl) ?_
  refine sP rfl rfl rfl (p_len_sl rfl rfl Try.underlying26) ?_
  refine sP rfl rfl rfl (pM rfl rfl) ?_
  refine lNil ?_
  refine wBlock ?_
  refine wLoop (fun mm L h => ∃ i, mm = d.2.2.1.length - i ∧ i ≤ d.2.2.1.length ∧ (∀ j y, j < i → d.2.2.1[j]? = some y → chkF y = 0) ∧ L = [(1, .x (.pointer (some ⟨g1, 0, none⟩))), (9, slF d.2.2.1), (10, iA d.2.2.1.length), (11, iA (i : Nat))] ∧ h = [.cells g1 29 (encDl d)]) ⟨_, _, _, _, ⟨0, rfl, Nat.zero_le _, fun j y hj => absurd hj (by omega), rfl, rfl⟩, ⟨rfl, rfl, rfl, rfl, trivial⟩, rfl⟩ ?_
  rintro mm L h ⟨i, rfl, hi, h0, rfl, rfl⟩
  refine wSeq ?_
  refine wReg ?_
  refine sP rfl rfl rfl (p_icmp rfl rfl rfl rfl) ?_
  refine lNil ?_
  refine wSeq ?_
  refine wCond rfl (fun hc1 => ?_) (fun hc1 => ?_)
  · have hlt : i < d.2.2.1.length := by simpa using hc1
    obtain ⟨f, hd⟩ := getL hlt
    refine wSkip ?_
    refine wSeq ?_
    refine wBlock ?_
    refine wSeq ?_
    refine wReg ?_
    refine sP rfl rfl rfl (pIdx i rfl rfl Try.underlying26 ty87 (by decide) rfl (fun _ => rfl) rfl rfl hd) ?_
    refine sP rfl rfl rfl (pLdE rfl rfl ty87 rfl) ?_
    refine sAlloc rfl rfl rfl rfl ze87 (fun g4 => ?_)
    refine sStore 1 rfl rfl rfl rfl rfl ty87 rfl rfl rfl (Nat.le_of_ble_eq_true rfl) ?_
    refine lNil ?_
    refine wSeq ?_
    refine wReg ?_
    refine sP rfl rfl rfl (pLdW 1 rfl rfl rfl ty87 rfl) ?_
    refine sP rfl rfl rfl (p_call rfl (fcheck_p f (ok.of f (List.mem_of_getElem? hd))) ⟨Sub.refl, trivial⟩) ?_
    refine sP rfl rfl rfl (pA rfl rfl) ?_
    refine lNil ?_
    refine wSeq ?_
    refine wReg ?_
    refine sP rfl rfl rfl (pM rfl rfl) ?_
    refine sP rfl rfl rfl (p_icmp rfl rfl rfl rfl) ?_
    refine lNil ?_
    refine wCond rfl (fun hc2 => ?_) (fun hc2 => ?_)
    · refine wSeq ?_
      refine wReg ?_
      refine sP rfl rfl rfl (pM rfl rfl) ?_
      refine sP rfl rfl rfl (pA rfl rfl) ?_
      refine lNil ?_
      refine wRet ?_
      have hne : chkF f ≠ 0 := by simpa using hc2
      exact rgs1 (rg_tmp (gives_sub (Sub.of_eq (avI (dfacts_chk h0 hd hne).symm))))
    · refine wSkip ?_
      refine wReg ?_
      refine sP rfl rfl rfl (p_iar rfl rfl rfl rfl) ?_
      refine sP rfl rfl rfl (pM rfl rfl) ?_
      refine lNil ?_
      have he : chkF f = 0 := by simpa using hc2
      refine ⟨_, _, [.cells g1 29 (encDl d)], _, ?_, ⟨i + 1, rfl, hlt, fun j y hj hy => ?_, rfl, rfl⟩, ⟨rfl, rfl, rfl, avI (wrapI (by omega) (by omega)), trivial⟩, rfl⟩
      · omega
      · rcases Nat.lt_or_ge j i with h | h
        · exact h0 j y h hy
        · obtain rfl : j = i := by omega
          rw [hd] at hy; injection hy with hy; rw [← hy]; exact he
  · have hge : i = d.2.2.1.length := by
      have h : ¬ i < d.2.2.1.length := by simpa using hc1
      omega
    rw [hge] at h0
    clear hge hi
    replace h0 : ∀ (j : Nat) y, d.2.2.1[j]? = some y → chkF y = 0 := fun j y hy => h0 j y (List.getElem?_eq_some_iff.1 hy).1 hy
    refine wExit ?_
    refine wSeq ?_
    refine wSeq ?_
    refine wReg ?_
    refine sP rfl rfl rfl (p_fieldAddr_own rfl rfl fl29_2 ty26 (by decide)) ?_
    refine sP rfl rfl rfl (pLdO1 0 rfl rfl rfl ty26 rfl) ?_
    refine sP rfl rfl rfl (p_len_sl rfl rfl Try.underlying26) ?_
    refine sP rfl rfl rfl (pM rfl rfl) ?_
    refine lNil ?_
    refine wBlock ?_
    refine wLoop (fun mm L h => ∃ i, mm = d.2.2.1.length - i ∧ i ≤ d.2.2.1.length ∧ (∀ j y, j < i → d.2.2.1[j]? = some y → sameF d y = true) ∧ RiseTo ltF d.2.2.1 i ∧ L = [(1, .x (.pointer (some ⟨g1, 0, none⟩))), (22, slF d.2.2.1), (23, iA d.2.2.1.length), (24, iA (i : Nat))] ∧ h = [.cells g1 29 (encDl d)]) ⟨_, _, _, _, ⟨0, rfl, Nat.zero_le _, fun j y hj => absurd hj (by omega), RiseTo.zero, rfl, rfl⟩, ⟨rfl, rfl, rfl, rfl, trivial⟩, rfl⟩ ?_
    rintro mm L h ⟨i, rfl, hi, h1, h2, rfl, rfl⟩
    refine wSeq ?_
    refine wReg ?_
    refine sP rfl rfl rfl (p_icmp rfl rfl rfl rfl) ?_
    refine lNil ?_
    refine wSeq ?_
    refine wCond rfl (fun hc3 => ?_) (fun hc3 => ?_)
    · have hlt : i < d.2.2.1.length := by simpa using hc3
      obtain ⟨f, hd⟩ := getL hlt
      refine wSkip ?_
      refine wSeq ?_
      refine wBlock ?_
      refine wSeq ?_
      refine wReg ?_
      refine sP rfl rfl rfl (pM rfl rfl) ?_
      refine sP rfl rfl rfl (pIdx i rfl rfl Try.underlying26 ty87 (by decide) rfl (fun _ => rfl) rfl rfl hd) ?_
      refine sP rfl rfl rfl (pLdE rfl rfl ty87 rfl) ?_
      refine sAlloc rfl rfl rfl rfl ze87 (fun g7 => ?_)
      refine sP rfl rfl rfl (pA rfl rfl) ?_
      refine sStore 1 rfl rfl rfl rfl rfl ty87 rfl rfl rfl (Nat.le_of_ble_eq_true rfl) ?_
      refine lNil ?_
      refine wCut (fun L h => ∃ b : Bool, b = (badF d i f) ∧ L = [(1, .x (.pointer (some ⟨g1, 0, none⟩))), (22, slF d.2.2.1), (23, iA d.2.2.1.length), (24, iA (i : Nat)), (55, bA b)] ∧ h = [.cells g1 29 (encDl d)]) ?_ ?_
      · rcases badF_cases (d := d) (f := f) hlt with ⟨e1, hbv⟩ | ⟨e1, e2, hbv⟩ | ⟨e1, e2, e3, hbv⟩ | ⟨e1, e2, e3, c, hcc, e4, hbv⟩ | ⟨e1, e2, e3, c, hcc, e4, hbv⟩
        · refine wDraw 27 (by kernel_rfl) (by kernel_rfl) ?_
          refine sP rfl rfl rfl (p_fieldAddr_own rfl rfl fl87_0 ty23 (by decide)) ?_
          refine sP rfl rfl rfl (pLdO 1 rfl rfl rfl ty23 (Nat.le_of_ble_eq_true rfl) rfl) ?_
          refine sP rfl rfl rfl (p_fieldAddr_own rfl rfl fl29_0 ty23 (by decide)) ?_
          refine sP rfl rfl rfl (pLdO 0 rfl rfl rfl ty23 (Nat.le_of_ble_eq_true rfl) rfl) ?_
          refine sP rfl rfl rfl (p_nes (r := false) rfl rfl rfl rfl rfl guardD (fun w => eqD_f (d := 9998) (a := f.1) (b := d.1) e1)) ?_
          refine sP rfl rfl rfl (pM rfl rfl) ?_
          refine sUx rfl rfl rfl (by decide) rfl rfl ?_
          refine sUx rfl rfl rfl (by decide) rfl rfl ?_
          refine sUx rfl rfl rfl (by decide) rfl rfl ?_
          refine sUx rfl rfl rfl (by decide) rfl rfl ?_
          refine sUx rfl rfl rfl (by decide) rfl rfl ?_
          refine sP rfl rfl rfl (p_pick rfl rfl rfl) ?_
          refine sP rfl rfl rfl (pM rfl rfl) ?_
          refine sUx rfl rfl rfl (by decide) rfl rfl ?_
          refine sUx rfl rfl rfl (by decide) rfl rfl ?_
          refine sUx rfl rfl rfl (by decide) rfl rfl ?_
          refine sNx rfl rfl rfl rfl rfl ?_
          refine sNx rfl rfl rfl rfl rfl ?_
          refine sNx rfl rfl rfl rfl rfl ?_
          refine sNx rfl rfl rfl rfl rfl ?_
          refine sNx rfl rfl rfl rfl rfl ?_
          refine sNx rfl rfl rfl rfl rfl ?_
          refine sNx rfl rfl rfl rfl rfl ?_
          refine sNx rfl rfl rfl rfl rfl ?_
          refine sNx rfl rfl rfl rfl rfl ?_
          refine sUx rfl rfl rfl (by decide) rfl rfl ?_
          refine sP rfl rfl rfl (p_pick rfl rfl rfl) ?_
          refine lTail ?_
          refine lNil ?_
          exact ⟨_, [.cells g1 29 (encDl d)], _, ⟨_, (by exact hbv.symm), rfl, rfl⟩, ⟨rfl, rfl, rfl, rfl, rfl, trivial⟩, rfl⟩
        · refine wDraw 27 (by kernel_rfl) (by kernel_rfl) ?_
          refine sP rfl rfl rfl (p_fieldAddr_own rfl rfl fl87_0 ty23 (by decide)) ?_
          refine sP rfl rfl rfl (pLdO 1 rfl rfl rfl ty23 (Nat.le_of_ble_eq_true rfl) rfl) ?_
          refine sP rfl rfl rfl (p_fieldAddr_own rfl rfl fl29_0 ty23 (by decide)) ?_
          refine sP rfl rfl rfl (pLdO 0 rfl rfl rfl ty23 (Nat.le_of_ble_eq_true rfl) rfl) ?_
          refine sP rfl rfl rfl (p_nes (r := true) rfl rfl rfl rfl rfl guardD (fun w => eqD_t (d := 9998) (a := f.1) (b := d.1) e1)) ?_
          refine sP rfl rfl rfl (pM rfl rfl) ?_
          refine sG rfl rfl rfl rfl rfl (p_fieldAddr_own rfl rfl fl87_1 ty25 (by decide)) ?_
          refine sG rfl rfl rfl rfl rfl (pLdO 1 rfl rfl rfl ty25 (Nat.le_of_ble_eq_true rfl) rfl) ?_
          refine sG rfl rfl rfl rfl rfl (p_fieldAddr_own rfl rfl fl29_1 ty25 (by decide)) ?_
          refine sG rfl rfl rfl rfl rfl (pLdO 0 rfl rfl rfl ty25 (Nat.le_of_ble_eq_true rfl) rfl) ?_
          refine sG rfl rfl rfl rfl rfl (p_nes (r := false) rfl rfl rfl rfl rfl guardW (fun w => eqW_f (d := 9998) (a := f.2.1) (b := d.2.1) e2)) ?_
          refine sP rfl rfl rfl (p_pick rfl rfl rfl) ?_
          refine sP rfl rfl rfl (pM rfl rfl) ?_
          refine sUx rfl rfl rfl (by decide) rfl rfl ?_
          refine sUx rfl rfl rfl (by decide) rfl rfl ?_
          refine sUx rfl rfl rfl (by decide) rfl rfl ?_
          refine sNx rfl rfl rfl rfl rfl ?_
          refine sNx rfl rfl rfl rfl rfl ?_
          refine sNx rfl rfl rfl rfl rfl ?_
          refine sNx rfl rfl rfl rfl rfl ?_
          refine sNx rfl rfl rfl rfl rfl ?_
          refine sNx rfl rfl rfl rfl rfl ?_
          refine sNx rfl rfl rfl rfl rfl ?_
          refine sNx rfl rfl rfl rfl rfl ?_
          refine sNx rfl rfl rfl rfl rfl ?_
          refine sUx rfl rfl rfl (by decide) rfl rfl ?_
          refine sP rfl rfl rfl (p_pick rfl rfl rfl) ?_
          refine lTail ?_
          refine lNil ?_
          exact ⟨_, [.cells g1 29 (encDl d)], _, ⟨_, (by exact hbv.symm), rfl, rfl⟩, ⟨rfl, rfl, rfl, rfl, rfl, trivial⟩, rfl⟩
        · refine wDraw 27 (by kernel_rfl) (by kernel_rfl) ?_
          refine sP rfl rfl rfl (p_fieldAddr_own rfl rfl fl87_0 ty23 (by decide)) ?_
          refine sP rfl rfl rfl (pLdO 1 rfl rfl rfl ty23 (Nat.le_of_ble_eq_true rfl) rfl) ?_
          refine sP rfl rfl rfl (p_fieldAddr_own rfl rfl fl29_0 ty23 (by decide)) ?_
          refine sP rfl rfl rfl (pLdO 0 rfl rfl rfl ty23 (Nat.le_of_ble_eq_true rfl) rfl) ?_
          refine sP rfl rfl rfl (p_nes (r := true) rfl rfl rfl rfl rfl guardD (fun w => eqD_t (d := 9998) (a := f.1) (b := d.1) e1)) ?_
          refine sP rfl rfl rfl (pM rfl rfl) ?_
          refine sG rfl rfl rfl rfl rfl (p_fieldAddr_own rfl rfl fl87_1 ty25 (by decide)) ?_
          refine sG rfl rfl rfl rfl rfl (pLdO 1 rfl rfl rfl ty25 (Nat.le_of_ble_eq_true rfl) rfl) ?_
          refine sG rfl rfl rfl rfl rfl (p_fieldAddr_own rfl rfl fl29_1 ty25 (by decide)) ?_
          refine sG rfl rfl rfl rfl rfl (pLdO 0 rfl rfl rfl ty25 (Nat.le_of_ble_eq_true rfl) rfl) ?_
          refine sG rfl rfl rfl rfl rfl (p_nes (r := true) rfl rfl rfl rfl rfl guardW (fun w => eqW_t (d := 9998) (a := f.2.1) (b := d.2.1) e2)) ?_
          refine sP rfl rfl rfl (p_pick rfl rfl rfl) ?_
          refine sP rfl rfl rfl (pM rfl rfl) ?_
          refine sG rfl rfl rfl rfl rfl (pM rfl rfl) ?_
          refine sG rfl rfl rfl rfl rfl (p_icmp rfl rfl rfl (gtr_f e3)) ?_
          refine sG rfl rfl rfl rfl rfl (pM rfl rfl) ?_
          refine sUx rfl rfl rfl (by decide) rfl rfl ?_
          refine sUx rfl rfl rfl (by decide) rfl rfl ?_
          refine sUx rfl rfl rfl (by decide) rfl rfl ?_
          refine sUx rfl rfl rfl (by decide) rfl rfl ?_
          refine sUx rfl rfl rfl (by decide) rfl rfl ?_
          refine sUx rfl rfl rfl (by decide) rfl rfl ?_
          refine sUx rfl rfl rfl (by decide) rfl rfl ?_
          refine sUx rfl rfl rfl (by decide) rfl rfl ?_
          refine sUx rfl rfl rfl (by decide) rfl rfl ?_
          refine sG rfl rfl rfl rfl rfl (p_pick rfl rfl rfl) ?_
          refine sP rfl rfl rfl (p_pick rfl rfl rfl) ?_
          refine lTail ?_
          refine lNil ?_
          exact ⟨_, [.cells g1 29 (encDl d)], _, ⟨_, (by exact hbv.symm), rfl, rfl⟩, ⟨rfl, rfl, rfl, rfl, rfl, trivial⟩, rfl⟩
        · refine wDraw 27 (by kernel_rfl) (by kernel_rfl) ?_
          refine sP rfl rfl rfl (p_fieldAddr_own rfl rfl fl87_0 ty23 (by decide)) ?_
          refine sP rfl rfl rfl (pLdO 1 rfl rfl rfl ty23 (Nat.le_of_ble_eq_true rfl) rfl) ?_
          refine sP rfl rfl rfl (p_fieldAddr_own rfl rfl fl29_0 ty23 (by decide)) ?_
          refine sP rfl rfl rfl (pLdO 0 rfl rfl rfl ty23 (Nat.le_of_ble_eq_true rfl) rfl) ?_
          refine sP rfl rfl rfl (p_nes (r := true) rfl rfl rfl rfl rfl guardD (fun w => eqD_t (d := 9998) (a := f.1) (b := d.1) e1)) ?_
          refine sP rfl rfl rfl (pM rfl rfl) ?_
          refine sG rfl rfl rfl rfl rfl (p_fieldAddr_own rfl rfl fl87_1 ty25 (by decide)) ?_
          refine sG rfl rfl rfl rfl rfl (pLdO 1 rfl rfl rfl ty25 (Nat.le_of_ble_eq_true rfl) rfl) ?_
          refine sG rfl rfl rfl rfl rfl (p_fieldAddr_own rfl rfl fl29_1 ty25 (by decide)) ?_
          refine sG rfl rfl rfl rfl rfl (pLdO 0 rfl rfl rfl ty25 (Nat.le_of_ble_eq_true rfl) rfl) ?_
          refine sG rfl rfl rfl rfl rfl (p_nes (r := true) rfl rfl rfl rfl rfl guardW (fun w => eqW_t (d := 9998) (a := f.2.1) (b := d.2.1) e2)) ?_
          refine sP rfl rfl rfl (p_pick rfl rfl rfl) ?_
          refine sP rfl rfl rfl (pM rfl rfl) ?_
          refine sG rfl rfl rfl rfl rfl (pM rfl rfl) ?_
          refine sG rfl rfl rfl rfl rfl (p_icmp rfl rfl rfl (gtr_t e3)) ?_
          refine sG rfl rfl rfl rfl rfl (pM rfl rfl) ?_
          refine sG rfl rfl rfl rfl rfl (p_fieldAddr_own rfl rfl fl29_2 ty26 (by decide)) ?_
          refine sG rfl rfl rfl rfl rfl (pLdO1 0 rfl rfl rfl ty26 rfl) ?_
          refine sG rfl rfl rfl rfl rfl (pM rfl rfl) ?_
          refine sG rfl rfl rfl rfl rfl (p_iar rfl rfl rfl rfl) ?_
          refine sG rfl rfl rfl rfl rfl (pIdx (i - 1) rfl rfl Try.underlying26 ty87 (by decide) rfl (fun _ => rfl) rfl (by rw [wrapI (by omega) (by omega)]; omega) hcc) ?_
          refine sG rfl rfl rfl rfl rfl (pLdE rfl rfl ty87 rfl) ?_
          refine sG rfl rfl rfl rfl rfl (pLdW 1 rfl rfl rfl ty87 rfl) ?_
          refine sG rfl rfl rfl rfl rfl (p_call rfl (less_is (x := c) (y := f) e4) ⟨Sub.refl, Sub.refl, trivial⟩) ?_
          refine sG rfl rfl rfl rfl rfl (p_not rfl rfl) ?_
          refine sG rfl rfl rfl rfl rfl (p_pick rfl rfl rfl) ?_
          refine sP rfl rfl rfl (p_pick rfl rfl rfl) ?_
          refine lTail ?_
          refine lNil ?_
          exact ⟨_, [.cells g1 29 (encDl d)], _, ⟨_, (by exact hbv.symm), rfl, rfl⟩, ⟨rfl, rfl, rfl, rfl, rfl, trivial⟩, rfl⟩
        · refine wDraw 27 (by kernel_rfl) (by kernel_rfl) ?_
          refine sP rfl rfl rfl (p_fieldAddr_own rfl rfl fl87_0 ty23 (by decide)) ?_
          refine sP rfl rfl rfl (pLdO 1 rfl rfl rfl ty23 (Nat.le_of_ble_eq_true rfl) rfl) ?_
          refine sP rfl rfl rfl (p_fieldAddr_own rfl rfl fl29_0 ty23 (by decide)) ?_
          refine sP rfl rfl rfl (pLdO 0 rfl rfl rfl ty23 (Nat.le_of_ble_eq_true rfl) rfl) ?_
          refine sP rfl rfl rfl (p_nes (r := true) rfl rfl rfl rfl rfl guardD (fun w => eqD_t (d := 9998) (a := f.1) (b := d.1) e1)) ?_
          refine sP rfl rfl rfl (pM rfl rfl) ?_
          refine sG rfl rfl rfl rfl rfl (p_fieldAddr_own rfl rfl fl87_1 ty25 (by decide)) ?_
          refine sG rfl rfl rfl rfl rfl (pLdO 1 rfl rfl rfl ty25 (Nat.le_of_ble_eq_true rfl) rfl) ?_
          refine sG rfl rfl rfl rfl rfl (p_fieldAddr_own rfl rfl fl29_1 ty25 (by decide)) ?_
          refine sG rfl rfl rfl rfl rfl (pLdO 0 rfl rfl rfl ty25 (Nat.le_of_ble_eq_true rfl) rfl) ?_
          refine sG rfl rfl rfl rfl rfl (p_nes (r := true) rfl rfl rfl rfl rfl guardW (fun w => eqW_t (d := 9998) (a := f.2.1) (b := d.2.1) e2)) ?_
          refine sP rfl rfl rfl (p_pick rfl rfl rfl) ?_
          refine sP rfl rfl rfl (pM rfl rfl) ?_
          refine sG rfl rfl rfl rfl rfl (pM rfl rfl) ?_
          refine sG rfl rfl rfl rfl rfl (p_icmp rfl rfl rfl (gtr_t e3)) ?_
          refine sG rfl rfl rfl rfl rfl (pM rfl rfl) ?_
          refine sG rfl rfl rfl rfl rfl (p_fieldAddr_own rfl rfl fl29_2 ty26 (by decide)) ?_
          refine sG rfl rfl rfl rfl rfl (pLdO1 0 rfl rfl rfl ty26 rfl) ?_
          refine sG rfl rfl rfl rfl rfl (pM rfl rfl) ?_
          refine sG rfl rfl rfl rfl rfl (p_iar rfl rfl rfl rfl) ?_
          refine sG rfl rfl rfl rfl rfl (pIdx (i - 1) rfl rfl Try.underlying26 ty87 (by decide) rfl (fun _ => rfl) rfl (by rw [wrapI (by omega) (by omega)]; omega) hcc) ?_
          refine sG rfl rfl rfl rfl rfl (pLdE rfl rfl ty87 rfl) ?_
          refine sG rfl rfl rfl rfl rfl (pLdW 1 rfl rfl rfl ty87 rfl) ?_
          refine sG rfl rfl rfl rfl rfl (p_call rfl (less_is (x := c) (y := f) e4) ⟨Sub.refl, Sub.refl, trivial⟩) ?_
          refine sG rfl rfl rfl rfl rfl (p_not rfl rfl) ?_
          refine sG rfl rfl rfl rfl rfl (p_pick rfl rfl rfl) ?_
          refine sP rfl rfl rfl (p_pick rfl rfl rfl) ?_
          refine lTail ?_
          refine lNil ?_
          exact ⟨_, [.cells g1 29 (encDl d)], _, ⟨_, (by exact hbv.symm), rfl, rfl⟩, ⟨rfl, rfl, rfl, rfl, rfl, trivial⟩, rfl⟩
      · rintro L h ⟨b, hb, rfl, rfl⟩
        refine wCond rfl (fun hc4 => ?_) (fun hc4 => ?_)
        · refine wSeq ?_
          refine wReg ?_
          refine sP rfl rfl rfl (pA rfl rfl) ?_
          refine lNil ?_
          refine wRet ?_
          have hbad : badF d i f = true := hb.symm.trans hc4
          exact rgs1 (rg_tmp (gives_sub (Sub.of_eq (avI (dfacts_form h0 hd hbad).symm))))
        · refine wSkip ?_
          refine wReg ?_
          refine sP rfl rfl rfl (p_iar rfl rfl rfl rfl) ?_
          refine sP rfl rfl rfl (pM rfl rfl) ?_
          refine lNil ?_
          have hbad : badF d i f = false := hb.symm.trans hc4
          refine ⟨_, _, [.cells g1 29 (encDl d)], [], ?_, ⟨i + 1, rfl, hlt, (fun j y hj hy => by
              rcases Nat.lt_or_ge j i with h | h
              · exact h1 j y h hy
              · obtain rfl : j = i := by omega
                rw [hd] at hy; injection hy with hy; rw [← hy]; exact (badF_no hbad).1), h2.next hd (badF_no hbad).2, rfl, rfl⟩, ⟨rfl, rfl, rfl, avI (wrapI (by omega) (by omega)), trivial⟩, rfl⟩
          omega
    · have hge : i = d.2.2.1.length := by
        have h : ¬ i < d.2.2.1.length := by simpa using hc3
        omega
      rw [hge] at h1 h2
      clear hge hi
      refine wExit ?_
      refine wSeq ?_
      refine wReg ?_
      refine sP rfl rfl rfl (pA rfl rfl) ?_
      refine lNil ?_
      refine wRet ?_
      exact rgs1 (rg_tmp (gives_sub (Sub.of_eq (avI (dfacts_ok h0 (fun j y hy => h1 j y (List.getElem?_eq_some_iff.1 hy).1 hy) h2).symm))))
set_option maxRecDepth 100000 in
theorem dgone_p (d : DeltaT) (ok : OkD d) : PFn Try.prog False 73 [dlA d] (iA (dgoneE d)) := by
  refine pfn Try.func73 rfl (by kernel_rfl) 48 rfl _ rfl (Nat.le_of_ble_eq_true rfl) (fun X w0 => ?_)
  have hnf := ok.nf
  have hng := ok.ng
  refine wSeq ?_
  refine wReg ?_
  refine sBox rfl rfl rfl rfl rfl (fun g1 => ?_)
  refine sP rfl rfl rfl (pA rfl rfl) ?_
  refine lNil ?_
  refine wSeq ?_
  refine wSeq ?_
  refine wReg ?_
  refine sP rfl rfl rfl (p_fieldAddr_own rfl rfl fl29_3 ty27 (by decide)) ?_
  refine sP rfl rfl rfl (pLdO1 0 rfl rfl rfl ty27 rfl) ?_
  refine sP rfl rfl rfl (p_len_sl rfl rfl Try.underlying27) ?_
  refine sP rfl rfl rfl (pM rfl rfl) ?_
  refine lNil ?_
  refine wBlock ?_
  refine wLoop (fun mm L h => ∃ i, mm = d.2.2.2.length - i ∧ i ≤ d.2.2.2.length ∧ (∀ j y, j < i → d.2.2.2[j]? = some y → chk y = 0) ∧ L = [(1, .x (.pointer (some ⟨g1, 0, none⟩))), (9, slD d.2.2.2), (10, iA d.2.2.2.length), (11, iA (i : Nat))] ∧ h = [.cells g1 29 (encDl d)]) ⟨_, _, _, _, ⟨0, rfl, Nat.zero_le _, fun j y hj => absurd hj (by omega), rfl, rfl⟩, ⟨rfl, rfl, rfl, rfl, trivial⟩, rfl⟩ ?_
  rintro mm L h ⟨i, rfl, hi, h0, rfl, rfl⟩
  refine wSeq ?_
  refine wReg ?_
  refine sP rfl rfl rfl (p_icmp rfl rfl rfl rfl) ?_
  refine lNil ?_
  refine wSeq ?_
  refine wCond rfl (fun hc1 => ?_) (fun hc1 => ?_)
  · have hlt : i < d.2.2.2.length := by simpa using hc1
    obtain ⟨f, hd⟩ := getL hlt
    refine wSkip ?_
    refine wSeq ?_
    refine wBlock ?_
    refine wSeq ?_
    refine wReg ?_
    refine sP rfl rfl rfl (pIdx i rfl rfl Try.underlying27 ty23 (by decide) rfl (fun _ => rfl) rfl rfl hd) ?_
    refine sP rfl rfl rfl (pLdE rfl rfl ty23 rfl) ?_
    refine sAlloc rfl rfl rfl rfl ze23 (fun g4 => ?_)
    refine sStore 1 rfl rfl rfl rfl rfl ty23 rfl rfl rfl (Nat.le_of_ble_eq_true rfl) ?_
    refine lNil ?_
    refine wSeq ?_
    refine wReg ?_
    refine sP rfl rfl rfl (pLdW 1 rfl rfl rfl ty23 rfl) ?_
    refine sP rfl rfl rfl (p_call rfl (dcheck_p f) ⟨Sub.refl, trivial⟩) ?_
    refine sP rfl rfl rfl (pA rfl rfl) ?_
    refine lNil ?_
    refine wSeq ?_
    refine wReg ?_
    refine sP rfl rfl rfl (pM rfl rfl) ?_
    refine sP rfl rfl rfl (p_icmp rfl rfl rfl rfl) ?_
    refine lNil ?_
    refine wCond rfl (fun hc2 => ?_) (fun hc2 => ?_)
    · refine wSeq ?_
      refine wReg ?_
      refine sP rfl rfl rfl (pM rfl rfl) ?_
      refine sP rfl rfl rfl (pA rfl rfl) ?_
      refine lNil ?_
      refine wRet ?_
      have hne : chk f ≠ 0 := by simpa using hc2
      exact rgs1 (rg_tmp (gives_sub (Sub.of_eq (avI (dgone_chk h0 hd hne).symm))))
    · refine wSkip ?_
      refine wReg ?_
      refine sP rfl rfl rfl (p_iar rfl rfl rfl rfl) ?_
      refine sP rfl rfl rfl (pM rfl rfl) ?_
      refine lNil ?_
      have he : chk f = 0 := by simpa using hc2
      refine ⟨_, _, [.cells g1 29 (encDl d)], _, ?_, ⟨i + 1, rfl, hlt, fun j y hj hy => ?_, rfl, rfl⟩, ⟨rfl, rfl, rfl, avI (wrapI (by omega) (by omega)), trivial⟩, rfl⟩
      · omega
      · rcases Nat.lt_or_ge j i with h | h
        · exact h0 j y h hy
        · obtain rfl : j = i := by omega
          rw [hd] at hy; injection hy with hy; rw [← hy]; exact he
  · have hge : i = d.2.2.2.length := by
      have h : ¬ i < d.2.2.2.length := by simpa using hc1
      omega
    rw [hge] at h0
    clear hge hi
    replace h0 : ∀ (j : Nat) y, d.2.2.2[j]? = some y → chk y = 0 := fun j y hy => h0 j y (List.getElem?_eq_some_iff.1 hy).1 hy
    refine wExit ?_
    refine wSeq ?_
    refine wSeq ?_
    refine wReg ?_
    refine sP rfl rfl rfl (p_fieldAddr_own rfl rfl fl29_3 ty27 (by decide)) ?_
    refine sP rfl rfl rfl (pLdO1 0 rfl rfl rfl ty27 rfl) ?_
    refine sP rfl rfl rfl (p_len_sl rfl rfl Try.underlying27) ?_
    refine sP rfl rfl rfl (pM rfl rfl) ?_
    refine lNil ?_
    refine wBlock ?_
    refine wLoop (fun mm L h => ∃ i, mm = d.2.2.2.length - i ∧ i ≤ d.2.2.2.length ∧ RiseTo ltD d.2.2.2 i ∧ L = [(1, .x (.pointer (some ⟨g1, 0, none⟩))), (22, slD d.2.2.2), (23, iA d.2.2.2.length), (24, iA (i : Nat))] ∧ h = [.cells g1 29 (encDl d)]) ⟨_, _, _, _, ⟨0, rfl, Nat.zero_le _, RiseTo.zero, rfl, rfl⟩, ⟨rfl, rfl, rfl, rfl, trivial⟩, rfl⟩ ?_
    rintro mm L h ⟨i, rfl, hi, h2, rfl, rfl⟩
    refine wSeq ?_
    refine wReg ?_
    refine sP rfl rfl rfl (p_icmp rfl rfl rfl rfl) ?_
    refine lNil ?_
    refine wSeq ?_
    refine wCond rfl (fun hc3 => ?_) (fun hc3 => ?_)
    · have hlt : i < d.2.2.2.length := by simpa using hc3
      obtain ⟨f, hd⟩ := getL hlt
      refine wSkip ?_
      refine wSeq ?_
      refine wBlock ?_
      refine wSeq ?_
      refine wReg ?_
      refine sP rfl rfl rfl (pM rfl rfl) ?_
      refine sP rfl rfl rfl (pIdx i rfl rfl Try.underlying27 ty23 (by decide) rfl (fun _ => rfl) rfl rfl hd) ?_
      refine sP rfl rfl rfl (pLdE rfl rfl ty23 rfl) ?_
      refine sAlloc rfl rfl rfl rfl ze23 (fun g7 => ?_)
      refine sP rfl rfl rfl (pA rfl rfl) ?_
      refine sStore 1 rfl rfl rfl rfl rfl ty23 rfl rfl rfl (Nat.le_of_ble_eq_true rfl) ?_
      refine lNil ?_
      refine wCut (fun L h => ∃ b : Bool, b = (badP ltD d.2.2.2 i f) ∧ L = [(1, .x (.pointer (some ⟨g1, 0, none⟩))), (22, slD d.2.2.2), (23, iA d.2.2.2.length), (24, iA (i : Nat)), (41, bA b)] ∧ h = [.cells g1 29 (encDl d)]) ?_ ?_
      · rcases badP_cases ltD (f := f) hlt with ⟨e3, hbv⟩ | ⟨e3, c, hcc, e4, hbv⟩ | ⟨e3, c, hcc, e4, hbv⟩
        · refine wDraw 13 (by kernel_rfl) (by kernel_rfl) ?_
          refine sP rfl rfl rfl (pM rfl rfl) ?_
          refine sP rfl rfl rfl (p_icmp rfl rfl rfl (gtr_f e3)) ?_
          refine sP rfl rfl rfl (pM rfl rfl) ?_
          refine sUx rfl rfl rfl (by decide) rfl rfl ?_
          refine sUx rfl rfl rfl (by decide) rfl rfl ?_
          refine sUx rfl rfl rfl (by decide) rfl rfl ?_
          refine sUx rfl rfl rfl (by decide) rfl rfl ?_
          refine sUx rfl rfl rfl (by decide) rfl rfl ?_
          refine sUx rfl rfl rfl (by decide) rfl rfl ?_
          refine sUx rfl rfl rfl (by decide) rfl rfl ?_
          refine sUx rfl rfl rfl (by decide) rfl rfl ?_
          refine sUx rfl rfl rfl (by decide) rfl rfl ?_
          refine sP rfl rfl rfl (p_pick rfl rfl rfl) ?_
          refine lTail ?_
          refine lNil ?_
          exact ⟨_, [.cells g1 29 (encDl d)], _, ⟨_, (by exact hbv.symm), rfl, rfl⟩, ⟨rfl, rfl, rfl, rfl, rfl, trivial⟩, rfl⟩
        · refine wDraw 13 (by kernel_rfl) (by kernel_rfl) ?_
          refine sP rfl rfl rfl (pM rfl rfl) ?_
          refine sP rfl rfl rfl (p_icmp rfl rfl rfl (gtr_t e3)) ?_
          refine sP rfl rfl rfl (pM rfl rfl) ?_
          refine sG rfl rfl rfl rfl rfl (p_fieldAddr_own rfl rfl fl29_3 ty27 (by decide)) ?_
          refine sG rfl rfl rfl rfl rfl (pLdO1 0 rfl rfl rfl ty27 rfl) ?_
          refine sG rfl rfl rfl rfl rfl (pM rfl rfl) ?_
          refine sG rfl rfl rfl rfl rfl (p_iar rfl rfl rfl rfl) ?_
          refine sG rfl rfl rfl rfl rfl (pIdx (i - 1) rfl rfl Try.underlying27 ty23 (by decide) rfl (fun _ => rfl) rfl (by rw [wrapI (by omega) (by omega)]; omega) hcc) ?_
          refine sG rfl rfl rfl rfl rfl (pLdE rfl rfl ty23 rfl) ?_
          refine sG rfl rfl rfl rfl rfl (pLdW 1 rfl rfl rfl ty23 rfl) ?_
          refine sG rfl rfl rfl rfl rfl (p_call rfl (dless_is (x := c) (y := f) e4) ⟨Sub.refl, Sub.refl, trivial⟩) ?_
          refine sG rfl rfl rfl rfl rfl (p_not rfl rfl) ?_
          refine sP rfl rfl rfl (p_pick rfl rfl rfl) ?_
          refine lTail ?_
          refine lNil ?_
          exact ⟨_, [.cells g1 29 (encDl d)], _, ⟨_, (by exact hbv.symm), rfl, rfl⟩, ⟨rfl, rfl, rfl, rfl, rfl, trivial⟩, rfl⟩
        · refine wDraw 13 (by kernel_rfl) (by kernel_rfl) ?_
          refine sP rfl rfl rfl (pM rfl rfl) ?_
          refine sP rfl rfl rfl (p_icmp rfl rfl rfl (gtr_t e3)) ?_
          refine sP rfl rfl rfl (pM rfl rfl) ?_
          refine sG rfl rfl rfl rfl rfl (p_fieldAddr_own rfl rfl fl29_3 ty27 (by decide)) ?_
          refine sG rfl rfl rfl rfl rfl (pLdO1 0 rfl rfl rfl ty27 rfl) ?_
          refine sG rfl rfl rfl rfl rfl (pM rfl rfl) ?_
          refine sG rfl rfl rfl rfl rfl (p_iar rfl rfl rfl rfl) ?_
          refine sG rfl rfl rfl rfl rfl (pIdx (i - 1) rfl rfl Try.underlying27 ty23 (by decide) rfl (fun _ => rfl) rfl (by rw [wrapI (by omega) (by omega)]; omega) hcc) ?_
          refine sG rfl rfl rfl rfl rfl (pLdE rfl rfl ty23 rfl) ?_
          refine sG rfl rfl rfl rfl rfl (pLdW 1 rfl rfl rfl ty23 rfl) ?_
          refine sG rfl rfl rfl rfl rfl (p_call rfl (dless_is (x := c) (y := f) e4) ⟨Sub.refl, Sub.refl, trivial⟩) ?_
          refine sG rfl rfl rfl rfl rfl (p_not rfl rfl) ?_
          refine sP rfl rfl rfl (p_pick rfl rfl rfl) ?_
          refine lTail ?_
          refine lNil ?_
          exact ⟨_, [.cells g1 29 (encDl d)], _, ⟨_, (by exact hbv.symm), rfl, rfl⟩, ⟨rfl, rfl, rfl, rfl, rfl, trivial⟩, rfl⟩
      · rintro L h ⟨b, hb, rfl, rfl⟩
        refine wCond rfl (fun hc4 => ?_) (fun hc4 => ?_)
        · refine wSeq ?_
          refine wReg ?_
          refine sP rfl rfl rfl (pA rfl rfl) ?_
          refine lNil ?_
          refine wRet ?_
          have hbad : badP ltD d.2.2.2 i f = true := hb.symm.trans hc4
          exact rgs1 (rg_tmp (gives_sub (Sub.of_eq (avI (dgone_form h0 hd hbad).symm))))
        · refine wSkip ?_
          refine wReg ?_
          refine sP rfl rfl rfl (p_iar rfl rfl rfl rfl) ?_
          refine sP rfl rfl rfl (pM rfl rfl) ?_
          refine lNil ?_
          have hbad : badP ltD d.2.2.2 i f = false := hb.symm.trans hc4
          refine ⟨_, _, [.cells g1 29 (encDl d)], [], ?_, ⟨i + 1, rfl, hlt, h2.next hd hbad, rfl, rfl⟩, ⟨rfl, rfl, rfl, avI (wrapI (by omega) (by omega)), trivial⟩, rfl⟩
          omega
    · have hge : i = d.2.2.2.length := by
        have h : ¬ i < d.2.2.2.length := by simpa using hc3
        omega
      rw [hge] at h2
      clear hge hi
      refine wExit ?_
      refine wSeq ?_
      refine wSeq ?_
      refine wReg ?_
      refine sP rfl rfl rfl (p_fieldAddr_own rfl rfl fl29_3 ty27 (by decide)) ?_
      refine sP rfl rfl rfl (pLdO1 0 rfl rfl rfl ty27 rfl) ?_
      refine sP rfl rfl rfl (p_fieldAddr_own rfl rfl fl29_0 ty23 (by decide)) ?_
      refine sP rfl rfl rfl (pLdO 0 rfl rfl rfl ty23 (Nat.le_of_ble_eq_true rfl) rfl) ?_
      refine sP rfl rfl rfl (p_call rfl (dcontains_p d.2.2.2 d.1 ok.ng) ⟨Sub.refl, Sub.refl, trivial⟩) ?_
      refine lNil ?_
      refine wCond rfl (fun hc5 => ?_) (fun hc5 => ?_)
      · refine wSeq ?_
        refine wReg ?_
        refine sP rfl rfl rfl (pA rfl rfl) ?_
        refine lNil ?_
        refine wRet ?_
        have hm : d.1 ∈ d.2.2.2 := by simpa using hc5
        exact rgs1 (rg_tmp (gives_sub (Sub.of_eq (avI (by rw [dgone_in h0 h2, if_pos hm])))))
      · refine wSkip ?_
        refine wSeq ?_
        refine wReg ?_
        refine sP rfl rfl rfl (pA rfl rfl) ?_
        refine lNil ?_
        refine wRet ?_
        have hm : d.1 ∉ d.2.2.2 := by simpa using hc5
        exact rgs1 (rg_tmp (gives_sub (Sub.of_eq (avI (by rw [dgone_in h0 h2, if_neg hm])))))

theorem deltaE_1 {d : DeltaT} (h : chk d.1 ≠ 0) : deltaE d = chk d.1 := by unfold deltaE; rw [if_pos h]
theorem deltaE_2 {d : DeltaT} (h : chk d.1 = 0) (h2 : chkS d.2.1 ≠ 0) : deltaE d = chkS d.2.1 := by unfold deltaE; rw [if_neg (by simpa using h), if_pos h2]
theorem deltaE_3 {d : DeltaT} (h : chk d.1 = 0) (h2 : chkS d.2.1 = 0) (h3 : d.1.1 ≠ d.2.1.2.2) : deltaE d = 5 := by unfold deltaE; rw [if_neg (by simpa using h), if_neg (by simpa using h2), if_pos h3]
theorem deltaE_4 {d : DeltaT} (h : chk d.1 = 0) (h2 : chkS d.2.1 = 0) (h3 : d.1.1 = d.2.1.2.2) (h4 : dfactsE d ≠ 0) : deltaE d = dfactsE d := by unfold deltaE; rw [if_neg (by simpa using h), if_neg (by simpa using h2), if_neg (by simpa using h3), if_pos h4]
theorem deltaE_5 {d : DeltaT} (h : chk d.1 = 0) (h2 : chkS d.2.1 = 0) (h3 : d.1.1 = d.2.1.2.2) (h4 : dfactsE d = 0) (h5 : dgoneE d ≠ 0) : deltaE d = dgoneE d := by unfold deltaE; rw [if_neg (by simpa using h), if_neg (by simpa using h2), if_neg (by simpa using h3), if_neg (by simpa using h4), if_pos h5]
theorem deltaE_6 {d : DeltaT} (h : chk d.1 = 0) (h2 : chkS d.2.1 = 0) (h3 : d.1.1 = d.2.1.2.2) (h4 : dfactsE d = 0) (h5 : dgoneE d = 0) : deltaE d = if 256 < d.2.2.1.length ∨ 256 < d.2.2.2.length then 3 else 0 := by unfold deltaE; rw [if_neg (by simpa using h), if_neg (by simpa using h2), if_neg (by simpa using h3), if_neg (by simpa using h4), if_neg (by simpa using h5)]
def longD (d : DeltaT) : Bool := decide ((256 : Int) < (d.2.2.1.length : Nat)) || decide ((256 : Int) < (d.2.2.2.length : Nat))
theorem longD_yes {d : DeltaT} (h : longD d = true) : 256 < d.2.2.1.length ∨ 256 < d.2.2.2.length := by
  unfold longD at h
  rw [Bool.or_eq_true, decide_eq_true_eq, decide_eq_true_eq] at h
  omega
theorem longD_no {d : DeltaT} (h : longD d = false) : ¬ (256 < d.2.2.1.length ∨ 256 < d.2.2.2.length) := by
  unfold longD at h
  rw [Bool.or_eq_false_iff, decide_eq_false_iff_not, decide_eq_false_iff_not] at h
  omega

set_option maxRecDepth 100000 in
theorem delta_p (d : DeltaT) (ok : OkD d) : PFn Try.prog False 17 [dlA d] (iA (deltaE d)) := by
  refine pfn Try.func17 rfl (by kernel_rfl) 46 rfl _ rfl (Nat.le_of_ble_eq_true rfl) (fun X w0 => ?_)
  refine wSeq ?_
  refine wReg ?_
  refine sBox rfl rfl rfl rfl rfl (fun g1 => ?_)
  refine sP rfl rfl rfl (pA rfl rfl) ?_
  refine lNil ?_
  refine wSeq ?_
  refine wSeq ?_
  refine wReg ?_
  refine sP rfl rfl rfl (p_fieldAddr_own rfl rfl fl29_0 ty23 (by decide)) ?_
  refine sP rfl rfl rfl (pLdO 0 rfl rfl rfl ty23 (Nat.le_of_ble_eq_true rfl) rfl) ?_
  refine sP rfl rfl rfl (p_call rfl (dcheck_p d.1) ⟨Sub.refl, trivial⟩) ?_
  refine sP rfl rfl rfl (pA rfl rfl) ?_
  refine lNil ?_
  refine wSeq ?_
  refine wReg ?_
  refine sP rfl rfl rfl (pM rfl rfl) ?_
  refine sP rfl rfl rfl (p_icmp rfl rfl rfl rfl) ?_
  refine lNil ?_
  refine wCond rfl (fun hc1 => ?_) (fun hc1 => ?_)
  · refine wSeq ?_
    refine wReg ?_
    refine sP rfl rfl rfl (pM rfl rfl) ?_
    refine sP rfl rfl rfl (pA rfl rfl) ?_
    refine lNil ?_
    refine wRet ?_
    have h : chk d.1 ≠ 0 := by simpa using hc1
    exact rgs1 (rg_tmp (gives_sub (Sub.of_eq (avI (deltaE_1 h).symm))))
  · have k1 : chk d.1 = 0 := by simpa using hc1
    refine wSkip ?_
    refine wSeq ?_
    refine wSeq ?_
    refine wReg ?_
    refine sP rfl rfl rfl (p_fieldAddr_own rfl rfl fl29_1 ty25 (by decide)) ?_
    refine sP rfl rfl rfl (pLdO 0 rfl rfl rfl ty25 (Nat.le_of_ble_eq_true rfl) rfl) ?_
    refine sP rfl rfl rfl (p_call rfl (scheck_p d.2.1) ⟨Sub.refl, trivial⟩) ?_
    refine sP rfl rfl rfl (pA rfl rfl) ?_
    refine lNil ?_
    refine wSeq ?_
    refine wReg ?_
    refine sP rfl rfl rfl (pM rfl rfl) ?_
    refine sP rfl rfl rfl (p_icmp rfl rfl rfl rfl) ?_
    refine lNil ?_
    refine wCond rfl (fun hc2 => ?_) (fun hc2 => ?_)
    · refine wSeq ?_
      refine wReg ?_
      refine sP rfl rfl rfl (pM rfl rfl) ?_
      refine sP rfl rfl rfl (pA rfl rfl) ?_
      refine lNil ?_
      refine wRet ?_
      have h : chkS d.2.1 ≠ 0 := by simpa using hc2
      exact rgs1 (rg_tmp (gives_sub (Sub.of_eq (avI (deltaE_2 k1 h).symm))))
    · have k2 : chkS d.2.1 = 0 := by simpa using hc2
      refine wSkip ?_
      refine wSeq ?_
      refine wSeq ?_
      refine wReg ?_
      refine sP rfl rfl rfl (p_fieldAddr_own rfl rfl fl29_0 ty23 (by decide)) ?_
      refine sP rfl rfl rfl (p_fieldAddr_own rfl rfl fl23_0 ty3 (by decide)) ?_
      refine sP rfl rfl rfl (pLdO1 0 rfl rfl rfl ty3 rfl) ?_
      refine sP rfl rfl rfl (p_fieldAddr_own rfl rfl fl29_1 ty25 (by decide)) ?_
      refine sP rfl rfl rfl (p_fieldAddr_own rfl rfl fl25_2 ty3 (by decide)) ?_
      refine sP rfl rfl rfl (pLdO1 0 rfl rfl rfl ty3 rfl) ?_
      refine sP rfl rfl rfl (p_icmp rfl rfl rfl rfl) ?_
      refine lNil ?_
      refine wCond rfl (fun hc3 => ?_) (fun hc3 => ?_)
      · refine wSeq ?_
        refine wReg ?_
        refine sP rfl rfl rfl (pA rfl rfl) ?_
        refine lNil ?_
        refine wRet ?_
        have h : d.1.1 ≠ d.2.1.2.2 := by simpa using hc3
        exact rgs1 (rg_tmp (gives_sub (Sub.of_eq (avI (deltaE_3 k1 k2 h).symm))))
      · have k3 : d.1.1 = d.2.1.2.2 := by simpa using hc3
        refine wSkip ?_
        refine wSeq ?_
        refine wSeq ?_
        refine wReg ?_
        refine sP rfl rfl rfl (pLdW 0 rfl rfl rfl ty29 rfl) ?_
        refine sP rfl rfl rfl (p_call rfl (dfacts_p d ok) ⟨Sub.refl, trivial⟩) ?_
        refine sP rfl rfl rfl (pA rfl rfl) ?_
        refine lNil ?_
        refine wSeq ?_
        refine wReg ?_
        refine sP rfl rfl rfl (pM rfl rfl) ?_
        refine sP rfl rfl rfl (p_icmp rfl rfl rfl rfl) ?_
        refine lNil ?_
        refine wCond rfl (fun hc4 => ?_) (fun hc4 => ?_)
        · refine wSeq ?_
          refine wReg ?_
          refine sP rfl rfl rfl (pM rfl rfl) ?_
          refine sP rfl rfl rfl (pA rfl rfl) ?_
          refine lNil ?_
          refine wRet ?_
          have h : dfactsE d ≠ 0 := by simpa using hc4
          exact rgs1 (rg_tmp (gives_sub (Sub.of_eq (avI (deltaE_4 k1 k2 k3 h).symm))))
        · have k4 : dfactsE d = 0 := by simpa using hc4
          refine wSkip ?_
          refine wSeq ?_
          refine wSeq ?_
          refine wReg ?_
          refine sP rfl rfl rfl (pLdW 0 rfl rfl rfl ty29 rfl) ?_
          refine sP rfl rfl rfl (p_call rfl (dgone_p d ok) ⟨Sub.refl, trivial⟩) ?_
          refine sP rfl rfl rfl (pA rfl rfl) ?_
          refine lNil ?_
          refine wSeq ?_
          refine wReg ?_
          refine sP rfl rfl rfl (pM rfl rfl) ?_
          refine sP rfl rfl rfl (p_icmp rfl rfl rfl rfl) ?_
          refine lNil ?_
          refine wCond rfl (fun hc5 => ?_) (fun hc5 => ?_)
          · refine wSeq ?_
            refine wReg ?_
            refine sP rfl rfl rfl (pM rfl rfl) ?_
            refine sP rfl rfl rfl (pA rfl rfl) ?_
            refine lNil ?_
            refine wRet ?_
            have h : dgoneE d ≠ 0 := by simpa using hc5
            exact rgs1 (rg_tmp (gives_sub (Sub.of_eq (avI (deltaE_5 k1 k2 k3 k4 h).symm))))
          · have k5 : dgoneE d = 0 := by simpa using hc5
            refine wSkip ?_
            refine wSeq ?_
            refine wCut (fun L h => ∃ b : Bool, b = (longD d) ∧ L = [(1, .x (.pointer (some ⟨g1, 0, none⟩))), (45, bA b)] ∧ h = [.cells g1 29 (encDl d)]) ?_ ?_
            · cases hb : (decide ((256 : Int) < (d.2.2.1.length : Nat))) with
              | true =>
                refine wReg ?_
                refine sP rfl rfl rfl (p_fieldAddr_own rfl rfl fl29_2 ty26 (by decide)) ?_
                refine sP rfl rfl rfl (pLdO1 0 rfl rfl rfl ty26 rfl) ?_
                refine sP rfl rfl rfl (p_len_sl rfl rfl Try.underlying26) ?_
                refine sP rfl rfl rfl (p_icmp rfl rfl rfl (congrArg some hb)) ?_
                refine sP rfl rfl rfl (pM rfl rfl) ?_
                refine sU rfl rfl rfl (by decide) rfl rfl ?_
                refine sU rfl rfl rfl (by decide) rfl rfl ?_
                refine sU rfl rfl rfl (by decide) rfl rfl ?_
                refine sU rfl rfl rfl (by decide) rfl rfl ?_
                refine sP rfl rfl rfl (p_pick rfl rfl rfl) ?_
                refine lNil ?_
                exact ⟨_, [.cells g1 29 (encDl d)], [], ⟨_, (by exact (by unfold longD; rw [hb]; rfl)), rfl, rfl⟩, ⟨rfl, rfl, trivial⟩, rfl⟩
              | false =>
                refine wReg ?_
                refine sP rfl rfl rfl (p_fieldAddr_own rfl rfl fl29_2 ty26 (by decide)) ?_
                refine sP rfl rfl rfl (pLdO1 0 rfl rfl rfl ty26 rfl) ?_
                refine sP rfl rfl rfl (p_len_sl rfl rfl Try.underlying26) ?_
                refine sP rfl rfl rfl (p_icmp rfl rfl rfl (congrArg some hb)) ?_
                refine sP rfl rfl rfl (pM rfl rfl) ?_
                refine sG rfl rfl rfl rfl rfl (p_fieldAddr_own rfl rfl fl29_3 ty27 (by decide)) ?_
                refine sG rfl rfl rfl rfl rfl (pLdO1 0 rfl rfl rfl ty27 rfl) ?_
                refine sG rfl rfl rfl rfl rfl (p_len_sl rfl rfl Try.underlying27) ?_
                refine sG rfl rfl rfl rfl rfl (p_icmp rfl rfl rfl rfl) ?_
                refine sP rfl rfl rfl (p_pick rfl rfl rfl) ?_
                refine lNil ?_
                exact ⟨_, [.cells g1 29 (encDl d)], [], ⟨_, (by exact (by unfold longD; rw [hb]; rfl)), rfl, rfl⟩, ⟨rfl, rfl, trivial⟩, rfl⟩
            · rintro L h ⟨b, hb, rfl, rfl⟩
              refine wCond rfl (fun hc6 => ?_) (fun hc6 => ?_)
              · refine wSeq ?_
                refine wReg ?_
                refine sP rfl rfl rfl (pA rfl rfl) ?_
                refine lNil ?_
                refine wRet ?_
                exact rgs1 (rg_tmp (gives_sub (Sub.of_eq (avI (by rw [deltaE_6 k1 k2 k3 k4 k5, if_pos (longD_yes (hb.symm.trans hc6))])))))
              · refine wSkip ?_
                refine wSeq ?_
                refine wReg ?_
                refine sP rfl rfl rfl (pA rfl rfl) ?_
                refine lNil ?_
                refine wRet ?_
                exact rgs1 (rg_tmp (gives_sub (Sub.of_eq (avI (by rw [deltaE_6 k1 k2 k3 k4 k5, if_neg (longD_no (hb.symm.trans hc6))])))))
set_option maxRecDepth 100000 in
theorem deless_p (x y : DeltaT) : PFn Try.prog False 19 [dlA x, dlA y] (bA (ltD x.1 y.1)) := by
  refine pfn Try.func19 rfl (by kernel_rfl) 10 rfl _ rfl (Nat.le_of_ble_eq_true rfl) (fun X w0 => ?_)
  refine wSeq ?_
  refine wReg ?_
  refine sBox rfl rfl rfl rfl rfl (fun g2 => ?_)
  refine sBox rfl rfl rfl rfl rfl (fun g3 => ?_)
  refine sP rfl rfl rfl (pA rfl rfl) ?_
  refine lNil ?_
  refine wSeq ?_
  refine wReg ?_
  refine sP rfl rfl rfl (p_fieldAddr_own rfl rfl fl29_0 ty23 (by decide)) ?_
  refine sP rfl rfl rfl (pLdO 0 rfl rfl rfl ty23 (Nat.le_of_ble_eq_true rfl) rfl) ?_
  refine sP rfl rfl rfl (p_fieldAddr_own rfl rfl fl29_0 ty23 (by decide)) ?_
  refine sP rfl rfl rfl (pLdO 1 rfl rfl rfl ty23 (Nat.le_of_ble_eq_true rfl) rfl) ?_
  refine sP rfl rfl rfl (p_call rfl (dless_p x.1 y.1) ⟨Sub.refl, Sub.refl, trivial⟩) ?_
  refine sP rfl rfl rfl (pA rfl rfl) ?_
  refine lNil ?_
  refine wRet ?_
  exact rgs1 (rg_tmp (gives_sub (Sub.of_eq (rfl))))
end Go.Proofs.Ytmhkalalcmkpbaa
