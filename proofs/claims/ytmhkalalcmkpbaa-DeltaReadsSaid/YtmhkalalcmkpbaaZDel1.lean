/-
  Del Dw BTD Del1
-/
import Derived.Test.YtmhkalalcmkpbaaZBT2
import Derived.Test.YtmhkalalcmkpbaaZC7
import Derived.Test.YtmhkalalcmkpbaaZDotIn
import Derived.Test.YtmhkalalcmkpbaaZDotMay2
import Derived.Test.YtmhkalalcmkpbaaZDotPlain
import Derived.Test.YtmhkalalcmkpbaaZDotPut
import Derived.Test.YtmhkalalcmkpbaaZDotRSort
import Derived.Test.YtmhkalalcmkpbaaZDotRead2
import Derived.Test.YtmhkalalcmkpbaaZDotSame
import Derived.Test.YtmhkalalcmkpbaaZFacBack2
import Derived.Test.YtmhkalalcmkpbaaZFr
import Derived.Test.YtmhkalalcmkpbaaZLfoB
import Derived.Test.YtmhkalalcmkpbaaZStampW
namespace Go.Proofs.Ytmhkalalcmkpbaa
set_option linter.unusedVariables false
set_option linter.unusedSimpArgs false

theorem chkAll_snoc {α : Type} (c : α → Int) (l : List α) (x : α) : chkAll c (l ++ [x]) = if chkAll c l ≠ 0 then chkAll c l else c x := by
  induction l with
  | nil =>
    show (if c x ≠ 0 then c x else 0) = _
    simp only [chkAll, ne_eq, not_true, if_false]
    by_cases h : c x = 0
    · rw [if_neg (by simpa using h), h]
    · rw [if_pos h]
  | cons y l ih =>
    show (if c y ≠ 0 then c y else chkAll c (l ++ [x])) = if (if c y ≠ 0 then c y else chkAll c l) ≠ 0 then (if c y ≠ 0 then c y else chkAll c l) else c x
    by_cases h : c y = 0
    · simp only [h, ne_eq, not_true, if_false]; exact ih
    · simp only [h, ne_eq, not_false_eq_true, if_true]
theorem chkTo_take (l : List (Int × Int)) : ∀ k, k ≤ l.length → chkTo l k = chkAll chk (l.take k)
  | 0, _ => by simp [chkTo, chkAll]
  | k + 1, h => by
    have hk : k < l.length := by omega
    have e : l.take (k + 1) = l.take k ++ [l.getD k default] := by
      rw [← List.take_append_getElem hk]
      simp [List.getD, List.getElem?_eq_getElem hk]
    rw [e, chkAll_snoc, ← chkTo_take l k (by omega)]
    rfl
theorem rises_G (l : List (Int × Int)) : Rises l l.length ↔ risesG ltD l = true := by
  rw [rises_iff]
  unfold Rises
  constructor
  · intro h j x y hx hy
    obtain ⟨hj, rfl⟩ := List.getElem?_eq_some_iff.1 hy
    obtain ⟨hj', rfl⟩ := List.getElem?_eq_some_iff.1 hx
    have := h (j + 1) hj (by omega)
    simpa [List.getD, List.getElem?_eq_getElem hj, List.getElem?_eq_getElem hj'] using this
  · intro h i hi h1
    have hp : i - 1 < l.length := by omega
    have := h (i - 1) _ _ (List.getElem?_eq_getElem hp) (by rw [show i - 1 + 1 = i by omega]; exact List.getElem?_eq_getElem hi)
    simpa [List.getD, List.getElem?_eq_getElem hi, List.getElem?_eq_getElem hp] using this
theorem mayE_G (l : List (Int × Int)) : mayE l = mayG chk ltD l := by
  unfold mayE mayG
  rw [chkTo_take l _ (Nat.le_refl _), List.take_length]
  by_cases h : Rises l l.length
  · rw [if_pos h, if_pos ((rises_G l).1 h)]
  · rw [if_neg h, if_neg (fun g => h ((rises_G l).2 g))]

abbrev DeltaT := (Int × Int) × (Int × Int × Int) × List FactT × List (Int × Int)
def sameF (d : DeltaT) (f : FactT) : Bool := decide (f.1 = d.1) && decide (f.2.1 = d.2.1)
def dfactsE (d : DeltaT) : Int := if chkAll chkF d.2.2.1 ≠ 0 then chkAll chkF d.2.2.1 else if (d.2.2.1.all (sameF d) && risesG ltF d.2.2.1) = true then 0 else 5
def dgoneE (d : DeltaT) : Int := if mayG chk ltD d.2.2.2 ≠ 0 then mayG chk ltD d.2.2.2 else if d.1 ∈ d.2.2.2 then 5 else 0
/-- Why an update may not be. -/
def deltaE (d : DeltaT) : Int :=
  if chk d.1 ≠ 0 then chk d.1 else if chkS d.2.1 ≠ 0 then chkS d.2.1 else if d.1.1 ≠ d.2.1.2.2 then 5 else
  if dfactsE d ≠ 0 then dfactsE d else if dgoneE d ≠ 0 then dgoneE d else if 256 < d.2.2.1.length ∨ 256 < d.2.2.2.length then 3 else 0
def numsD (d : DeltaT) : List Int := [d.1.1, d.1.2, d.2.1.1, d.2.1.2.1]
def partsD (d : DeltaT) : List ByteArray := [fputS d.2.2.1, putS d.2.2.2]
def dputE (d : DeltaT) : Int := if deltaE d ≠ 0 then deltaE d else if 65536 < (fputS d.2.2.1).size ∨ 65536 < (putS d.2.2.2).size then 3 else 0
def dputS (d : DeltaT) : ByteArray := if dputE d ≠ 0 then ⟨#[]⟩ else cat ((numsD d).map numS) ++ cat ((partsD d).map txS)

def dAt (s : ByteArray) : ByteArray × (ByteArray × Int) := rdT (rF4 (s, 0))
def dBt (s : ByteArray) : ByteArray × (ByteArray × Int) := rdT (dAt s).2
def dreadD (s : ByteArray) : DeltaT := (((rdN (s, 0)).1, (rdN (rF1 (s, 0))).1), ((rdN (rF2 (s, 0))).1, (rdN (rF3 (s, 0))).1, (rdN (s, 0)).1), freadL (dAt s).1, (readD (dBt s).1).1)
def dreadE (s : ByteArray) : Int := if doneE (dBt s).2 ≠ 0 then doneE (dBt s).2 else if freadE (dAt s).1 ≠ 0 then freadE (dAt s).1 else if (readD (dBt s).1).2 ≠ 0 then (readD (dBt s).1).2 else deltaE (dreadD s)
def zeroD : DeltaT := ((0, 0), (0, 0, 0), [], [])
def dreadT (s : ByteArray) : DeltaT := if dreadE s ≠ 0 then zeroD else dreadD s

theorem ifE {c a : Int} (h : (if c ≠ 0 then c else a) = 0) : c = 0 ∧ a = 0 := by
  by_cases g : c = 0
  · rw [if_neg (by simpa using g)] at h; exact ⟨g, h⟩
  · rw [if_pos g] at h; exact absurd h g
theorem ifE_mk {c a : Int} (h : c = 0) (h2 : a = 0) : (if c ≠ 0 then c else a) = 0 := by rw [if_neg (by simpa using h), h2]
theorem ifP {p : Prop} [Decidable p] {k a : Int} (hk : k ≠ 0) (h : (if p then k else a) = 0) : ¬ p ∧ a = 0 := by
  by_cases g : p
  · rw [if_pos g] at h; exact absurd h hk
  · rw [if_neg g] at h; exact ⟨g, h⟩
theorem deltaE_zero {d : DeltaT} (h : deltaE d = 0) : chk d.1 = 0 ∧ chkS d.2.1 = 0 ∧ d.1.1 = d.2.1.2.2 ∧ fputE d.2.2.1 = 0 ∧ putE d.2.2.2 = 0 ∧ d.2.2.1.length ≤ 256 ∧ d.2.2.2.length ≤ 256 := by
  unfold deltaE at h
  obtain ⟨h1, h⟩ := ifE h
  obtain ⟨h2, h⟩ := ifE h
  obtain ⟨h3, h⟩ := ifP (by decide) h
  obtain ⟨h4, h⟩ := ifE h
  obtain ⟨h5, h⟩ := ifE h
  obtain ⟨h6, _⟩ := ifP (by decide) h
  unfold dfactsE at h4
  obtain ⟨g1, g2⟩ := ifE h4
  have g3 : (d.2.2.1.all (sameF d) && risesG ltF d.2.2.1) = true := by
    by_cases g : (d.2.2.1.all (sameF d) && risesG ltF d.2.2.1) = true
    · exact g
    · rw [if_neg g] at g2; cases g2
  rw [Bool.and_eq_true] at g3
  unfold dgoneE at h5
  obtain ⟨k1, k2⟩ := ifE h5
  refine ⟨h1, h2, by omega, ?_, ?_, by omega, by omega⟩
  · unfold fputE; rw [if_neg (by omega)]; unfold mayG; exact ifE_mk g1 (if_pos g3.2)
  · unfold putE; rw [if_neg (by omega), mayE_G]; exact k1
theorem dputE_zero {d : DeltaT} (h : dputE d = 0) : deltaE d = 0 ∧ (fputS d.2.2.1).size ≤ 65536 ∧ (putS d.2.2.2).size ≤ 65536 := by
  unfold dputE at h
  obtain ⟨h1, h⟩ := ifE h
  obtain ⟨h2, _⟩ := ifP (by decide) h
  exact ⟨h1, by omega, by omega⟩
theorem chk_okN {d : Int × Int} (h : chk d = 0) : okN d.1 ∧ okN d.2 := by
  unfold chk at h
  obtain ⟨h, _⟩ := ifP (by decide) h
  exact ⟨⟨by omega, by omega⟩, ⟨by omega, by omega⟩⟩
theorem chkS_okN {d : Int × Int × Int} (h : chkS d = 0) : okN d.1 ∧ okN d.2.1 := by
  unfold chkS at h
  obtain ⟨h, _⟩ := ifP (by decide) h
  exact ⟨⟨by omega, by omega⟩, ⟨by omega, by omega⟩⟩
theorem cat4 (a b c d : ByteArray) : (cat [a, b, c, d]).data.toList = a.data.toList ++ (b.data.toList ++ (c.data.toList ++ d.data.toList)) := by
  rw [cat_data]; simp
theorem cat2 (a b : ByteArray) : (cat [a, b]).data.toList = a.data.toList ++ b.data.toList := by
  rw [cat_data]; simp
theorem dputS_data {d : DeltaT} (h : dputE d = 0) : (dputS d).data.toList = bytesN d.1.1.toNat ++ (bytesN d.1.2.toNat ++ (bytesN d.2.1.1.toNat ++ (bytesN d.2.1.2.1.toNat ++ (txB (fputS d.2.2.1) ++ (txB (putS d.2.2.2) ++ []))))) := by
  obtain ⟨h0, h1, h2⟩ := dputE_zero h
  obtain ⟨c1, c2, c3, c4, c5, c6, c7⟩ := deltaE_zero h0
  obtain ⟨n1, n2⟩ := chk_okN c1
  obtain ⟨n3, n4⟩ := chkS_okN c2
  unfold dputS
  rw [if_neg (by simpa using h)]
  rw [app_data]
  show (cat [numS _, numS _, numS _, numS _]).data.toList ++ (cat [txS _, txS _]).data.toList = _
  rw [cat4, cat2, numS_data _ n1.1 n1.2, numS_data _ n2.1 n2.2, numS_data _ n3.1 n3.2, numS_data _ n4.1 n4.2, txS_data _ h1, txS_data _ h2]
  simp only [List.append_assoc, List.append_nil]
theorem dread_put {d : DeltaT} (h : dputE d = 0) : dreadE (dputS d) = 0 ∧ dreadT (dputS d) = d := by
  have hd := dputS_data h
  obtain ⟨h0, h1, h2⟩ := dputE_zero h
  obtain ⟨c1, c2, c3, c4, c5, c6, c7⟩ := deltaE_zero h0
  obtain ⟨n1, n2⟩ := chk_okN c1
  obtain ⟨n3, n4⟩ := chkS_okN c2
  generalize dputS d = s at hd ⊢
  obtain ⟨s1, e1, d1⟩ := rdN_put s _ _ (by have := n1.2; omega) hd
  obtain ⟨s2, e2, d2⟩ := rdN_put s1 _ _ (by have := n2.2; omega) d1
  obtain ⟨s3, e3, d3⟩ := rdN_put s2 _ _ (by have := n3.2; omega) d2
  obtain ⟨s4, e4, d4⟩ := rdN_put s3 _ _ (by have := n4.2; omega) d3
  obtain ⟨s5, e5, d5⟩ := rdT_put s4 _ _ h1 d4
  obtain ⟨s6, e6, d6⟩ := rdT_put s5 _ _ h2 d5
  have f1 : rF1 (s, 0) = (s1, 0) := by unfold rF1; rw [e1]
  have f2 : rF2 (s, 0) = (s2, 0) := by unfold rF2; rw [f1, e2]
  have f3 : rF3 (s, 0) = (s3, 0) := by unfold rF3; rw [f2, e3]
  have f4 : rF4 (s, 0) = (s4, 0) := by unfold rF4; rw [f3, e4]
  have fa : dAt s = (fputS d.2.2.1, (s5, 0)) := by unfold dAt; rw [f4, e5]
  have fb : dBt s = (putS d.2.2.2, (s6, 0)) := by unfold dBt; rw [fa]; exact e6
  have hs : s6.size = 0 := by rw [← len_data, d6]; rfl
  have hdn : doneE (s6, 0) = 0 := by unfold doneE; rw [if_neg (by simp), if_pos hs]
  obtain ⟨p1, p2⟩ := fread_put c4
  have p3 := readD_put _ c5
  have hD : dreadD s = d := by
    unfold dreadD
    rw [fa, fb, f1, f2, f3, e1, e2, e3, e4]
    obtain ⟨⟨x1, x2⟩, ⟨x3, x4, x5⟩, x6, x7⟩ := d
    have hsame : x1 = x5 := c3
    subst hsame
    simp only [p2, p3, Int.toNat_of_nonneg n1.1, Int.toNat_of_nonneg n2.1, Int.toNat_of_nonneg n3.1, Int.toNat_of_nonneg n4.1]
  have hE : dreadE s = 0 := by
    unfold dreadE
    rw [fa, fb, hD]
    exact ifE_mk hdn (ifE_mk p1 (ifE_mk (by rw [p3]) h0))
  refine ⟨hE, ?_⟩
  unfold dreadT
  rw [if_neg (by simpa using hE), hD]
theorem doneE_zero {st : ByteArray × Int} (h2 : doneE st = 0) : st.2 = 0 ∧ st.1.size = 0 := by
  unfold doneE at h2
  by_cases a : st.2 = 0
  · rw [if_neg (by simpa using a)] at h2
    by_cases b : st.1.size = 0
    · exact ⟨a, b⟩
    · rw [if_neg b] at h2; cases h2
  · rw [if_pos a] at h2; exact absurd h2 a
theorem dput_read {s : ByteArray} (h : dreadE s = 0) : dputE (dreadT s) = 0 ∧ dputS (dreadT s) = s := by
  have hT : dreadT s = dreadD s := by unfold dreadT; rw [if_neg (by simpa using h)]
  rw [hT]
  unfold dreadE at h
  obtain ⟨h1, h⟩ := ifE h
  obtain ⟨h2, h⟩ := ifE h
  obtain ⟨h3, h0⟩ := ifE h
  obtain ⟨g1, g2⟩ := doneE_zero h1
  have h6 : (rdT (dAt s).2).2.2 = 0 := g1
  obtain ⟨a5, b5, c5⟩ := rdT_back (dAt s).2.1 (dAt s).2.2 h6
  have h5 : (rdT (rF4 (s, 0))).2.2 = 0 := a5
  obtain ⟨a4, b4, c4⟩ := rdT_back (rF4 (s, 0)).1 (rF4 (s, 0)).2 h5
  have h4 : (rdN (rF3 (s, 0))).2.2 = 0 := a4
  obtain ⟨a3, b3, c3⟩ := rdN_back (rF3 (s, 0)).1 (rF3 (s, 0)).2 h4
  have h3' : (rdN (rF2 (s, 0))).2.2 = 0 := a3
  obtain ⟨a2, b2, c2⟩ := rdN_back (rF2 (s, 0)).1 (rF2 (s, 0)).2 h3'
  have h2' : (rdN (rF1 (s, 0))).2.2 = 0 := a2
  obtain ⟨a1, b1, c1⟩ := rdN_back (rF1 (s, 0)).1 (rF1 (s, 0)).2 h2'
  have h1' : (rdN (s, 0)).2.2 = 0 := a1
  obtain ⟨a0, b0, c0⟩ := rdN_back s 0 h1'
  obtain ⟨q1, q2⟩ := fput_read h2
  obtain ⟨q3, q4⟩ := readD_back _ h3
  have hA : (fputS (dreadD s).2.2.1) = (dAt s).1 := q2
  have hB : (putS (dreadD s).2.2.2) = (dBt s).1 := q4
  have s1 : (dAt s).1.size ≤ 65536 := c4
  have s2 : (dBt s).1.size ≤ 65536 := c5
  have hE : dputE (dreadD s) = 0 := by
    unfold dputE
    refine ifE_mk h0 (if_neg ?_)
    rw [hA, hB]; omega
  refine ⟨hE, ba_ext ?_⟩
  rw [dputS_data hE, hA, hB]
  have e : (dBt s).2.1.data.toList = [] := List.eq_nil_of_length_eq_zero (by rw [len_data]; exact g2)
  rw [← e]
  show bytesN (Int.toNat _) ++ _ = _
  simp only [dreadD, Int.toNat_natCast]
  exact (b0.trans (congrArg (bytesN _ ++ ·) (b1.trans (congrArg (bytesN _ ++ ·) (b2.trans (congrArg (bytesN _ ++ ·) (b3.trans (congrArg (bytesN _ ++ ·) (b4.trans (congrArg (txB _ ++ ·) b5)))))))))).symm
end Go.Proofs.Ytmhkalalcmkpbaa

namespace Go.Proofs.Ytmhkalalcmkpbaa
open Go Go.RowKit
set_option linter.unusedVariables false
set_option linter.unusedSimpArgs false

def encA (d : Int × Int) : List AV := [iA d.1, iA d.2]
abbrev slD (l : List (Int × Int)) : AV := .sl 2 l.length (l.flatMap encA)
theorem encA2 (x : Int × Int) : (encA x).length = 2 := rfl
theorem encA_flat (l : List (Int × Int)) : l.flatMap encA = (l.flatMap encD).map AV.x := by
  induction l with
  | nil => rfl
  | cons d l ih => rw [List.flatMap_cons, List.flatMap_cons, List.map_append, ih]; rfl
theorem slD_len (l : List (Int × Int)) : (l.flatMap encA).length = l.length * 2 := by rw [encA_flat, List.length_map, flat_length]
theorem slD_open {O : Nat → Prop} {w : World} {l : List (Int × Int)} {v : Value} (h : Rep O w (slD l) v) : ∃ A c, v = .slice A l.length c ∧ RdD w w.heap.size A l.length l := by
  simp only [Rep] at h
  obtain ⟨h0, A, c, rfl, h1, h2, h3⟩ := h
  refine ⟨A, c, rfl, flat_length l, fun hl => ?_⟩
  rcases h3 with h3 | ⟨ad, rfl, h4, h5, h6⟩
  · omega
  · refine ⟨ad, rfl, h4, fun j u hj => ?_⟩
    obtain ⟨u', hu, hr⟩ := h6.at_ j (.x u) (by rw [encA_flat, List.getElem?_map, hj]; rfl)
    rw [rep_x] at hr
    rw [hu, hr]
theorem slD_close {O : Nat → Prop} {w : World} {base : Nat} {v : Value} {l : List (Int × Int)} (hO : ∀ b, O b → b < base) (h : OwnD w base v l) : Rep O w (slD l) v := by
  simp only [Rep]
  refine ⟨slD_len l, ?_⟩
  rcases h.2 with ⟨rfl, h0⟩ | ⟨g, cap, cur, rfl, hb, hh, hn, hc, hsz, htk⟩
  · exact ⟨none, 0, by rw [h0], by omega, by omega, .inl (by rw [h0])⟩
  · simp only [maxLen] at hc
    refine ⟨_, cap, rfl, hn, hc, .inr ⟨_, rfl, (Array.getElem?_eq_some_iff.1 hh).1, fun hx => ?_, ?_⟩⟩
    · have := hO _ hx
      simp only at this
      omega
    · refine RepC.mk fun j cc hj => ?_
      rw [encA_flat, List.getElem?_map] at hj
      obtain ⟨u, hu, rfl⟩ := Option.map_eq_some_iff.1 hj
      obtain ⟨ad, h1, h2, h3⟩ := (Reads.of_own h).2 (by
        rcases Nat.eq_zero_or_pos l.length with g0 | g0
        · have : l = [] := List.eq_nil_of_length_eq_zero g0
          subst this; simp at hu
        · exact g0)
      cases h1
      exact ⟨u, h3 j u hu, rep_x.2 rfl⟩
theorem args1 {args : Array Value} {v : Value} (hl : args.size = 1) (h : args[0]? = some v) : args = #[v] := by
  refine Array.ext (by simpa using hl) fun i h1 h2 => ?_
  obtain rfl : i = 0 := by omega
  have := (Array.getElem?_eq_some_iff.1 h).2
  simpa using this
theorem args2 {args : Array Value} {v u : Value} (hl : args.size = 2) (h : args[0]? = some v) (h' : args[1]? = some u) : args = #[v, u] := by
  refine Array.ext (by simpa using hl) fun i h1 h2 => ?_
  have e0 := (Array.getElem?_eq_some_iff.1 h).2
  have e1 := (Array.getElem?_eq_some_iff.1 h').2
  rcases i with _ | _ | i
  · simpa using e0
  · simpa using e1
  · omega
variable {P : Program} {g : FuncId}
theorem pfn_d1 {l : List (Int × Int)} {av : AV} (he : ∀ (args : Array Value) (w : World), (callFunc g args).run P w = .ok (.enter g args) w) (h2 : av.ex = true)
    (hc : ∀ A c w, RdD w w.heap.size A l.length l → Calls P g #[.slice A l.length c] w fun e w' => e = .returned av.val ∧ Below w.heap.size w w') : PFn P False g [slD l] av :=
  ⟨he, fun O w args hO hl hr => by
    simp only [RepC] at hr
    obtain ⟨⟨v, hv, hr⟩, _⟩ := hr
    obtain ⟨A, c, rfl, hrd⟩ := slD_open hr
    rw [args1 hl hv]
    exact (hc A c w hrd).mono fun e w' ⟨h3, h4⟩ => ⟨_, h3, (AV.rep_val av h2 _).2 rfl, bl_weak h4⟩⟩
theorem pfn_d2 {l : List (Int × Int)} {b av : AV} (he : ∀ (args : Array Value) (w : World), (callFunc g args).run P w = .ok (.enter g args) w) (h1 : b.ex = true) (h2 : av.ex = true)
    (hc : ∀ A c w, RdD w w.heap.size A l.length l → Calls P g #[.slice A l.length c, b.val] w fun e w' => e = .returned av.val ∧ Below w.heap.size w w') : PFn P False g [slD l, b] av :=
  ⟨he, fun O w args hO hl hr => by
    simp only [RepC] at hr
    obtain ⟨⟨v, hv, hr⟩, ⟨u, hu, hr2⟩, _⟩ := hr
    obtain ⟨A, c, rfl, hrd⟩ := slD_open hr
    obtain rfl := (AV.rep_val b h1 _).1 hr2
    rw [args2 hl hv hu]
    exact (hc A c w hrd).mono fun e w' ⟨h3, h4⟩ => ⟨_, h3, (AV.rep_val av h2 _).2 rfl, bl_weak h4⟩⟩
theorem pfn_dd {l m : List (Int × Int)} {av : AV} (he : ∀ (args : Array Value) (w : World), (callFunc g args).run P w = .ok (.enter g args) w) (h2 : av.ex = true)
    (hc : ∀ A c A' c' w, RdD w w.heap.size A l.length l → RdD w w.heap.size A' m.length m → Calls P g #[.slice A l.length c, .slice A' m.length c'] w fun e w' => e = .returned av.val ∧ Below w.heap.size w w') : PFn P False g [slD l, slD m] av :=
  ⟨he, fun O w args hO hl hr => by
    simp only [RepC] at hr
    obtain ⟨⟨v, hv, hr⟩, ⟨u, hu, hr2⟩, _⟩ := hr
    obtain ⟨A, c, rfl, hrd⟩ := slD_open hr
    obtain ⟨A', c', rfl, hrd'⟩ := slD_open hr2
    rw [args2 hl hv hu]
    exact (hc A c A' c' w hrd hrd').mono fun e w' ⟨h3, h4⟩ => ⟨_, h3, (AV.rep_val av h2 _).2 rfl, bl_weak h4⟩⟩
theorem pfn_sd {s : ByteArray} {l : List (Int × Int)} {r : Int} (he : ∀ (args : Array Value) (w : World), (callFunc g args).run P w = .ok (.enter g args) w)
    (hc : ∀ w, Calls P g #[.string s] w fun e w' => RetO w.heap.size w' e l r ∧ Below w.heap.size w w') : PFn P False g [sA s] (.tup [slD l, iA r]) :=
  ⟨he, fun O w args hO hl hr => by
    simp only [RepC] at hr
    obtain ⟨⟨v, hv, hr⟩, _⟩ := hr
    rw [rep_x] at hr
    subst hr
    rw [args1 hl hv]
    refine (hc w).mono ?_
    rintro e w' ⟨⟨v, rfl, ho⟩, h4⟩
    refine ⟨_, rfl, ?_, bl_weak h4⟩
    simp only [Rep]
    refine ⟨_, rfl, rfl, ?_⟩
    simp only [RepC]
    exact ⟨⟨_, rfl, slD_close hO ho⟩, ⟨_, rfl, rep_x.2 rfl⟩, trivial⟩⟩
theorem pfn_dsl {l m : List (Int × Int)} (he : ∀ (args : Array Value) (w : World), (callFunc g args).run P w = .ok (.enter g args) w)
    (hc : ∀ A c w, RdD w w.heap.size A l.length l → Calls P g #[.slice A l.length c] w fun e w' => ∃ v, e = .returned v ∧ OwnD w' w.heap.size v m ∧ Below w.heap.size w w') : PFn P False g [slD l] (slD m) :=
  ⟨he, fun O w args hO hl hr => by
    simp only [RepC] at hr
    obtain ⟨⟨v, hv, hr⟩, _⟩ := hr
    obtain ⟨A, c, rfl, hrd⟩ := slD_open hr
    rw [args1 hl hv]
    refine (hc A c w hrd).mono ?_
    rintro e w' ⟨v, rfl, ho, h4⟩
    exact ⟨_, rfl, slD_close hO ho, bl_weak h4⟩⟩

theorem dcheck_p (d : Int × Int) : PFn Try.prog False 70 [dA d] (iA (chk d)) := pfn_ex rfl rfl (enter_of Try.func70 (by kernel_rfl) rfl) fun w => (check_c d w).mono fun e w' ⟨h1, h2⟩ => ⟨h1, bl_weak h2⟩
theorem rdcheck_p (d : Int × Int) : PFn Try.prog False 74 [dA d] (iA (chk d)) := pfn_ex rfl rfl (enter_of Try.func74 (by kernel_rfl) rfl) fun w => (rcheck_c d w).mono fun e w' ⟨h1, h2⟩ => ⟨h1, bl_weak h2⟩
theorem scheck_p (d : Int × Int × Int) : PFn Try.prog False 71 [wA d] (iA (chkS d)) := pfn_ex rfl rfl (enter_of Try.func71 (by kernel_rfl) rfl) fun w => (schk_c d w).mono fun e w' ⟨h1, h2⟩ => ⟨h1, bl_weak h2⟩
theorem rscheck_p (d : Int × Int × Int) : PFn Try.prog False 75 [wA d] (iA (chkS d)) := pfn_ex rfl rfl (enter_of Try.func75 (by kernel_rfl) rfl) fun w => (rschk_c d w).mono fun e w' ⟨h1, h2⟩ => ⟨h1, bl_weak h2⟩
theorem rdchecks_p (l : List (Int × Int)) (hn : l.length < 1000000) : PFn Try.prog False 77 [slD l] (iA (mayG chk ltD l)) := by
  rw [← mayE_G]
  exact pfn_d1 (enter_of Try.func77 (by kernel_rfl) rfl) rfl fun A c w h => rchecks_c A _ c _ l w h (Nat.le_refl _) hn
theorem dmay_p (l : List (Int × Int)) (hn : l.length < 1000000) : PFn Try.prog False 125 [slD l] (iA (mayG chk ltD l)) := by
  rw [← mayE_G]
  exact pfn_d1 (enter_of Try.func125 (by kernel_rfl) rfl) rfl fun A c w h => may_c A _ c _ l w h (Nat.le_refl _) hn
theorem dput_p (l : List (Int × Int)) (hn : l.length < 1000000) : PFn Try.prog False 64 [slD l] (.tup [sA (putS l), iA (putE l)]) :=
  pfn_d1 (enter_of Try.func64 (by kernel_rfl) rfl) rfl fun A c w h => put_c A _ c _ l w h (Nat.le_refl _) hn
theorem rdput_p (l : List (Int × Int)) (hn : l.length < 1000000) : PFn Try.prog False 68 [slD l] (.tup [sA (putS l), iA (putE l)]) :=
  pfn_d1 (enter_of Try.func68 (by kernel_rfl) rfl) rfl fun A c w h => rput_c A _ c _ l w h (Nat.le_refl _) hn
theorem rdin_p (l : List (Int × Int)) (d : Int × Int) (hn : l.length < 1000000) : PFn Try.prog False 78 [slD l, dA d] (bA (decide (d ∈ l))) :=
  pfn_d2 (enter_of Try.func78 (by kernel_rfl) rfl) rfl rfl fun A c w h => in_c A _ c _ l d w h (Nat.le_refl _) hn
theorem rdsame_p (l m : List (Int × Int)) (hn : l.length < 1000000) (hm : m.length < 1000000) : PFn Try.prog False 57 [slD l, slD m] (bA (decide (l = m))) :=
  pfn_dd (enter_of Try.func57 (by kernel_rfl) rfl) rfl fun A c A' c' w h h' => (rsame_c A A' _ _ c c' _ _ l m w h h' hn hm).mono fun e w' ⟨h1, q, h2⟩ => ⟨h1, h2 ▸ below_drewN (Below.refl _ _) q⟩
theorem rdsort_p (l : List (Int × Int)) (hn : l.length < 1000000) : PFn Try.prog False 118 [slD l] (slD (sortK ltD l)) :=
  pfn_dsl (enter_of Try.func118 (by kernel_rfl) rfl) fun A c w h => rsort_c A _ c _ l w h (Nat.le_refl _) hn
theorem dread_p (s : ByteArray) (hs : s.size < 1000000000) : PFn Try.prog False 84 [sA s] (.tup [slD (readD s).1, iA (readD s).2]) :=
  pfn_sd (enter_of Try.func84 (by kernel_rfl) rfl) fun w => readO_c s hs w
theorem rdread_p (s : ByteArray) (hs : s.size < 1000000000) : PFn Try.prog False 88 [sA s] (.tup [slD (readD s).1, iA (readD s).2]) :=
  pfn_sd (enter_of Try.func88 (by kernel_rfl) rfl) fun w => rreadO_c s hs w
end Go.Proofs.Ytmhkalalcmkpbaa

namespace Go.Proofs.Ytmhkalalcmkpbaa
open Go
theorem ty29 : tyOf Try.prog 29 = some (true, 7) := by kernel_rfl
theorem ze29 : tyZero Try.prog 29 = some [.int .i64 0, .int .i64 0, .int .i64 0, .int .i64 0, .int .i64 0, .slice none 0 0, .slice none 0 0] := by kernel_rfl
theorem ro29 : rowOf Try.prog 29 = some (7, 88) := by kernel_rfl
theorem fl29_0 : tyField Try.prog 29 0 = some (0, 23) := by kernel_rfl
theorem fl29_1 : tyField Try.prog 29 1 = some (2, 25) := by kernel_rfl
theorem fl29_2 : tyField Try.prog 29 2 = some (5, 26) := by kernel_rfl
theorem fl29_3 : tyField Try.prog 29 3 = some (6, 27) := by kernel_rfl
theorem pl29 : stPlaces Try.prog 29 = some [(0, 2), (2, 3), (5, 1), (6, 1)] := by kernel_rfl
theorem ty121 : tyOf Try.prog 121 = some (true, 2) := by kernel_rfl
theorem ze121 : tyZero Try.prog 121 = some [.pointer none, .int .i64 0] := by kernel_rfl
theorem ro121 : rowOf Try.prog 121 = some (2, 16) := by kernel_rfl
theorem fl121_0 : tyField Try.prog 121 0 = some (0, 118) := by kernel_rfl
theorem fl121_1 : tyField Try.prog 121 1 = some (1, 32) := by kernel_rfl
theorem pl121 : stPlaces Try.prog 121 = some [(0, 1), (1, 1)] := by kernel_rfl
theorem ty118 : tyOf Try.prog 118 = some (false, 1) := by kernel_rfl
theorem ze118 : tyZero Try.prog 118 = some [.pointer none] := by kernel_rfl
theorem ro118 : rowOf Try.prog 118 = some (1, 8) := by kernel_rfl
theorem ty100 : tyOf Try.prog 100 = some (true, 4) := by kernel_rfl
theorem ze100 : tyZero Try.prog 100 = some [.int .i64 0, .int .i64 0, .int .i64 0, .int .i64 0] := by kernel_rfl
theorem ro100 : rowOf Try.prog 100 = some (4, 32) := by kernel_rfl
end Go.Proofs.Ytmhkalalcmkpbaa

namespace Go.Proofs.Ytmhkalalcmkpbaa
open Go Go.RowKit
set_option linter.unusedVariables false
set_option linter.unusedSimpArgs false

def encDl (d : DeltaT) : List AV := [iA d.1.1, iA d.1.2, iA d.2.1.1, iA d.2.1.2.1, iA d.2.1.2.2, slF d.2.2.1, slD d.2.2.2]
abbrev dlA (d : DeltaT) : AV := .agg (encDl d)
/-- An update that is not so great that counting fails. -/
structure OkD (d : DeltaT) : Prop where
  nf : d.2.2.1.length < 1000000
  ng : d.2.2.2.length < 1000000
  of : ∀ f ∈ d.2.2.1, okF f

theorem eqD_t {d : Nat} {w : World} {a b : Int × Int} (h : a = b) : (Op.equalIn (d + 2) 23 (.agg #[.int .i64 a.1, .int .i64 a.2]) (.agg #[.int .i64 b.1, .int .i64 b.2])).run Try.prog w = .ok true w := by rw [eqD, decide_eq_true h]
theorem eqD_f {d : Nat} {w : World} {a b : Int × Int} (h : a ≠ b) : (Op.equalIn (d + 2) 23 (.agg #[.int .i64 a.1, .int .i64 a.2]) (.agg #[.int .i64 b.1, .int .i64 b.2])).run Try.prog w = .ok false w := by rw [eqD, decide_eq_false h]
theorem eqW_t {d : Nat} {w : World} {a b : Int × Int × Int} (h : a = b) : (Op.equalIn (d + 2) 25 (.agg #[.int .i64 a.1, .int .i64 a.2.1, .int .i64 a.2.2]) (.agg #[.int .i64 b.1, .int .i64 b.2.1, .int .i64 b.2.2])).run Try.prog w = .ok true w := by rw [eqW, decide_eq_true h]
theorem eqW_f {d : Nat} {w : World} {a b : Int × Int × Int} (h : a ≠ b) : (Op.equalIn (d + 2) 25 (.agg #[.int .i64 a.1, .int .i64 a.2.1, .int .i64 a.2.2]) (.agg #[.int .i64 b.1, .int .i64 b.2.1, .int .i64 b.2.2])).run Try.prog w = .ok false w := by rw [eqW, decide_eq_false h]
theorem gtr_t {a b : Int} (h : b < a) : icmp .gtr a b = some true := congrArg some (decide_eq_true h)
theorem gtr_f {a b : Int} (h : ¬ b < a) : icmp .gtr a b = some false := congrArg some (decide_eq_false h)
theorem dless_is {x y : Int × Int} {b : Bool} (h : ltD x y = b) : PFn Try.prog False 79 [dA x, dA y] (bA b) := h ▸ dless_p x y

section
variable {α : Type} [DecidableEq α]
def idxG (l : List α) (x : α) : Int := if x ∈ l then (l.idxOf x : Int) else -1
theorem idxG_at {l : List α} {x : α} {i : Nat} {d : α} (h0 : ∀ (j : Nat) y, j < i → l[j]? = some y → y ≠ x) (h : l[i]? = some d) (e : x = d) : idxG l x = (i : Int) := by
  subst e
  have hm : x ∈ l := List.mem_of_getElem? h
  unfold idxG
  rw [if_pos hm]
  have hi : i < l.length := (List.getElem?_eq_some_iff.1 h).1
  have h1 : l.idxOf x < l.length := List.idxOf_lt_length_of_mem hm
  have h2 : l[l.idxOf x] = x := List.getElem_idxOf h1
  have h3 : ¬ l.idxOf x < i := fun g => h0 _ _ g (List.getElem?_eq_getElem h1) h2
  have h4 : l.idxOf x ≤ i := by
    rcases Nat.lt_or_ge i (l.idxOf x) with g | g
    · exfalso
      have := List.not_of_lt_findIdx (p := (· == x)) (xs := l) (i := i) g
      rw [(List.getElem?_eq_some_iff.1 h).2] at this
      simp at this
    · exact g
  omega
theorem idxG_none {l : List α} {x : α} (h0 : ∀ (j : Nat) y, l[j]? = some y → y ≠ x) : idxG l x = -1 := by
  unfold idxG
  rw [if_neg]
  intro hm
  obtain ⟨j, hj⟩ := List.mem_iff_getElem?.1 hm
  exact h0 j x hj rfl
theorem idxG_mem (l : List α) (x : α) [Decidable (x ∈ l)] : decide (0 ≤ idxG l x) = decide (x ∈ l) := by
  unfold idxG
  by_cases h : x ∈ l
  · rw [if_pos h, decide_eq_true h]; exact decide_eq_true (by omega)
  · rw [if_neg h, decide_eq_false h]; rfl
end

set_option maxRecDepth 100000 in
theorem dindex_p (l : List (Int × Int)) (x : (Int × Int)) (hn : l.length < 1000000) : PFn Try.prog False 137 [slD l, dA x] (iA (idxG l x)) := by
  refine pfn Try.func137 rfl (by kernel_rfl) 19 rfl _ rfl (Nat.le_of_ble_eq_true rfl) (fun X w0 => ?_)
  refine wSeq ?_
  refine wReg ?_  -- region 0
  refine sBox rfl rfl rfl rfl rfl (fun g3 => ?_)  -- t3 := box t1
  refine sP rfl rfl rfl (pA rfl rfl) ?_  -- t4 := assign c
  refine lNil ?_
  refine wSeq ?_
  refine wSeq ?_
  refine wReg ?_  -- region 1
  refine sP rfl rfl rfl (pMs rfl rfl) ?_  -- t6 := move t0
  refine sP rfl rfl rfl (p_len_sl rfl rfl Try.underlying27) ?_  -- t7 := call   -- t6
  refine sP rfl rfl rfl (pM rfl rfl) ?_  -- t8 := move c
  refine lNil ?_
  refine wBlock ?_
  refine wLoop (fun mm L h => ∃ i, mm = l.length - i ∧ i ≤ l.length ∧ (∀ (j : Nat) y, j < i → l[j]? = some y → y ≠ x) ∧ L = [(0, slD l), (3, .x (.pointer (some ⟨g3, 0, none⟩))), (7, iA l.length), (8, iA (i : Nat))] ∧ h = [.cells g3 23 (encA x)]) ⟨_, _, _, _, ⟨0, rfl, Nat.zero_le _, fun j y hj => absurd hj (by omega), rfl, rfl⟩, ⟨rfl, rfl, rfl, rfl, trivial⟩, rfl⟩ ?_
  rintro mm L h ⟨i, rfl, hi, h0, rfl, rfl⟩
  refine wSeq ?_
  refine wReg ?_  -- region 2
  refine sP rfl rfl rfl (p_icmp rfl rfl rfl rfl) ?_  -- t9 := binOp t8 t7
  refine lNil ?_
  refine wSeq ?_
  refine wCond rfl (fun hc1 => ?_) (fun hc1 => ?_)  -- t9
  · have hlt : i < l.length := by simpa using hc1
    obtain ⟨d, hd⟩ := getL hlt
    refine wSkip ?_
    refine wSeq ?_
    refine wBlock ?_
    refine wSeq ?_
    refine wReg ?_  -- region 3
    refine sP rfl rfl rfl (pM rfl rfl) ?_  -- t10 := move t8
    refine sP rfl rfl rfl (pA rfl rfl) ?_  -- t5 := assign t10
    refine lNil ?_
    refine wSeq ?_
    refine wDraw 6 (by kernel_rfl) (by kernel_rfl) ?_  -- region 4
    refine sP rfl rfl rfl (pLdW 0 rfl rfl rfl ty23 rfl) ?_  -- t11 := load t3
    refine sP rfl rfl rfl (pMs rfl rfl) ?_  -- t12 := move t0
    refine sP rfl rfl rfl (pM rfl rfl) ?_  -- t13 := move t5
    refine sP rfl rfl rfl (pIdx i rfl rfl Try.underlying27 ty23 (by decide) rfl (fun _ => rfl) rfl rfl hd) ?_  -- t14 := indexAddr t12 t13
    refine sP rfl rfl rfl (pLdE rfl rfl ty23 rfl) ?_  -- t15 := load t14
    refine sP rfl rfl rfl (p_eqs rfl rfl rfl rfl rfl guardD (fun w => eqD 9998 w x d)) ?_  -- t16 := binOp t11 t15
    refine lTail ?_
    refine lNil ?_
    refine wCond rfl (fun hc2 => ?_) (fun hc2 => ?_)  -- t16
    · refine wSeq ?_
      refine wReg ?_  -- region 5
      refine sP rfl rfl rfl (pM rfl rfl) ?_  -- t17 := move t5
      refine sP rfl rfl rfl (pA rfl rfl) ?_  -- t4 := assign t17
      refine lNil ?_
      refine wRet ?_
      have he : x = d := by simpa using hc2
      exact rgs1 (rg_tmp (gives_sub (Sub.of_eq (avI (idxG_at h0 hd he).symm))))
    · refine wSkip ?_
      refine wReg ?_  -- region 6
      refine sP rfl rfl rfl (p_iar rfl rfl rfl rfl) ?_  -- t18 := binOp t8 c
      refine sP rfl rfl rfl (pM rfl rfl) ?_  -- t8 := move t18
      refine lNil ?_
      have he : x ≠ d := by simpa using hc2
      refine ⟨_, _, [.cells g3 23 (encA x)], _, ?_, ⟨i + 1, rfl, hlt, fun j y hj hy => ?_, rfl, rfl⟩, ⟨rfl, rfl, rfl, avI (wrapI (by omega) (by omega)), trivial⟩, rfl⟩
      · omega
      · rcases Nat.lt_or_ge j i with h | h
        · exact h0 j y h hy
        · obtain rfl : j = i := by omega
          rw [hd] at hy; injection hy with hy; rw [← hy]; exact fun e => he e.symm
  · have hge : i = l.length := by
      have h : ¬ i < l.length := by simpa using hc1
      omega
    subst hge
    replace h0 : ∀ (j : Nat) y, l[j]? = some y → y ≠ x := fun j y hy => h0 j y (List.getElem?_eq_some_iff.1 hy).1 hy
    refine wExit ?_
    refine wSeq ?_
    refine wReg ?_  -- region 7
    refine sP rfl rfl rfl (pA rfl rfl) ?_  -- t4 := assign c
    refine lNil ?_
    refine wRet ?_
    exact rgs1 (rg_tmp (gives_sub (Sub.of_eq (avI (idxG_none h0).symm))))
set_option maxRecDepth 100000 in
theorem dcontains_p (l : List (Int × Int)) (x : Int × Int) (hn : l.length < 1000000) : PFn Try.prog False 100 [slD l, dA x] (bA (decide (x ∈ l))) := by
  refine pfn Try.func100 rfl (by kernel_rfl) 9 rfl _ rfl (Nat.le_of_ble_eq_true rfl) (fun X w0 => ?_)
  refine wSeq ?_
  refine wReg ?_  -- region 0
  refine sBox rfl rfl rfl rfl rfl (fun g3 => ?_)  -- t3 := box t1
  refine sP rfl rfl rfl (pA rfl rfl) ?_  -- t4 := assign c
  refine lNil ?_
  refine wSeq ?_
  refine wReg ?_  -- region 1
  refine sP rfl rfl rfl (pMs rfl rfl) ?_  -- t5 := move t0
  refine sP rfl rfl rfl (pLdW 0 rfl rfl rfl ty23 rfl) ?_  -- t6 := load t3
  refine sP rfl rfl rfl (p_call rfl (dindex_p l x hn) ⟨Sub.refl, Sub.refl, trivial⟩) ?_  -- t7 := call   -- t5 t6
  refine sP rfl rfl rfl (p_icmp rfl rfl rfl rfl) ?_  -- t8 := binOp t7 c
  refine sP rfl rfl rfl (pA rfl rfl) ?_  -- t4 := assign t8
  refine lNil ?_
  refine wRet ?_
  exact rgs1 (rg_tmp (gives_sub (Sub.of_eq (avB (idxG_mem l x)))))

def prevLess {α : Type} (lt : α → α → Bool) (l : List α) (i : Nat) (f : α) : Bool := match l[i - 1]? with | some c => lt c f | none => false
theorem prevLess_eq {α : Type} {lt : α → α → Bool} {l : List α} {i : Nat} {f c : α} (h : l[i - 1]? = some c) : prevLess lt l i f = lt c f := by unfold prevLess; rw [h]
def badP {α : Type} (lt : α → α → Bool) (l : List α) (i : Nat) (f : α) : Bool := decide (0 < i) && !prevLess lt l i f
theorem badP_cases {α : Type} (lt : α → α → Bool) {l : List α} {i : Nat} {f : α} (hi : i < l.length) : (¬ (0 : Int) < (i : Nat) ∧ badP lt l i f = false) ∨ ((0 : Int) < (i : Nat) ∧ ∃ c, l[i - 1]? = some c ∧ lt c f = true ∧ badP lt l i f = false) ∨ ((0 : Int) < (i : Nat) ∧ ∃ c, l[i - 1]? = some c ∧ lt c f = false ∧ badP lt l i f = true) := by
  rcases Nat.eq_zero_or_pos i with h | h
  · subst h; exact .inl ⟨by simp, rfl⟩
  · obtain ⟨c, hc⟩ := getL (l := l) (i := i - 1) (by omega)
    cases hl : lt c f with
    | true => exact .inr (.inl ⟨by omega, c, hc, hl, by unfold badP; rw [prevLess_eq hc, hl]; simp⟩)
    | false => exact .inr (.inr ⟨by omega, c, hc, hl, by unfold badP; rw [prevLess_eq hc, hl]; simpa using h⟩)
/-- What rises so far, and one more. -/
def RiseTo {α : Type} (lt : α → α → Bool) (l : List α) (i : Nat) : Prop := ∀ (j : Nat) x y, j + 1 < i → l[j]? = some x → l[j + 1]? = some y → lt x y = true
theorem RiseTo.zero {α : Type} {lt : α → α → Bool} {l : List α} : RiseTo lt l 0 := fun j _ _ hj => absurd hj (by omega)
theorem RiseTo.next {α : Type} {lt : α → α → Bool} {l : List α} {i : Nat} {f : α} (h : RiseTo lt l i) (hf : l[i]? = some f) (hb : badP lt l i f = false) : RiseTo lt l (i + 1) := fun j x y hj hx hy => by
  rcases Nat.lt_or_ge (j + 1) i with g | g
  · exact h j x y g hx hy
  · obtain rfl : i = j + 1 := by omega
    rw [hf] at hy; injection hy with hy; subst hy
    unfold badP prevLess at hb
    rw [show j + 1 - 1 = j by omega, hx] at hb
    simpa using hb
theorem RiseTo.all {α : Type} {lt : α → α → Bool} {l : List α} (h : RiseTo lt l l.length) : risesG lt l = true := rises_iff.2 fun j x y hx hy => h j x y (List.getElem?_eq_some_iff.1 hy).1 hx hy
theorem not_rises {α : Type} {lt : α → α → Bool} {l : List α} {i : Nat} {f : α} (hf : l[i]? = some f) (hb : badP lt l i f = true) : risesG lt l = false := by
  cases hh : risesG lt l with
  | false => rfl
  | true =>
    exfalso
    unfold badP at hb
    rw [Bool.and_eq_true, decide_eq_true_eq] at hb
    obtain ⟨h0, h1⟩ := hb
    obtain ⟨c, hc⟩ := getL (l := l) (i := i - 1) (by have := (List.getElem?_eq_some_iff.1 hf).1; omega)
    rw [prevLess_eq hc] at h1
    have := rises_iff.1 hh (i - 1) c f hc (by rw [show i - 1 + 1 = i by omega]; exact hf)
    rw [this] at h1; cases h1
def badF (d : DeltaT) (i : Nat) (f : FactT) : Bool := !sameF d f || badP ltF d.2.2.1 i f
theorem badF_cases {d : DeltaT} {i : Nat} {f : FactT} (hi : i < d.2.2.1.length) : (f.1 ≠ d.1 ∧ badF d i f = true) ∨ (f.1 = d.1 ∧ f.2.1 ≠ d.2.1 ∧ badF d i f = true) ∨
    (f.1 = d.1 ∧ f.2.1 = d.2.1 ∧ ¬ (0 : Int) < (i : Nat) ∧ badF d i f = false) ∨ (f.1 = d.1 ∧ f.2.1 = d.2.1 ∧ (0 : Int) < (i : Nat) ∧ ∃ c, d.2.2.1[i - 1]? = some c ∧ ltF c f = true ∧ badF d i f = false) ∨
    (f.1 = d.1 ∧ f.2.1 = d.2.1 ∧ (0 : Int) < (i : Nat) ∧ ∃ c, d.2.2.1[i - 1]? = some c ∧ ltF c f = false ∧ badF d i f = true) := by
  by_cases h1 : f.1 = d.1
  · by_cases h2 : f.2.1 = d.2.1
    · have hs : sameF d f = true := by unfold sameF; rw [decide_eq_true h1, decide_eq_true h2]; rfl
      have e : badF d i f = badP ltF d.2.2.1 i f := by unfold badF; rw [hs]; rfl
      rw [e]
      rcases badP_cases ltF hi with ⟨a, b⟩ | ⟨a, c, b⟩ | ⟨a, c, b⟩
      · exact .inr (.inr (.inl ⟨h1, h2, a, b⟩))
      · exact .inr (.inr (.inr (.inl ⟨h1, h2, a, c, b⟩)))
      · exact .inr (.inr (.inr (.inr ⟨h1, h2, a, c, b⟩)))
    · exact .inr (.inl ⟨h1, h2, by unfold badF sameF; rw [decide_eq_false h2]; simp⟩)
  · exact .inl ⟨h1, by unfold badF sameF; rw [decide_eq_false h1]; simp⟩
theorem badF_no {d : DeltaT} {i : Nat} {f : FactT} (h : badF d i f = false) : sameF d f = true ∧ badP ltF d.2.2.1 i f = false := by
  unfold badF at h; simpa using h
theorem dfacts_chk {d : DeltaT} {i : Nat} {x : FactT} (h0 : ∀ j y, j < i → d.2.2.1[j]? = some y → chkF y = 0) (h : d.2.2.1[i]? = some x) (hx : chkF x ≠ 0) : dfactsE d = chkF x := by
  unfold dfactsE; rw [chkAll_stop h0 h hx, if_pos hx]
theorem dfacts_form {d : DeltaT} {i : Nat} {f : FactT} (h0 : ∀ (j : Nat) y, d.2.2.1[j]? = some y → chkF y = 0) (hf : d.2.2.1[i]? = some f) (h : badF d i f = true) : dfactsE d = 5 := by
  unfold dfactsE
  rw [chkAll_zero h0, if_neg (by simp), if_neg]
  intro g
  rw [Bool.and_eq_true] at g
  unfold badF at h
  rw [Bool.or_eq_true] at h
  rcases h with h | h
  · have := List.all_eq_true.1 g.1 f (List.mem_of_getElem? hf)
    rw [this] at h; cases h
  · have := not_rises hf h
    rw [g.2] at this; cases this
theorem dfacts_ok {d : DeltaT} (h0 : ∀ (j : Nat) y, d.2.2.1[j]? = some y → chkF y = 0) (h1 : ∀ (j : Nat) y, d.2.2.1[j]? = some y → sameF d y = true) (h2 : RiseTo ltF d.2.2.1 d.2.2.1.length) : dfactsE d = 0 := by
  unfold dfactsE
  rw [chkAll_zero h0, if_neg (by simp), if_pos]
  rw [h2.all, Bool.and_true]
  exact List.all_eq_true.2 fun f hf => by obtain ⟨j, hj⟩ := List.mem_iff_getElem?.1 hf; exact h1 j f hj
theorem dgone_chk {d : DeltaT} {i : Nat} {x : Int × Int} (h0 : ∀ j y, j < i → d.2.2.2[j]? = some y → chk y = 0) (h : d.2.2.2[i]? = some x) (hx : chk x ≠ 0) : dgoneE d = chk x := by
  unfold dgoneE; rw [may_chk h0 h hx, if_pos hx]
theorem dgone_form {d : DeltaT} {i : Nat} {f : Int × Int} (h0 : ∀ (j : Nat) y, d.2.2.2[j]? = some y → chk y = 0) (hf : d.2.2.2[i]? = some f) (h : badP ltD d.2.2.2 i f = true) : dgoneE d = 5 := by
  have hm : mayG chk ltD d.2.2.2 = 5 := by unfold mayG; rw [chkAll_zero h0, if_neg (by simp), not_rises hf h]; rfl
  unfold dgoneE; rw [hm]; rfl
theorem dgone_in {d : DeltaT} (h0 : ∀ (j : Nat) y, d.2.2.2[j]? = some y → chk y = 0) (h2 : RiseTo ltD d.2.2.2 d.2.2.2.length) : dgoneE d = if d.1 ∈ d.2.2.2 then 5 else 0 := by
  have hm : mayG chk ltD d.2.2.2 = 0 := by unfold mayG; rw [chkAll_zero h0, if_neg (by simp), h2.all]; rfl
  unfold dgoneE; rw [hm]; rfl

set_option maxRecDepth 100000 in
theorem dfacts_p (d : DeltaT) (ok : OkD d) : PFn Try.prog False 72 [dlA d] (iA (dfactsE d)) := by
  refine pfn Try.func72 rfl (by kernel_rfl) 57 rfl _ rfl (Nat.le_of_ble_eq_true rfl) (fun X w0 => ?_)
  have hnf := ok.nf
  have hng := ok.ng
  refine wSeq ?_
  refine wReg ?_  -- region 0
  refine sBox rfl rfl rfl rfl rfl (fun g1 => ?_)  -- t1 := box t0
  refine sP rfl rfl rfl (pA rfl rfl) ?_  -- t2 := assign c
  refine lNil ?_
  refine wSeq ?_
  refine wSeq ?_
  refine wReg ?_  -- region 1
  refine sP rfl rfl rfl (p_fieldAddr_own rfl rfl fl29_2 ty26 (by decide)) ?_  -- t8 := fieldAddr t1
  refine sP rfl rfl rfl (pLdO1 0 rfl rfl rfl ty26 rfl) ?_  -- t9 := load t8
  refine sP rfl rfl rfl (p_len_sl rfl rfl Try.underlying26) ?_  -- t10 := call   -- t9
  refine sP rfl rfl rfl (pM rfl rfl) ?_  -- t11 := move c
  refine lNil ?_
  refine wBlock ?_
  refine wLoop (fun mm L h => ∃ i, mm = d.2.2.1.length - i ∧ i ≤ d.2.2.1.length ∧ (∀ j y, j < i → d.2.2.1[j]? = some y → chkF y = 0) ∧ L = [(1, .x (.pointer (some ⟨g1, 0, none⟩))), (9, slF d.2.2.1), (10, iA d.2.2.1.length), (11, iA (i : Nat))] ∧ h = [.cells g1 29 (encDl d)]) ⟨_, _, _, _, ⟨0, rfl, Nat.zero_le _, fun j y hj => absurd hj (by omega), rfl, rfl⟩, ⟨rfl, rfl, rfl, rfl, trivial⟩, rfl⟩ ?_
  rintro mm L h ⟨i, rfl, hi, h0, rfl, rfl⟩
  refine wSeq ?_
  refine wReg ?_  -- region 2
  refine sP rfl rfl rfl (p_icmp rfl rfl rfl rfl) ?_  -- t12 := binOp t11 t10
  refine lNil ?_
  refine wSeq ?_
  refine wCond rfl (fun hc1 => ?_) (fun hc1 => ?_)  -- t12
  · have hlt : i < d.2.2.1.length := by simpa using hc1
    obtain ⟨f, hd⟩ := getL hlt
    refine wSkip ?_
    refine wSeq ?_
    refine wBlock ?_
    refine wSeq ?_
    refine wReg ?_  -- region 3
    refine sP rfl rfl rfl (pIdx i rfl rfl Try.underlying26 ty87 (by decide) rfl (fun _ => rfl) rfl rfl hd) ?_  -- t13 := indexAddr t9 t11
    refine sP rfl rfl rfl (pLdE rfl rfl ty87 rfl) ?_  -- t14 := load t13
    refine sAlloc rfl rfl rfl rfl ze87 (fun g4 => ?_)  -- t4 := alloc 
    refine sStore 1 rfl rfl rfl rfl rfl ty87 rfl rfl rfl (Nat.le_of_ble_eq_true rfl) ?_  -- t := store t4 t14
    refine lNil ?_
    refine wSeq ?_
    refine wReg ?_  -- region 4
    refine sP rfl rfl rfl (pLdW 1 rfl rfl rfl ty87 rfl) ?_  -- t15 := load t4
    refine sP rfl rfl rfl (p_call rfl (fcheck_p f (ok.of f (List.mem_of_getElem? hd))) ⟨Sub.refl, trivial⟩) ?_  -- t16 := call   -- t15
    refine sP rfl rfl rfl (pA rfl rfl) ?_  -- t5 := assign t16
    refine lNil ?_
    refine wSeq ?_
    refine wReg ?_  -- region 5
    refine sP rfl rfl rfl (pM rfl rfl) ?_  -- t17 := move t5
    refine sP rfl rfl rfl (p_icmp rfl rfl rfl rfl) ?_  -- t18 := binOp t17 c
    refine lNil ?_
    refine wCond rfl (fun hc2 => ?_) (fun hc2 => ?_)  -- t18
    · refine wSeq ?_
      refine wReg ?_  -- region 6
      refine sP rfl rfl rfl (pM rfl rfl) ?_  -- t19 := move t5
      refine sP rfl rfl rfl (pA rfl rfl) ?_  -- t2 := assign t19
      refine lNil ?_
      refine wRet ?_
      have hne : chkF f ≠ 0 := by simpa using hc2
      exact rgs1 (rg_tmp (gives_sub (Sub.of_eq (avI (dfacts_chk h0 hd hne).symm))))
    · refine wSkip ?_
      refine wReg ?_  -- region 7
      refine sP rfl rfl rfl (p_iar rfl rfl rfl rfl) ?_  -- t20 := binOp t11 c
      refine sP rfl rfl rfl (pM rfl rfl) ?_  -- t11 := move t20
      refine lNil ?_
      have he : chkF f = 0 := by simpa using hc2
      refine ⟨_, _, [.cells g1 29 (encDl d)], _, ?_, ⟨i + 1, rfl, hlt, fun j y hj hy => ?_, rfl, rfl⟩, ⟨rfl, rfl, rfl, avI (wrapI (by omega) (by omega)), trivial⟩, rfl⟩
      · omega
      · rcases Nat.lt_or_ge j i with h | h
        · exact h0 j y h hy
        · obtain rfl : j = i := by omega
          rw [hd] at hy; injection hy with hy; rw [← hy]; exact he
  · have hge : i = d.2.2.1.length := by
      have h : ¬ i < d.2.2.1.length := by simpa using hc1
      omega
    rw [hge] at h0
    clear hge hi
    replace h0 : ∀ (j : Nat) y, d.2.2.1[j]? = some y → chkF y = 0 := fun j y hy => h0 j y (List.getElem?_eq_some_iff.1 hy).1 hy
    refine wExit ?_
    refine wSeq ?_
    refine wSeq ?_
    refine wReg ?_  -- region 8
    refine sP rfl rfl rfl (p_fieldAddr_own rfl rfl fl29_2 ty26 (by decide)) ?_  -- t21 := fieldAddr t1
    refine sP rfl rfl rfl (pLdO1 0 rfl rfl rfl ty26 rfl) ?_  -- t22 := load t21
    refine sP rfl rfl rfl (p_len_sl rfl rfl Try.underlying26) ?_  -- t23 := call   -- t22
    refine sP rfl rfl rfl (pM rfl rfl) ?_  -- t24 := move c
    refine lNil ?_
    refine wBlock ?_
    refine wLoop (fun mm L h => ∃ i, mm = d.2.2.1.length - i ∧ i ≤ d.2.2.1.length ∧ (∀ j y, j < i → d.2.2.1[j]? = some y → sameF d y = true) ∧ RiseTo ltF d.2.2.1 i ∧ L = [(1, .x (.pointer (some ⟨g1, 0, none⟩))), (22, slF d.2.2.1), (23, iA d.2.2.1.length), (24, iA (i : Nat))] ∧ h = [.cells g1 29 (encDl d)]) ⟨_, _, _, _, ⟨0, rfl, Nat.zero_le _, fun j y hj => absurd hj (by omega), RiseTo.zero, rfl, rfl⟩, ⟨rfl, rfl, rfl, rfl, trivial⟩, rfl⟩ ?_
    rintro mm L h ⟨i, rfl, hi, h1, h2, rfl, rfl⟩
    refine wSeq ?_
    refine wReg ?_  -- region 9
    refine sP rfl rfl rfl (p_icmp rfl rfl rfl rfl) ?_  -- t25 := binOp t24 t23
    refine lNil ?_
    refine wSeq ?_
    refine wCond rfl (fun hc3 => ?_) (fun hc3 => ?_)  -- t25
    · have hlt : i < d.2.2.1.length := by simpa using hc3
      obtain ⟨f, hd⟩ := getL hlt
      refine wSkip ?_
      refine wSeq ?_
      refine wBlock ?_
      refine wSeq ?_
      refine wReg ?_  -- region 10
      refine sP rfl rfl rfl (pM rfl rfl) ?_  -- t26 := move t24
      refine sP rfl rfl rfl (pIdx i rfl rfl Try.underlying26 ty87 (by decide) rfl (fun _ => rfl) rfl rfl hd) ?_  -- t27 := indexAddr t22 t24
      refine sP rfl rfl rfl (pLdE rfl rfl ty87 rfl) ?_  -- t28 := load t27
      refine sAlloc rfl rfl rfl rfl ze87 (fun g7 => ?_)  -- t7 := alloc 
      refine sP rfl rfl rfl (pA rfl rfl) ?_  -- t6 := assign t26
      refine sStore 1 rfl rfl rfl rfl rfl ty87 rfl rfl rfl (Nat.le_of_ble_eq_true rfl) ?_  -- t := store t7 t28
      refine lNil ?_
      refine wCut (fun L h => ∃ b : Bool, b = (badF d i f) ∧ L = [(1, .x (.pointer (some ⟨g1, 0, none⟩))), (22, slF d.2.2.1), (23, iA d.2.2.1.length), (24, iA (i : Nat)), (55, bA b)] ∧ h = [.cells g1 29 (encDl d)]) ?_ ?_
      · rcases badF_cases (d := d) (f := f) hlt with ⟨e1, hbv⟩ | ⟨e1, e2, hbv⟩ | ⟨e1, e2, e3, hbv⟩ | ⟨e1, e2, e3, c, hcc, e4, hbv⟩ | ⟨e1, e2, e3, c, hcc, e4, hbv⟩
        · refine wDraw 27 (by kernel_rfl) (by kernel_rfl) ?_  -- region 11
          refine sP rfl rfl rfl (p_fieldAddr_own rfl rfl fl87_0 ty23 (by decide)) ?_  -- t29 := fieldAddr t7
          refine sP rfl rfl rfl (pLdO 1 rfl rfl rfl ty23 (Nat.le_of_ble_eq_true rfl) rfl) ?_  -- t30 := load t29
          refine sP rfl rfl rfl (p_fieldAddr_own rfl rfl fl29_0 ty23 (by decide)) ?_  -- t31 := fieldAddr t1
          refine sP rfl rfl rfl (pLdO 0 rfl rfl rfl ty23 (Nat.le_of_ble_eq_true rfl) rfl) ?_  -- t32 := load t31
          refine sP rfl rfl rfl (p_nes (r := false) rfl rfl rfl rfl rfl guardD (fun w => eqD_f (d := 9998) (a := f.1) (b := d.1) e1)) ?_  -- t33 := binOp t30 t32
          refine sP rfl rfl rfl (pM rfl rfl) ?_  -- t34 := move t33
          refine sUx rfl rfl rfl (by decide) rfl rfl ?_  -- t35
          refine sUx rfl rfl rfl (by decide) rfl rfl ?_  -- t36
          refine sUx rfl rfl rfl (by decide) rfl rfl ?_  -- t37
          refine sUx rfl rfl rfl (by decide) rfl rfl ?_  -- t38
          refine sUx rfl rfl rfl (by decide) rfl rfl ?_  -- t39
          refine sP rfl rfl rfl (p_pick rfl rfl rfl) ?_  -- t40 := pick t34 c t39
          refine sP rfl rfl rfl (pM rfl rfl) ?_  -- t41 := move t40
          refine sUx rfl rfl rfl (by decide) rfl rfl ?_  -- t42
          refine sUx rfl rfl rfl (by decide) rfl rfl ?_  -- t43
          refine sUx rfl rfl rfl (by decide) rfl rfl ?_  -- t44
          refine sNx rfl rfl rfl rfl rfl ?_  -- t45
          refine sNx rfl rfl rfl rfl rfl ?_  -- t46
          refine sNx rfl rfl rfl rfl rfl ?_  -- t47
          refine sNx rfl rfl rfl rfl rfl ?_  -- t48
          refine sNx rfl rfl rfl rfl rfl ?_  -- t49
          refine sNx rfl rfl rfl rfl rfl ?_  -- t50
          refine sNx rfl rfl rfl rfl rfl ?_  -- t51
          refine sNx rfl rfl rfl rfl rfl ?_  -- t52
          refine sNx rfl rfl rfl rfl rfl ?_  -- t53
          refine sUx rfl rfl rfl (by decide) rfl rfl ?_  -- t54
          refine sP rfl rfl rfl (p_pick rfl rfl rfl) ?_  -- t55 := pick t41 c t54
          refine lTail ?_
          refine lNil ?_
          exact ⟨_, [.cells g1 29 (encDl d)], _, ⟨_, (by exact hbv.symm), rfl, rfl⟩, ⟨rfl, rfl, rfl, rfl, rfl, trivial⟩, rfl⟩
        · refine wDraw 27 (by kernel_rfl) (by kernel_rfl) ?_  -- region 11
          refine sP rfl rfl rfl (p_fieldAddr_own rfl rfl fl87_0 ty23 (by decide)) ?_  -- t29 := fieldAddr t7
          refine sP rfl rfl rfl (pLdO 1 rfl rfl rfl ty23 (Nat.le_of_ble_eq_true rfl) rfl) ?_  -- t30 := load t29
          refine sP rfl rfl rfl (p_fieldAddr_own rfl rfl fl29_0 ty23 (by decide)) ?_  -- t31 := fieldAddr t1
          refine sP rfl rfl rfl (pLdO 0 rfl rfl rfl ty23 (Nat.le_of_ble_eq_true rfl) rfl) ?_  -- t32 := load t31
          refine sP rfl rfl rfl (p_nes (r := true) rfl rfl rfl rfl rfl guardD (fun w => eqD_t (d := 9998) (a := f.1) (b := d.1) e1)) ?_  -- t33 := binOp t30 t32
          refine sP rfl rfl rfl (pM rfl rfl) ?_  -- t34 := move t33
          refine sG rfl rfl rfl rfl rfl (p_fieldAddr_own rfl rfl fl87_1 ty25 (by decide)) ?_  -- t35 := fieldAddr t7   GUARD ['5', 'false']
          refine sG rfl rfl rfl rfl rfl (pLdO 1 rfl rfl rfl ty25 (Nat.le_of_ble_eq_true rfl) rfl) ?_  -- t36 := load t35   GUARD ['5', 'false']
          refine sG rfl rfl rfl rfl rfl (p_fieldAddr_own rfl rfl fl29_1 ty25 (by decide)) ?_  -- t37 := fieldAddr t1   GUARD ['5', 'false']
          refine sG rfl rfl rfl rfl rfl (pLdO 0 rfl rfl rfl ty25 (Nat.le_of_ble_eq_true rfl) rfl) ?_  -- t38 := load t37   GUARD ['5', 'false']
          refine sG rfl rfl rfl rfl rfl (p_nes (r := false) rfl rfl rfl rfl rfl guardW (fun w => eqW_f (d := 9998) (a := f.2.1) (b := d.2.1) e2)) ?_  -- t39 := binOp t36 t38   GUARD ['5', 'false']
          refine sP rfl rfl rfl (p_pick rfl rfl rfl) ?_  -- t40 := pick t34 c t39
          refine sP rfl rfl rfl (pM rfl rfl) ?_  -- t41 := move t40
          refine sUx rfl rfl rfl (by decide) rfl rfl ?_  -- t42
          refine sUx rfl rfl rfl (by decide) rfl rfl ?_  -- t43
          refine sUx rfl rfl rfl (by decide) rfl rfl ?_  -- t44
          refine sNx rfl rfl rfl rfl rfl ?_  -- t45
          refine sNx rfl rfl rfl rfl rfl ?_  -- t46
          refine sNx rfl rfl rfl rfl rfl ?_  -- t47
          refine sNx rfl rfl rfl rfl rfl ?_  -- t48
          refine sNx rfl rfl rfl rfl rfl ?_  -- t49
          refine sNx rfl rfl rfl rfl rfl ?_  -- t50
          refine sNx rfl rfl rfl rfl rfl ?_  -- t51
          refine sNx rfl rfl rfl rfl rfl ?_  -- t52
          refine sNx rfl rfl rfl rfl rfl ?_  -- t53
          refine sUx rfl rfl rfl (by decide) rfl rfl ?_  -- t54
          refine sP rfl rfl rfl (p_pick rfl rfl rfl) ?_  -- t55 := pick t41 c t54
          refine lTail ?_
          refine lNil ?_
          exact ⟨_, [.cells g1 29 (encDl d)], _, ⟨_, (by exact hbv.symm), rfl, rfl⟩, ⟨rfl, rfl, rfl, rfl, rfl, trivial⟩, rfl⟩
        · refine wDraw 27 (by kernel_rfl) (by kernel_rfl) ?_  -- region 11
          refine sP rfl rfl rfl (p_fieldAddr_own rfl rfl fl87_0 ty23 (by decide)) ?_  -- t29 := fieldAddr t7
          refine sP rfl rfl rfl (pLdO 1 rfl rfl rfl ty23 (Nat.le_of_ble_eq_true rfl) rfl) ?_  -- t30 := load t29
          refine sP rfl rfl rfl (p_fieldAddr_own rfl rfl fl29_0 ty23 (by decide)) ?_  -- t31 := fieldAddr t1
          refine sP rfl rfl rfl (pLdO 0 rfl rfl rfl ty23 (Nat.le_of_ble_eq_true rfl) rfl) ?_  -- t32 := load t31
          refine sP rfl rfl rfl (p_nes (r := true) rfl rfl rfl rfl rfl guardD (fun w => eqD_t (d := 9998) (a := f.1) (b := d.1) e1)) ?_  -- t33 := binOp t30 t32
          refine sP rfl rfl rfl (pM rfl rfl) ?_  -- t34 := move t33
          refine sG rfl rfl rfl rfl rfl (p_fieldAddr_own rfl rfl fl87_1 ty25 (by decide)) ?_  -- t35 := fieldAddr t7   GUARD ['5', 'false']
          refine sG rfl rfl rfl rfl rfl (pLdO 1 rfl rfl rfl ty25 (Nat.le_of_ble_eq_true rfl) rfl) ?_  -- t36 := load t35   GUARD ['5', 'false']
          refine sG rfl rfl rfl rfl rfl (p_fieldAddr_own rfl rfl fl29_1 ty25 (by decide)) ?_  -- t37 := fieldAddr t1   GUARD ['5', 'false']
          refine sG rfl rfl rfl rfl rfl (pLdO 0 rfl rfl rfl ty25 (Nat.le_of_ble_eq_true rfl) rfl) ?_  -- t38 := load t37   GUARD ['5', 'false']
          refine sG rfl rfl rfl rfl rfl (p_nes (r := true) rfl rfl rfl rfl rfl guardW (fun w => eqW_t (d := 9998) (a := f.2.1) (b := d.2.1) e2)) ?_  -- t39 := binOp t36 t38   GUARD ['5', 'false']
          refine sP rfl rfl rfl (p_pick rfl rfl rfl) ?_  -- t40 := pick t34 c t39
          refine sP rfl rfl rfl (pM rfl rfl) ?_  -- t41 := move t40
          refine sG rfl rfl rfl rfl rfl (pM rfl rfl) ?_  -- t42 := move t6   GUARD ['12', 'false']
          refine sG rfl rfl rfl rfl rfl (p_icmp rfl rfl rfl (gtr_f e3)) ?_  -- t43 := binOp t42 c   GUARD ['12', 'false']
          refine sG rfl rfl rfl rfl rfl (pM rfl rfl) ?_  -- t44 := move t43   GUARD ['12', 'false']
          refine sUx rfl rfl rfl (by decide) rfl rfl ?_  -- t45
          refine sUx rfl rfl rfl (by decide) rfl rfl ?_  -- t46
          refine sUx rfl rfl rfl (by decide) rfl rfl ?_  -- t47
          refine sUx rfl rfl rfl (by decide) rfl rfl ?_  -- t48
          refine sUx rfl rfl rfl (by decide) rfl rfl ?_  -- t49
          refine sUx rfl rfl rfl (by decide) rfl rfl ?_  -- t50
          refine sUx rfl rfl rfl (by decide) rfl rfl ?_  -- t51
          refine sUx rfl rfl rfl (by decide) rfl rfl ?_  -- t52
          refine sUx rfl rfl rfl (by decide) rfl rfl ?_  -- t53
          refine sG rfl rfl rfl rfl rfl (p_pick rfl rfl rfl) ?_  -- t54 := pick t44 t53 c   GUARD ['12', 'false']
          refine sP rfl rfl rfl (p_pick rfl rfl rfl) ?_  -- t55 := pick t41 c t54
          refine lTail ?_
          refine lNil ?_
          exact ⟨_, [.cells g1 29 (encDl d)], _, ⟨_, (by exact hbv.symm), rfl, rfl⟩, ⟨rfl, rfl, rfl, rfl, rfl, trivial⟩, rfl⟩
        · refine wDraw 27 (by kernel_rfl) (by kernel_rfl) ?_  -- region 11
          refine sP rfl rfl rfl (p_fieldAddr_own rfl rfl fl87_0 ty23 (by decide)) ?_  -- t29 := fieldAddr t7
          refine sP rfl rfl rfl (pLdO 1 rfl rfl rfl ty23 (Nat.le_of_ble_eq_true rfl) rfl) ?_  -- t30 := load t29
          refine sP rfl rfl rfl (p_fieldAddr_own rfl rfl fl29_0 ty23 (by decide)) ?_  -- t31 := fieldAddr t1
          refine sP rfl rfl rfl (pLdO 0 rfl rfl rfl ty23 (Nat.le_of_ble_eq_true rfl) rfl) ?_  -- t32 := load t31
          refine sP rfl rfl rfl (p_nes (r := true) rfl rfl rfl rfl rfl guardD (fun w => eqD_t (d := 9998) (a := f.1) (b := d.1) e1)) ?_  -- t33 := binOp t30 t32
          refine sP rfl rfl rfl (pM rfl rfl) ?_  -- t34 := move t33
          refine sG rfl rfl rfl rfl rfl (p_fieldAddr_own rfl rfl fl87_1 ty25 (by decide)) ?_  -- t35 := fieldAddr t7   GUARD ['5', 'false']
          refine sG rfl rfl rfl rfl rfl (pLdO 1 rfl rfl rfl ty25 (Nat.le_of_ble_eq_true rfl) rfl) ?_  -- t36 := load t35   GUARD ['5', 'false']
          refine sG rfl rfl rfl rfl rfl (p_fieldAddr_own rfl rfl fl29_1 ty25 (by decide)) ?_  -- t37 := fieldAddr t1   GUARD ['5', 'false']
          refine sG rfl rfl rfl rfl rfl (pLdO 0 rfl rfl rfl ty25 (Nat.le_of_ble_eq_true rfl) rfl) ?_  -- t38 := load t37   GUARD ['5', 'false']
          refine sG rfl rfl rfl rfl rfl (p_nes (r := true) rfl rfl rfl rfl rfl guardW (fun w => eqW_t (d := 9998) (a := f.2.1) (b := d.2.1) e2)) ?_  -- t39 := binOp t36 t38   GUARD ['5', 'false']
          refine sP rfl rfl rfl (p_pick rfl rfl rfl) ?_  -- t40 := pick t34 c t39
          refine sP rfl rfl rfl (pM rfl rfl) ?_  -- t41 := move t40
          refine sG rfl rfl rfl rfl rfl (pM rfl rfl) ?_  -- t42 := move t6   GUARD ['12', 'false']
          refine sG rfl rfl rfl rfl rfl (p_icmp rfl rfl rfl (gtr_t e3)) ?_  -- t43 := binOp t42 c   GUARD ['12', 'false']
          refine sG rfl rfl rfl rfl rfl (pM rfl rfl) ?_  -- t44 := move t43   GUARD ['12', 'false']
          refine sG rfl rfl rfl rfl rfl (p_fieldAddr_own rfl rfl fl29_2 ty26 (by decide)) ?_  -- t45 := fieldAddr t1   GUARD ['15', 'true']
          refine sG rfl rfl rfl rfl rfl (pLdO1 0 rfl rfl rfl ty26 rfl) ?_  -- t46 := load t45   GUARD ['15', 'true']
          refine sG rfl rfl rfl rfl rfl (pM rfl rfl) ?_  -- t47 := move t6   GUARD ['15', 'true']
          refine sG rfl rfl rfl rfl rfl (p_iar rfl rfl rfl rfl) ?_  -- t48 := binOp t47 c   GUARD ['15', 'true']
          refine sG rfl rfl rfl rfl rfl (pIdx (i - 1) rfl rfl Try.underlying26 ty87 (by decide) rfl (fun _ => rfl) rfl (by rw [wrapI (by omega) (by omega)]; omega) hcc) ?_  -- t49 := indexAddr t46 t48   GUARD ['15', 'true']
          refine sG rfl rfl rfl rfl rfl (pLdE rfl rfl ty87 rfl) ?_  -- t50 := load t49   GUARD ['15', 'true']
          refine sG rfl rfl rfl rfl rfl (pLdW 1 rfl rfl rfl ty87 rfl) ?_  -- t51 := load t7   GUARD ['15', 'true']
          refine sG rfl rfl rfl rfl rfl (p_call rfl (less_is (x := c) (y := f) e4) ⟨Sub.refl, Sub.refl, trivial⟩) ?_  -- t52 := call    GUARD ['15', 'true']  -- t50 t51
          refine sG rfl rfl rfl rfl rfl (p_not rfl rfl) ?_  -- t53 := unOp t52   GUARD ['15', 'true']
          refine sG rfl rfl rfl rfl rfl (p_pick rfl rfl rfl) ?_  -- t54 := pick t44 t53 c   GUARD ['12', 'false']
          refine sP rfl rfl rfl (p_pick rfl rfl rfl) ?_  -- t55 := pick t41 c t54
          refine lTail ?_
          refine lNil ?_
          exact ⟨_, [.cells g1 29 (encDl d)], _, ⟨_, (by exact hbv.symm), rfl, rfl⟩, ⟨rfl, rfl, rfl, rfl, rfl, trivial⟩, rfl⟩
        · refine wDraw 27 (by kernel_rfl) (by kernel_rfl) ?_  -- region 11
          refine sP rfl rfl rfl (p_fieldAddr_own rfl rfl fl87_0 ty23 (by decide)) ?_  -- t29 := fieldAddr t7
          refine sP rfl rfl rfl (pLdO 1 rfl rfl rfl ty23 (Nat.le_of_ble_eq_true rfl) rfl) ?_  -- t30 := load t29
          refine sP rfl rfl rfl (p_fieldAddr_own rfl rfl fl29_0 ty23 (by decide)) ?_  -- t31 := fieldAddr t1
          refine sP rfl rfl rfl (pLdO 0 rfl rfl rfl ty23 (Nat.le_of_ble_eq_true rfl) rfl) ?_  -- t32 := load t31
          refine sP rfl rfl rfl (p_nes (r := true) rfl rfl rfl rfl rfl guardD (fun w => eqD_t (d := 9998) (a := f.1) (b := d.1) e1)) ?_  -- t33 := binOp t30 t32
          refine sP rfl rfl rfl (pM rfl rfl) ?_  -- t34 := move t33
          refine sG rfl rfl rfl rfl rfl (p_fieldAddr_own rfl rfl fl87_1 ty25 (by decide)) ?_  -- t35 := fieldAddr t7   GUARD ['5', 'false']
          refine sG rfl rfl rfl rfl rfl (pLdO 1 rfl rfl rfl ty25 (Nat.le_of_ble_eq_true rfl) rfl) ?_  -- t36 := load t35   GUARD ['5', 'false']
          refine sG rfl rfl rfl rfl rfl (p_fieldAddr_own rfl rfl fl29_1 ty25 (by decide)) ?_  -- t37 := fieldAddr t1   GUARD ['5', 'false']
          refine sG rfl rfl rfl rfl rfl (pLdO 0 rfl rfl rfl ty25 (Nat.le_of_ble_eq_true rfl) rfl) ?_  -- t38 := load t37   GUARD ['5', 'false']
          refine sG rfl rfl rfl rfl rfl (p_nes (r := true) rfl rfl rfl rfl rfl guardW (fun w => eqW_t (d := 9998) (a := f.2.1) (b := d.2.1) e2)) ?_  -- t39 := binOp t36 t38   GUARD ['5', 'false']
          refine sP rfl rfl rfl (p_pick rfl rfl rfl) ?_  -- t40 := pick t34 c t39
          refine sP rfl rfl rfl (pM rfl rfl) ?_  -- t41 := move t40
          refine sG rfl rfl rfl rfl rfl (pM rfl rfl) ?_  -- t42 := move t6   GUARD ['12', 'false']
          refine sG rfl rfl rfl rfl rfl (p_icmp rfl rfl rfl (gtr_t e3)) ?_  -- t43 := binOp t42 c   GUARD ['12', 'false']
          refine sG rfl rfl rfl rfl rfl (pM rfl rfl) ?_  -- t44 := move t43   GUARD ['12', 'false']
          refine sG rfl rfl rfl rfl rfl (p_fieldAddr_own rfl rfl fl29_2 ty26 (by decide)) ?_  -- t45 := fieldAddr t1   GUARD ['15', 'true']
          refine sG rfl rfl rfl rfl rfl (pLdO1 0 rfl rfl rfl ty26 rfl) ?_  -- t46 := load t45   GUARD ['15', 'true']
          refine sG rfl rfl rfl rfl rfl (pM rfl rfl) ?_  -- t47 := move t6   GUARD ['15', 'true']
          refine sG rfl rfl rfl rfl rfl (p_iar rfl rfl rfl rfl) ?_  -- t48 := binOp t47 c   GUARD ['15', 'true']
          refine sG rfl rfl rfl rfl rfl (pIdx (i - 1) rfl rfl Try.underlying26 ty87 (by decide) rfl (fun _ => rfl) rfl (by rw [wrapI (by omega) (by omega)]; omega) hcc) ?_  -- t49 := indexAddr t46 t48   GUARD ['15', 'true']
          refine sG rfl rfl rfl rfl rfl (pLdE rfl rfl ty87 rfl) ?_  -- t50 := load t49   GUARD ['15', 'true']
          refine sG rfl rfl rfl rfl rfl (pLdW 1 rfl rfl rfl ty87 rfl) ?_  -- t51 := load t7   GUARD ['15', 'true']
          refine sG rfl rfl rfl rfl rfl (p_call rfl (less_is (x := c) (y := f) e4) ⟨Sub.refl, Sub.refl, trivial⟩) ?_  -- t52 := call    GUARD ['15', 'true']  -- t50 t51
          refine sG rfl rfl rfl rfl rfl (p_not rfl rfl) ?_  -- t53 := unOp t52   GUARD ['15', 'true']
          refine sG rfl rfl rfl rfl rfl (p_pick rfl rfl rfl) ?_  -- t54 := pick t44 t53 c   GUARD ['12', 'false']
          refine sP rfl rfl rfl (p_pick rfl rfl rfl) ?_  -- t55 := pick t41 c t54
          refine lTail ?_
          refine lNil ?_
          exact ⟨_, [.cells g1 29 (encDl d)], _, ⟨_, (by exact hbv.symm), rfl, rfl⟩, ⟨rfl, rfl, rfl, rfl, rfl, trivial⟩, rfl⟩
      · rintro L h ⟨b, hb, rfl, rfl⟩
        refine wCond rfl (fun hc4 => ?_) (fun hc4 => ?_)  -- t55
        · refine wSeq ?_
          refine wReg ?_  -- region 12
          refine sP rfl rfl rfl (pA rfl rfl) ?_  -- t2 := assign c
          refine lNil ?_
          refine wRet ?_
          have hbad : badF d i f = true := hb.symm.trans hc4
          exact rgs1 (rg_tmp (gives_sub (Sub.of_eq (avI (dfacts_form h0 hd hbad).symm))))
        · refine wSkip ?_
          refine wReg ?_  -- region 13
          refine sP rfl rfl rfl (p_iar rfl rfl rfl rfl) ?_  -- t56 := binOp t24 c
          refine sP rfl rfl rfl (pM rfl rfl) ?_  -- t24 := move t56
          refine lNil ?_
          have hbad : badF d i f = false := hb.symm.trans hc4
          refine ⟨_, _, [.cells g1 29 (encDl d)], [], ?_, ⟨i + 1, rfl, hlt, (fun j y hj hy => by
              rcases Nat.lt_or_ge j i with h | h
              · exact h1 j y h hy
              · obtain rfl : j = i := by omega
                rw [hd] at hy; injection hy with hy; rw [← hy]; exact (badF_no hbad).1), h2.next hd (badF_no hbad).2, rfl, rfl⟩, ⟨rfl, rfl, rfl, avI (wrapI (by omega) (by omega)), trivial⟩, rfl⟩
          omega
    · have hge : i = d.2.2.1.length := by
        have h : ¬ i < d.2.2.1.length := by simpa using hc3
        omega
      rw [hge] at h1 h2
      clear hge hi
      refine wExit ?_
      refine wSeq ?_
      refine wReg ?_  -- region 14
      refine sP rfl rfl rfl (pA rfl rfl) ?_  -- t2 := assign c
      refine lNil ?_
      refine wRet ?_
      exact rgs1 (rg_tmp (gives_sub (Sub.of_eq (avI (dfacts_ok h0 (fun j y hy => h1 j y (List.getElem?_eq_some_iff.1 hy).1 hy) h2).symm))))
set_option maxRecDepth 100000 in
theorem dgone_p (d : DeltaT) (ok : OkD d) : PFn Try.prog False 73 [dlA d] (iA (dgoneE d)) := by
  refine pfn Try.func73 rfl (by kernel_rfl) 48 rfl _ rfl (Nat.le_of_ble_eq_true rfl) (fun X w0 => ?_)
  have hnf := ok.nf
  have hng := ok.ng
  refine wSeq ?_
  refine wReg ?_  -- region 0
  refine sBox rfl rfl rfl rfl rfl (fun g1 => ?_)  -- t1 := box t0
  refine sP rfl rfl rfl (pA rfl rfl) ?_  -- t2 := assign c
  refine lNil ?_
  refine wSeq ?_
  refine wSeq ?_
  refine wReg ?_  -- region 1
  refine sP rfl rfl rfl (p_fieldAddr_own rfl rfl fl29_3 ty27 (by decide)) ?_  -- t8 := fieldAddr t1
  refine sP rfl rfl rfl (pLdO1 0 rfl rfl rfl ty27 rfl) ?_  -- t9 := load t8
  refine sP rfl rfl rfl (p_len_sl rfl rfl Try.underlying27) ?_  -- t10 := call   -- t9
  refine sP rfl rfl rfl (pM rfl rfl) ?_  -- t11 := move c
  refine lNil ?_
  refine wBlock ?_
  refine wLoop (fun mm L h => ∃ i, mm = d.2.2.2.length - i ∧ i ≤ d.2.2.2.length ∧ (∀ j y, j < i → d.2.2.2[j]? = some y → chk y = 0) ∧ L = [(1, .x (.pointer (some ⟨g1, 0, none⟩))), (9, slD d.2.2.2), (10, iA d.2.2.2.length), (11, iA (i : Nat))] ∧ h = [.cells g1 29 (encDl d)]) ⟨_, _, _, _, ⟨0, rfl, Nat.zero_le _, fun j y hj => absurd hj (by omega), rfl, rfl⟩, ⟨rfl, rfl, rfl, rfl, trivial⟩, rfl⟩ ?_
  rintro mm L h ⟨i, rfl, hi, h0, rfl, rfl⟩
  refine wSeq ?_
  refine wReg ?_  -- region 2
  refine sP rfl rfl rfl (p_icmp rfl rfl rfl rfl) ?_  -- t12 := binOp t11 t10
  refine lNil ?_
  refine wSeq ?_
  refine wCond rfl (fun hc1 => ?_) (fun hc1 => ?_)  -- t12
  · have hlt : i < d.2.2.2.length := by simpa using hc1
    obtain ⟨f, hd⟩ := getL hlt
    refine wSkip ?_
    refine wSeq ?_
    refine wBlock ?_
    refine wSeq ?_
    refine wReg ?_  -- region 3
    refine sP rfl rfl rfl (pIdx i rfl rfl Try.underlying27 ty23 (by decide) rfl (fun _ => rfl) rfl rfl hd) ?_  -- t13 := indexAddr t9 t11
    refine sP rfl rfl rfl (pLdE rfl rfl ty23 rfl) ?_  -- t14 := load t13
    refine sAlloc rfl rfl rfl rfl ze23 (fun g4 => ?_)  -- t4 := alloc 
    refine sStore 1 rfl rfl rfl rfl rfl ty23 rfl rfl rfl (Nat.le_of_ble_eq_true rfl) ?_  -- t := store t4 t14
    refine lNil ?_
    refine wSeq ?_
    refine wReg ?_  -- region 4
    refine sP rfl rfl rfl (pLdW 1 rfl rfl rfl ty23 rfl) ?_  -- t15 := load t4
    refine sP rfl rfl rfl (p_call rfl (dcheck_p f) ⟨Sub.refl, trivial⟩) ?_  -- t16 := call   -- t15
    refine sP rfl rfl rfl (pA rfl rfl) ?_  -- t5 := assign t16
    refine lNil ?_
    refine wSeq ?_
    refine wReg ?_  -- region 5
    refine sP rfl rfl rfl (pM rfl rfl) ?_  -- t17 := move t5
    refine sP rfl rfl rfl (p_icmp rfl rfl rfl rfl) ?_  -- t18 := binOp t17 c
    refine lNil ?_
    refine wCond rfl (fun hc2 => ?_) (fun hc2 => ?_)  -- t18
    · refine wSeq ?_
      refine wReg ?_  -- region 6
      refine sP rfl rfl rfl (pM rfl rfl) ?_  -- t19 := move t5
      refine sP rfl rfl rfl (pA rfl rfl) ?_  -- t2 := assign t19
      refine lNil ?_
      refine wRet ?_
      have hne : chk f ≠ 0 := by simpa using hc2
      exact rgs1 (rg_tmp (gives_sub (Sub.of_eq (avI (dgone_chk h0 hd hne).symm))))
    · refine wSkip ?_
      refine wReg ?_  -- region 7
      refine sP rfl rfl rfl (p_iar rfl rfl rfl rfl) ?_  -- t20 := binOp t11 c
      refine sP rfl rfl rfl (pM rfl rfl) ?_  -- t11 := move t20
      refine lNil ?_
      have he : chk f = 0 := by simpa using hc2
      refine ⟨_, _, [.cells g1 29 (encDl d)], _, ?_, ⟨i + 1, rfl, hlt, fun j y hj hy => ?_, rfl, rfl⟩, ⟨rfl, rfl, rfl, avI (wrapI (by omega) (by omega)), trivial⟩, rfl⟩
      · omega
      · rcases Nat.lt_or_ge j i with h | h
        · exact h0 j y h hy
        · obtain rfl : j = i := by omega
          rw [hd] at hy; injection hy with hy; rw [← hy]; exact he
  · have hge : i = d.2.2.2.length := by
      have h : ¬ i < d.2.2.2.length := by simpa using hc1
      omega
    rw [hge] at h0
    clear hge hi
    replace h0 : ∀ (j : Nat) y, d.2.2.2[j]? = some y → chk y = 0 := fun j y hy => h0 j y (List.getElem?_eq_some_iff.1 hy).1 hy
    refine wExit ?_
    refine wSeq ?_
    refine wSeq ?_
    refine wReg ?_  -- region 8
    refine sP rfl rfl rfl (p_fieldAddr_own rfl rfl fl29_3 ty27 (by decide)) ?_  -- t21 := fieldAddr t1
    refine sP rfl rfl rfl (pLdO1 0 rfl rfl rfl ty27 rfl) ?_  -- t22 := load t21
    refine sP rfl rfl rfl (p_len_sl rfl rfl Try.underlying27) ?_  -- t23 := call   -- t22
    refine sP rfl rfl rfl (pM rfl rfl) ?_  -- t24 := move c
    refine lNil ?_
    refine wBlock ?_
    refine wLoop (fun mm L h => ∃ i, mm = d.2.2.2.length - i ∧ i ≤ d.2.2.2.length ∧ RiseTo ltD d.2.2.2 i ∧ L = [(1, .x (.pointer (some ⟨g1, 0, none⟩))), (22, slD d.2.2.2), (23, iA d.2.2.2.length), (24, iA (i : Nat))] ∧ h = [.cells g1 29 (encDl d)]) ⟨_, _, _, _, ⟨0, rfl, Nat.zero_le _, RiseTo.zero, rfl, rfl⟩, ⟨rfl, rfl, rfl, rfl, trivial⟩, rfl⟩ ?_
    rintro mm L h ⟨i, rfl, hi, h2, rfl, rfl⟩
    refine wSeq ?_
    refine wReg ?_  -- region 9
    refine sP rfl rfl rfl (p_icmp rfl rfl rfl rfl) ?_  -- t25 := binOp t24 t23
    refine lNil ?_
    refine wSeq ?_
    refine wCond rfl (fun hc3 => ?_) (fun hc3 => ?_)  -- t25
    · have hlt : i < d.2.2.2.length := by simpa using hc3
      obtain ⟨f, hd⟩ := getL hlt
      refine wSkip ?_
      refine wSeq ?_
      refine wBlock ?_
      refine wSeq ?_
      refine wReg ?_  -- region 10
      refine sP rfl rfl rfl (pM rfl rfl) ?_  -- t26 := move t24
      refine sP rfl rfl rfl (pIdx i rfl rfl Try.underlying27 ty23 (by decide) rfl (fun _ => rfl) rfl rfl hd) ?_  -- t27 := indexAddr t22 t24
      refine sP rfl rfl rfl (pLdE rfl rfl ty23 rfl) ?_  -- t28 := load t27
      refine sAlloc rfl rfl rfl rfl ze23 (fun g7 => ?_)  -- t7 := alloc 
      refine sP rfl rfl rfl (pA rfl rfl) ?_  -- t6 := assign t26
      refine sStore 1 rfl rfl rfl rfl rfl ty23 rfl rfl rfl (Nat.le_of_ble_eq_true rfl) ?_  -- t := store t7 t28
      refine lNil ?_
      refine wCut (fun L h => ∃ b : Bool, b = (badP ltD d.2.2.2 i f) ∧ L = [(1, .x (.pointer (some ⟨g1, 0, none⟩))), (22, slD d.2.2.2), (23, iA d.2.2.2.length), (24, iA (i : Nat)), (41, bA b)] ∧ h = [.cells g1 29 (encDl d)]) ?_ ?_
      · rcases badP_cases ltD (f := f) hlt with ⟨e3, hbv⟩ | ⟨e3, c, hcc, e4, hbv⟩ | ⟨e3, c, hcc, e4, hbv⟩
        · refine wDraw 13 (by kernel_rfl) (by kernel_rfl) ?_  -- region 11
          refine sP rfl rfl rfl (pM rfl rfl) ?_  -- t29 := move t6
          refine sP rfl rfl rfl (p_icmp rfl rfl rfl (gtr_f e3)) ?_  -- t30 := binOp t29 c
          refine sP rfl rfl rfl (pM rfl rfl) ?_  -- t31 := move t30
          refine sUx rfl rfl rfl (by decide) rfl rfl ?_  -- t32
          refine sUx rfl rfl rfl (by decide) rfl rfl ?_  -- t33
          refine sUx rfl rfl rfl (by decide) rfl rfl ?_  -- t34
          refine sUx rfl rfl rfl (by decide) rfl rfl ?_  -- t35
          refine sUx rfl rfl rfl (by decide) rfl rfl ?_  -- t36
          refine sUx rfl rfl rfl (by decide) rfl rfl ?_  -- t37
          refine sUx rfl rfl rfl (by decide) rfl rfl ?_  -- t38
          refine sUx rfl rfl rfl (by decide) rfl rfl ?_  -- t39
          refine sUx rfl rfl rfl (by decide) rfl rfl ?_  -- t40
          refine sP rfl rfl rfl (p_pick rfl rfl rfl) ?_  -- t41 := pick t31 t40 c
          refine lTail ?_
          refine lNil ?_
          exact ⟨_, [.cells g1 29 (encDl d)], _, ⟨_, (by exact hbv.symm), rfl, rfl⟩, ⟨rfl, rfl, rfl, rfl, rfl, trivial⟩, rfl⟩
        · refine wDraw 13 (by kernel_rfl) (by kernel_rfl) ?_  -- region 11
          refine sP rfl rfl rfl (pM rfl rfl) ?_  -- t29 := move t6
          refine sP rfl rfl rfl (p_icmp rfl rfl rfl (gtr_t e3)) ?_  -- t30 := binOp t29 c
          refine sP rfl rfl rfl (pM rfl rfl) ?_  -- t31 := move t30
          refine sG rfl rfl rfl rfl rfl (p_fieldAddr_own rfl rfl fl29_3 ty27 (by decide)) ?_  -- t32 := fieldAddr t1   GUARD ['2', 'true']
          refine sG rfl rfl rfl rfl rfl (pLdO1 0 rfl rfl rfl ty27 rfl) ?_  -- t33 := load t32   GUARD ['2', 'true']
          refine sG rfl rfl rfl rfl rfl (pM rfl rfl) ?_  -- t34 := move t6   GUARD ['2', 'true']
          refine sG rfl rfl rfl rfl rfl (p_iar rfl rfl rfl rfl) ?_  -- t35 := binOp t34 c   GUARD ['2', 'true']
          refine sG rfl rfl rfl rfl rfl (pIdx (i - 1) rfl rfl Try.underlying27 ty23 (by decide) rfl (fun _ => rfl) rfl (by rw [wrapI (by omega) (by omega)]; omega) hcc) ?_  -- t36 := indexAddr t33 t35   GUARD ['2', 'true']
          refine sG rfl rfl rfl rfl rfl (pLdE rfl rfl ty23 rfl) ?_  -- t37 := load t36   GUARD ['2', 'true']
          refine sG rfl rfl rfl rfl rfl (pLdW 1 rfl rfl rfl ty23 rfl) ?_  -- t38 := load t7   GUARD ['2', 'true']
          refine sG rfl rfl rfl rfl rfl (p_call rfl (dless_is (x := c) (y := f) e4) ⟨Sub.refl, Sub.refl, trivial⟩) ?_  -- t39 := call    GUARD ['2', 'true']  -- t37 t38
          refine sG rfl rfl rfl rfl rfl (p_not rfl rfl) ?_  -- t40 := unOp t39   GUARD ['2', 'true']
          refine sP rfl rfl rfl (p_pick rfl rfl rfl) ?_  -- t41 := pick t31 t40 c
          refine lTail ?_
          refine lNil ?_
          exact ⟨_, [.cells g1 29 (encDl d)], _, ⟨_, (by exact hbv.symm), rfl, rfl⟩, ⟨rfl, rfl, rfl, rfl, rfl, trivial⟩, rfl⟩
        · refine wDraw 13 (by kernel_rfl) (by kernel_rfl) ?_  -- region 11
          refine sP rfl rfl rfl (pM rfl rfl) ?_  -- t29 := move t6
          refine sP rfl rfl rfl (p_icmp rfl rfl rfl (gtr_t e3)) ?_  -- t30 := binOp t29 c
          refine sP rfl rfl rfl (pM rfl rfl) ?_  -- t31 := move t30
          refine sG rfl rfl rfl rfl rfl (p_fieldAddr_own rfl rfl fl29_3 ty27 (by decide)) ?_  -- t32 := fieldAddr t1   GUARD ['2', 'true']
          refine sG rfl rfl rfl rfl rfl (pLdO1 0 rfl rfl rfl ty27 rfl) ?_  -- t33 := load t32   GUARD ['2', 'true']
          refine sG rfl rfl rfl rfl rfl (pM rfl rfl) ?_  -- t34 := move t6   GUARD ['2', 'true']
          refine sG rfl rfl rfl rfl rfl (p_iar rfl rfl rfl rfl) ?_  -- t35 := binOp t34 c   GUARD ['2', 'true']
          refine sG rfl rfl rfl rfl rfl (pIdx (i - 1) rfl rfl Try.underlying27 ty23 (by decide) rfl (fun _ => rfl) rfl (by rw [wrapI (by omega) (by omega)]; omega) hcc) ?_  -- t36 := indexAddr t33 t35   GUARD ['2', 'true']
          refine sG rfl rfl rfl rfl rfl (pLdE rfl rfl ty23 rfl) ?_  -- t37 := load t36   GUARD ['2', 'true']
          refine sG rfl rfl rfl rfl rfl (pLdW 1 rfl rfl rfl ty23 rfl) ?_  -- t38 := load t7   GUARD ['2', 'true']
          refine sG rfl rfl rfl rfl rfl (p_call rfl (dless_is (x := c) (y := f) e4) ⟨Sub.refl, Sub.refl, trivial⟩) ?_  -- t39 := call    GUARD ['2', 'true']  -- t37 t38
          refine sG rfl rfl rfl rfl rfl (p_not rfl rfl) ?_  -- t40 := unOp t39   GUARD ['2', 'true']
          refine sP rfl rfl rfl (p_pick rfl rfl rfl) ?_  -- t41 := pick t31 t40 c
          refine lTail ?_
          refine lNil ?_
          exact ⟨_, [.cells g1 29 (encDl d)], _, ⟨_, (by exact hbv.symm), rfl, rfl⟩, ⟨rfl, rfl, rfl, rfl, rfl, trivial⟩, rfl⟩
      · rintro L h ⟨b, hb, rfl, rfl⟩
        refine wCond rfl (fun hc4 => ?_) (fun hc4 => ?_)  -- t41
        · refine wSeq ?_
          refine wReg ?_  -- region 12
          refine sP rfl rfl rfl (pA rfl rfl) ?_  -- t2 := assign c
          refine lNil ?_
          refine wRet ?_
          have hbad : badP ltD d.2.2.2 i f = true := hb.symm.trans hc4
          exact rgs1 (rg_tmp (gives_sub (Sub.of_eq (avI (dgone_form h0 hd hbad).symm))))
        · refine wSkip ?_
          refine wReg ?_  -- region 13
          refine sP rfl rfl rfl (p_iar rfl rfl rfl rfl) ?_  -- t42 := binOp t24 c
          refine sP rfl rfl rfl (pM rfl rfl) ?_  -- t24 := move t42
          refine lNil ?_
          have hbad : badP ltD d.2.2.2 i f = false := hb.symm.trans hc4
          refine ⟨_, _, [.cells g1 29 (encDl d)], [], ?_, ⟨i + 1, rfl, hlt, h2.next hd hbad, rfl, rfl⟩, ⟨rfl, rfl, rfl, avI (wrapI (by omega) (by omega)), trivial⟩, rfl⟩
          omega
    · have hge : i = d.2.2.2.length := by
        have h : ¬ i < d.2.2.2.length := by simpa using hc3
        omega
      rw [hge] at h2
      clear hge hi
      refine wExit ?_
      refine wSeq ?_
      refine wSeq ?_
      refine wReg ?_  -- region 14
      refine sP rfl rfl rfl (p_fieldAddr_own rfl rfl fl29_3 ty27 (by decide)) ?_  -- t43 := fieldAddr t1
      refine sP rfl rfl rfl (pLdO1 0 rfl rfl rfl ty27 rfl) ?_  -- t44 := load t43
      refine sP rfl rfl rfl (p_fieldAddr_own rfl rfl fl29_0 ty23 (by decide)) ?_  -- t45 := fieldAddr t1
      refine sP rfl rfl rfl (pLdO 0 rfl rfl rfl ty23 (Nat.le_of_ble_eq_true rfl) rfl) ?_  -- t46 := load t45
      refine sP rfl rfl rfl (p_call rfl (dcontains_p d.2.2.2 d.1 ok.ng) ⟨Sub.refl, Sub.refl, trivial⟩) ?_  -- t47 := call   -- t44 t46
      refine lNil ?_
      refine wCond rfl (fun hc5 => ?_) (fun hc5 => ?_)  -- t47
      · refine wSeq ?_
        refine wReg ?_  -- region 15
        refine sP rfl rfl rfl (pA rfl rfl) ?_  -- t2 := assign c
        refine lNil ?_
        refine wRet ?_
        have hm : d.1 ∈ d.2.2.2 := by simpa using hc5
        exact rgs1 (rg_tmp (gives_sub (Sub.of_eq (avI (by rw [dgone_in h0 h2, if_pos hm])))))
      · refine wSkip ?_
        refine wSeq ?_
        refine wReg ?_  -- region 16
        refine sP rfl rfl rfl (pA rfl rfl) ?_  -- t2 := assign c
        refine lNil ?_
        refine wRet ?_
        have hm : d.1 ∉ d.2.2.2 := by simpa using hc5
        exact rgs1 (rg_tmp (gives_sub (Sub.of_eq (avI (by rw [dgone_in h0 h2, if_neg hm])))))

theorem deltaE_1 {d : DeltaT} (h : chk d.1 ≠ 0) : deltaE d = chk d.1 := by unfold deltaE; rw [if_pos h]
theorem deltaE_2 {d : DeltaT} (h : chk d.1 = 0) (h2 : chkS d.2.1 ≠ 0) : deltaE d = chkS d.2.1 := by unfold deltaE; rw [if_neg (by simpa using h), if_pos h2]
theorem deltaE_3 {d : DeltaT} (h : chk d.1 = 0) (h2 : chkS d.2.1 = 0) (h3 : d.1.1 ≠ d.2.1.2.2) : deltaE d = 5 := by unfold deltaE; rw [if_neg (by simpa using h), if_neg (by simpa using h2), if_pos h3]
theorem deltaE_4 {d : DeltaT} (h : chk d.1 = 0) (h2 : chkS d.2.1 = 0) (h3 : d.1.1 = d.2.1.2.2) (h4 : dfactsE d ≠ 0) : deltaE d = dfactsE d := by unfold deltaE; rw [if_neg (by simpa using h), if_neg (by simpa using h2), if_neg (by simpa using h3), if_pos h4]
theorem deltaE_5 {d : DeltaT} (h : chk d.1 = 0) (h2 : chkS d.2.1 = 0) (h3 : d.1.1 = d.2.1.2.2) (h4 : dfactsE d = 0) (h5 : dgoneE d ≠ 0) : deltaE d = dgoneE d := by unfold deltaE; rw [if_neg (by simpa using h), if_neg (by simpa using h2), if_neg (by simpa using h3), if_neg (by simpa using h4), if_pos h5]
theorem deltaE_6 {d : DeltaT} (h : chk d.1 = 0) (h2 : chkS d.2.1 = 0) (h3 : d.1.1 = d.2.1.2.2) (h4 : dfactsE d = 0) (h5 : dgoneE d = 0) : deltaE d = if 256 < d.2.2.1.length ∨ 256 < d.2.2.2.length then 3 else 0 := by unfold deltaE; rw [if_neg (by simpa using h), if_neg (by simpa using h2), if_neg (by simpa using h3), if_neg (by simpa using h4), if_neg (by simpa using h5)]
def longD (d : DeltaT) : Bool := decide ((256 : Int) < (d.2.2.1.length : Nat)) || decide ((256 : Int) < (d.2.2.2.length : Nat))
theorem longD_yes {d : DeltaT} (h : longD d = true) : 256 < d.2.2.1.length ∨ 256 < d.2.2.2.length := by
  unfold longD at h
  rw [Bool.or_eq_true, decide_eq_true_eq, decide_eq_true_eq] at h
  omega
theorem longD_no {d : DeltaT} (h : longD d = false) : ¬ (256 < d.2.2.1.length ∨ 256 < d.2.2.2.length) := by
  unfold longD at h
  rw [Bool.or_eq_false_iff, decide_eq_false_iff_not, decide_eq_false_iff_not] at h
  omega

set_option maxRecDepth 100000 in
theorem delta_p (d : DeltaT) (ok : OkD d) : PFn Try.prog False 17 [dlA d] (iA (deltaE d)) := by
  refine pfn Try.func17 rfl (by kernel_rfl) 46 rfl _ rfl (Nat.le_of_ble_eq_true rfl) (fun X w0 => ?_)
  refine wSeq ?_
  refine wReg ?_  -- region 0
  refine sBox rfl rfl rfl rfl rfl (fun g1 => ?_)  -- t1 := box t0
  refine sP rfl rfl rfl (pA rfl rfl) ?_  -- t2 := assign c
  refine lNil ?_
  refine wSeq ?_
  refine wSeq ?_
  refine wReg ?_  -- region 1
  refine sP rfl rfl rfl (p_fieldAddr_own rfl rfl fl29_0 ty23 (by decide)) ?_  -- t7 := fieldAddr t1
  refine sP rfl rfl rfl (pLdO 0 rfl rfl rfl ty23 (Nat.le_of_ble_eq_true rfl) rfl) ?_  -- t8 := load t7
  refine sP rfl rfl rfl (p_call rfl (dcheck_p d.1) ⟨Sub.refl, trivial⟩) ?_  -- t9 := call   -- t8
  refine sP rfl rfl rfl (pA rfl rfl) ?_  -- t3 := assign t9
  refine lNil ?_
  refine wSeq ?_
  refine wReg ?_  -- region 2
  refine sP rfl rfl rfl (pM rfl rfl) ?_  -- t10 := move t3
  refine sP rfl rfl rfl (p_icmp rfl rfl rfl rfl) ?_  -- t11 := binOp t10 c
  refine lNil ?_
  refine wCond rfl (fun hc1 => ?_) (fun hc1 => ?_)  -- t11
  · refine wSeq ?_
    refine wReg ?_  -- region 3
    refine sP rfl rfl rfl (pM rfl rfl) ?_  -- t12 := move t3
    refine sP rfl rfl rfl (pA rfl rfl) ?_  -- t2 := assign t12
    refine lNil ?_
    refine wRet ?_
    have h : chk d.1 ≠ 0 := by simpa using hc1
    exact rgs1 (rg_tmp (gives_sub (Sub.of_eq (avI (deltaE_1 h).symm))))
  · have k1 : chk d.1 = 0 := by simpa using hc1
    refine wSkip ?_
    refine wSeq ?_
    refine wSeq ?_
    refine wReg ?_  -- region 4
    refine sP rfl rfl rfl (p_fieldAddr_own rfl rfl fl29_1 ty25 (by decide)) ?_  -- t13 := fieldAddr t1
    refine sP rfl rfl rfl (pLdO 0 rfl rfl rfl ty25 (Nat.le_of_ble_eq_true rfl) rfl) ?_  -- t14 := load t13
    refine sP rfl rfl rfl (p_call rfl (scheck_p d.2.1) ⟨Sub.refl, trivial⟩) ?_  -- t15 := call   -- t14
    refine sP rfl rfl rfl (pA rfl rfl) ?_  -- t4 := assign t15
    refine lNil ?_
    refine wSeq ?_
    refine wReg ?_  -- region 5
    refine sP rfl rfl rfl (pM rfl rfl) ?_  -- t16 := move t4
    refine sP rfl rfl rfl (p_icmp rfl rfl rfl rfl) ?_  -- t17 := binOp t16 c
    refine lNil ?_
    refine wCond rfl (fun hc2 => ?_) (fun hc2 => ?_)  -- t17
    · refine wSeq ?_
      refine wReg ?_  -- region 6
      refine sP rfl rfl rfl (pM rfl rfl) ?_  -- t18 := move t4
      refine sP rfl rfl rfl (pA rfl rfl) ?_  -- t2 := assign t18
      refine lNil ?_
      refine wRet ?_
      have h : chkS d.2.1 ≠ 0 := by simpa using hc2
      exact rgs1 (rg_tmp (gives_sub (Sub.of_eq (avI (deltaE_2 k1 h).symm))))
    · have k2 : chkS d.2.1 = 0 := by simpa using hc2
      refine wSkip ?_
      refine wSeq ?_
      refine wSeq ?_
      refine wReg ?_  -- region 7
      refine sP rfl rfl rfl (p_fieldAddr_own rfl rfl fl29_0 ty23 (by decide)) ?_  -- t19 := fieldAddr t1
      refine sP rfl rfl rfl (p_fieldAddr_own rfl rfl fl23_0 ty3 (by decide)) ?_  -- t20 := fieldAddr t19
      refine sP rfl rfl rfl (pLdO1 0 rfl rfl rfl ty3 rfl) ?_  -- t21 := load t20
      refine sP rfl rfl rfl (p_fieldAddr_own rfl rfl fl29_1 ty25 (by decide)) ?_  -- t22 := fieldAddr t1
      refine sP rfl rfl rfl (p_fieldAddr_own rfl rfl fl25_2 ty3 (by decide)) ?_  -- t23 := fieldAddr t22
      refine sP rfl rfl rfl (pLdO1 0 rfl rfl rfl ty3 rfl) ?_  -- t24 := load t23
      refine sP rfl rfl rfl (p_icmp rfl rfl rfl rfl) ?_  -- t25 := binOp t21 t24
      refine lNil ?_
      refine wCond rfl (fun hc3 => ?_) (fun hc3 => ?_)  -- t25
      · refine wSeq ?_
        refine wReg ?_  -- region 8
        refine sP rfl rfl rfl (pA rfl rfl) ?_  -- t2 := assign c
        refine lNil ?_
        refine wRet ?_
        have h : d.1.1 ≠ d.2.1.2.2 := by simpa using hc3
        exact rgs1 (rg_tmp (gives_sub (Sub.of_eq (avI (deltaE_3 k1 k2 h).symm))))
      · have k3 : d.1.1 = d.2.1.2.2 := by simpa using hc3
        refine wSkip ?_
        refine wSeq ?_
        refine wSeq ?_
        refine wReg ?_  -- region 9
        refine sP rfl rfl rfl (pLdW 0 rfl rfl rfl ty29 rfl) ?_  -- t26 := load t1
        refine sP rfl rfl rfl (p_call rfl (dfacts_p d ok) ⟨Sub.refl, trivial⟩) ?_  -- t27 := call   -- t26
        refine sP rfl rfl rfl (pA rfl rfl) ?_  -- t5 := assign t27
        refine lNil ?_
        refine wSeq ?_
        refine wReg ?_  -- region 10
        refine sP rfl rfl rfl (pM rfl rfl) ?_  -- t28 := move t5
        refine sP rfl rfl rfl (p_icmp rfl rfl rfl rfl) ?_  -- t29 := binOp t28 c
        refine lNil ?_
        refine wCond rfl (fun hc4 => ?_) (fun hc4 => ?_)  -- t29
        · refine wSeq ?_
          refine wReg ?_  -- region 11
          refine sP rfl rfl rfl (pM rfl rfl) ?_  -- t30 := move t5
          refine sP rfl rfl rfl (pA rfl rfl) ?_  -- t2 := assign t30
          refine lNil ?_
          refine wRet ?_
          have h : dfactsE d ≠ 0 := by simpa using hc4
          exact rgs1 (rg_tmp (gives_sub (Sub.of_eq (avI (deltaE_4 k1 k2 k3 h).symm))))
        · have k4 : dfactsE d = 0 := by simpa using hc4
          refine wSkip ?_
          refine wSeq ?_
          refine wSeq ?_
          refine wReg ?_  -- region 12
          refine sP rfl rfl rfl (pLdW 0 rfl rfl rfl ty29 rfl) ?_  -- t31 := load t1
          refine sP rfl rfl rfl (p_call rfl (dgone_p d ok) ⟨Sub.refl, trivial⟩) ?_  -- t32 := call   -- t31
          refine sP rfl rfl rfl (pA rfl rfl) ?_  -- t6 := assign t32
          refine lNil ?_
          refine wSeq ?_
          refine wReg ?_  -- region 13
          refine sP rfl rfl rfl (pM rfl rfl) ?_  -- t33 := move t6
          refine sP rfl rfl rfl (p_icmp rfl rfl rfl rfl) ?_  -- t34 := binOp t33 c
          refine lNil ?_
          refine wCond rfl (fun hc5 => ?_) (fun hc5 => ?_)  -- t34
          · refine wSeq ?_
            refine wReg ?_  -- region 14
            refine sP rfl rfl rfl (pM rfl rfl) ?_  -- t35 := move t6
            refine sP rfl rfl rfl (pA rfl rfl) ?_  -- t2 := assign t35
            refine lNil ?_
            refine wRet ?_
            have h : dgoneE d ≠ 0 := by simpa using hc5
            exact rgs1 (rg_tmp (gives_sub (Sub.of_eq (avI (deltaE_5 k1 k2 k3 k4 h).symm))))
          · have k5 : dgoneE d = 0 := by simpa using hc5
            refine wSkip ?_
            refine wSeq ?_
            refine wCut (fun L h => ∃ b : Bool, b = (longD d) ∧ L = [(1, .x (.pointer (some ⟨g1, 0, none⟩))), (45, bA b)] ∧ h = [.cells g1 29 (encDl d)]) ?_ ?_
            · cases hb : (decide ((256 : Int) < (d.2.2.1.length : Nat))) with
              | true =>
                refine wReg ?_  -- region 15
                refine sP rfl rfl rfl (p_fieldAddr_own rfl rfl fl29_2 ty26 (by decide)) ?_  -- t36 := fieldAddr t1
                refine sP rfl rfl rfl (pLdO1 0 rfl rfl rfl ty26 rfl) ?_  -- t37 := load t36
                refine sP rfl rfl rfl (p_len_sl rfl rfl Try.underlying26) ?_  -- t38 := call   -- t37
                refine sP rfl rfl rfl (p_icmp rfl rfl rfl (congrArg some hb)) ?_  -- t39 := binOp t38 c
                refine sP rfl rfl rfl (pM rfl rfl) ?_  -- t40 := move t39
                refine sU rfl rfl rfl (by decide) rfl rfl ?_  -- t41 := fieldAddr t1   GUARD ['4', 'false']
                refine sU rfl rfl rfl (by decide) rfl rfl ?_  -- t42 := load t41   GUARD ['4', 'false']
                refine sU rfl rfl rfl (by decide) rfl rfl ?_  -- t43 := call    GUARD ['4', 'false']  -- t42
                refine sU rfl rfl rfl (by decide) rfl rfl ?_  -- t44 := binOp t43 c   GUARD ['4', 'false']
                refine sP rfl rfl rfl (p_pick rfl rfl rfl) ?_  -- t45 := pick t40 c t44
                refine lNil ?_
                exact ⟨_, [.cells g1 29 (encDl d)], [], ⟨_, (by exact (by unfold longD; rw [hb]; rfl)), rfl, rfl⟩, ⟨rfl, rfl, trivial⟩, rfl⟩
              | false =>
                refine wReg ?_  -- region 15
                refine sP rfl rfl rfl (p_fieldAddr_own rfl rfl fl29_2 ty26 (by decide)) ?_  -- t36 := fieldAddr t1
                refine sP rfl rfl rfl (pLdO1 0 rfl rfl rfl ty26 rfl) ?_  -- t37 := load t36
                refine sP rfl rfl rfl (p_len_sl rfl rfl Try.underlying26) ?_  -- t38 := call   -- t37
                refine sP rfl rfl rfl (p_icmp rfl rfl rfl (congrArg some hb)) ?_  -- t39 := binOp t38 c
                refine sP rfl rfl rfl (pM rfl rfl) ?_  -- t40 := move t39
                refine sG rfl rfl rfl rfl rfl (p_fieldAddr_own rfl rfl fl29_3 ty27 (by decide)) ?_  -- t41 := fieldAddr t1   GUARD ['4', 'false']
                refine sG rfl rfl rfl rfl rfl (pLdO1 0 rfl rfl rfl ty27 rfl) ?_  -- t42 := load t41   GUARD ['4', 'false']
                refine sG rfl rfl rfl rfl rfl (p_len_sl rfl rfl Try.underlying27) ?_  -- t43 := call    GUARD ['4', 'false']  -- t42
                refine sG rfl rfl rfl rfl rfl (p_icmp rfl rfl rfl rfl) ?_  -- t44 := binOp t43 c   GUARD ['4', 'false']
                refine sP rfl rfl rfl (p_pick rfl rfl rfl) ?_  -- t45 := pick t40 c t44
                refine lNil ?_
                exact ⟨_, [.cells g1 29 (encDl d)], [], ⟨_, (by exact (by unfold longD; rw [hb]; rfl)), rfl, rfl⟩, ⟨rfl, rfl, trivial⟩, rfl⟩
            · rintro L h ⟨b, hb, rfl, rfl⟩
              refine wCond rfl (fun hc6 => ?_) (fun hc6 => ?_)  -- t45
              · refine wSeq ?_
                refine wReg ?_  -- region 16
                refine sP rfl rfl rfl (pA rfl rfl) ?_  -- t2 := assign c
                refine lNil ?_
                refine wRet ?_
                exact rgs1 (rg_tmp (gives_sub (Sub.of_eq (avI (by rw [deltaE_6 k1 k2 k3 k4 k5, if_pos (longD_yes (hb.symm.trans hc6))])))))
              · refine wSkip ?_
                refine wSeq ?_
                refine wReg ?_  -- region 17
                refine sP rfl rfl rfl (pA rfl rfl) ?_  -- t2 := assign c
                refine lNil ?_
                refine wRet ?_
                exact rgs1 (rg_tmp (gives_sub (Sub.of_eq (avI (by rw [deltaE_6 k1 k2 k3 k4 k5, if_neg (longD_no (hb.symm.trans hc6))])))))
set_option maxRecDepth 100000 in
theorem deless_p (x y : DeltaT) : PFn Try.prog False 19 [dlA x, dlA y] (bA (ltD x.1 y.1)) := by
  refine pfn Try.func19 rfl (by kernel_rfl) 10 rfl _ rfl (Nat.le_of_ble_eq_true rfl) (fun X w0 => ?_)
  refine wSeq ?_
  refine wReg ?_  -- region 0
  refine sBox rfl rfl rfl rfl rfl (fun g2 => ?_)  -- t2 := box t0
  refine sBox rfl rfl rfl rfl rfl (fun g3 => ?_)  -- t3 := box t1
  refine sP rfl rfl rfl (pA rfl rfl) ?_  -- t4 := assign c
  refine lNil ?_
  refine wSeq ?_
  refine wReg ?_  -- region 1
  refine sP rfl rfl rfl (p_fieldAddr_own rfl rfl fl29_0 ty23 (by decide)) ?_  -- t5 := fieldAddr t2
  refine sP rfl rfl rfl (pLdO 0 rfl rfl rfl ty23 (Nat.le_of_ble_eq_true rfl) rfl) ?_  -- t6 := load t5
  refine sP rfl rfl rfl (p_fieldAddr_own rfl rfl fl29_0 ty23 (by decide)) ?_  -- t7 := fieldAddr t3
  refine sP rfl rfl rfl (pLdO 1 rfl rfl rfl ty23 (Nat.le_of_ble_eq_true rfl) rfl) ?_  -- t8 := load t7
  refine sP rfl rfl rfl (p_call rfl (dless_p x.1 y.1) ⟨Sub.refl, Sub.refl, trivial⟩) ?_  -- t9 := call   -- t6 t8
  refine sP rfl rfl rfl (pA rfl rfl) ?_  -- t4 := assign t9
  refine lNil ?_
  refine wRet ?_
  exact rgs1 (rg_tmp (gives_sub (Sub.of_eq (rfl))))
end Go.Proofs.Ytmhkalalcmkpbaa
