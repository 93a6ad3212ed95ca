/-
  Del
-/
import Derived.Test.YtmhkalalcmkpbaaZDotPlain
import Derived.Test.YtmhkalalcmkpbaaZFacBack2
import Derived.Test.YtmhkalalcmkpbaaZStampW
namespace Go.Proofs.Ytmhkalalcmkpbaa
set_option linter.unusedVariables false
set_option linter.unusedSimpArgs false

theorem chkAll_snoc {α : Type} (c : α → Int) (l : List α) (x : α) : chkAll c (l ++ [x]) = if chkAll c l ≠ 0 then chkAll c l else c x := by
  induction l with
  | nil =>
    show (if c x ≠ 0 then c x else 0) = _
    simp only [chkAll, ne_eq, not_true, if_false]
    by_cases h : c x = 0
    · rw [if_neg (by simpa using h), h]
    · rw [if_pos h]
  | cons y l ih =>
    show (if c y ≠ 0 then c y else chkAll c (l ++ [x])) = if (if c y ≠ 0 then c y else chkAll c l) ≠ 0 then (if c y ≠ 0 then c y else chkAll c l) else c x
    by_cases h : c y = 0
    · simp only [h, ne_eq, not_true, if_false]; exact ih
    · simp only [h, ne_eq, not_false_eq_true, if_true]
theorem chkTo_take (l : List (Int × Int)) : ∀ k, k ≤ l.length → chkTo l k = chkAll chk (l.take k)
  | 0, _ => by simp [chkTo, chkAll]
  | k + 1, h => by
    have hk : k < l.length := by omega
    have e : l.take (k + 1) = l.take k ++ [l.getD k default] := by
      rw [← List.take_append_getElem hk]
      simp [List.getD, List.getElem?_eq_getElem hk]
    rw [e, chkAll_snoc, ← chkTo_take l k (by omega)]
    rfl
theorem rises_G (l : List (Int × Int)) : Rises l l.length ↔ risesG ltD l = true := by
  rw [rises_iff]
  unfold Rises
  constructor
  · intro h j x y hx hy
    obtain ⟨hj, rfl⟩ := List.getElem?_eq_some_iff.1 hy
    obtain ⟨hj', rfl⟩ := List.getElem?_eq_some_iff.1 hx
    have := h (j + 1) hj (by omega)
    simpa [List.getD, List.getElem?_eq_getElem hj, List.getElem?_eq_getElem hj'] using this
  · intro h i hi h1
    have hp : i - 1 < l.length := by omega
    have := h (i - 1) _ _ (List.getElem?_eq_getElem hp) (by rw [show i - 1 + 1 = i by omega]; exact List.getElem?_eq_getElem hi)
    simpa [List.getD, List.getElem?_eq_getElem hi, List.getElem?_eq_getElem hp] using this
theorem mayE_G (l : List (Int × Int)) : mayE l = mayG chk ltD l := by
  unfold mayE mayG
  rw [chkTo_take l _ (Nat.le_refl _), List.take_length]
  by_cases h : Rises l l.length
  · rw [if_pos h, if_pos ((rises_G l).1 h)]
  · rw [if_neg h, if_neg (fun g => h ((rises_G l).2 g))]

abbrev DeltaT := (Int × Int) × (Int × Int × Int) × List FactT × List (Int × Int)
def sameF (d : DeltaT) (f : FactT) : Bool := decide (f.1 = d.1) && decide (f.2.1 = d.2.1)
def dfactsE (d : DeltaT) : Int := if chkAll chkF d.2.2.1 ≠ 0 then chkAll chkF d.2.2.1 else if (d.2.2.1.all (sameF d) && risesG ltF d.2.2.1) = true then 0 else 5
def dgoneE (d : DeltaT) : Int := if mayG chk ltD d.2.2.2 ≠ 0 then mayG chk ltD d.2.2.2 else if d.1 ∈ d.2.2.2 then 5 else 0
/-- Why an update may not be. -/
def deltaE (d : DeltaT) : Int :=
  if chk d.1 ≠ 0 then chk d.1 else if chkS d.2.1 ≠ 0 then chkS d.2.1 else if d.1.1 ≠ d.2.1.2.2 then 5 else
  if dfactsE d ≠ 0 then dfactsE d else if dgoneE d ≠ 0 then dgoneE d else if 256 < d.2.2.1.length ∨ 256 < d.2.2.2.length then 3 else 0
def numsD (d : DeltaT) : List Int := [d.1.1, d.1.2, d.2.1.1, d.2.1.2.1]
def partsD (d : DeltaT) : List ByteArray := [fputS d.2.2.1, putS d.2.2.2]
def dputE (d : DeltaT) : Int := if deltaE d ≠ 0 then deltaE d else if 65536 < (fputS d.2.2.1).size ∨ 65536 < (putS d.2.2.2).size then 3 else 0
def dputS (d : DeltaT) : ByteArray := if dputE d ≠ 0 then ⟨#[]⟩ else cat ((numsD d).map numS) ++ cat ((partsD d).map txS)

def dAt (s : ByteArray) : ByteArray × (ByteArray × Int) := rdT (rF4 (s, 0))
def dBt (s : ByteArray) : ByteArray × (ByteArray × Int) := rdT (dAt s).2
def dreadD (s : ByteArray) : DeltaT := (((rdN (s, 0)).1, (rdN (rF1 (s, 0))).1), ((rdN (rF2 (s, 0))).1, (rdN (rF3 (s, 0))).1, (rdN (s, 0)).1), freadL (dAt s).1, (readD (dBt s).1).1)
def dreadE (s : ByteArray) : Int := if doneE (dBt s).2 ≠ 0 then doneE (dBt s).2 else if freadE (dAt s).1 ≠ 0 then freadE (dAt s).1 else if (readD (dBt s).1).2 ≠ 0 then (readD (dBt s).1).2 else deltaE (dreadD s)
def zeroD : DeltaT := ((0, 0), (0, 0, 0), [], [])
def dreadT (s : ByteArray) : DeltaT := if dreadE s ≠ 0 then zeroD else dreadD s

theorem ifE {c a : Int} (h : (if c ≠ 0 then c else a) = 0) : c = 0 ∧ a = 0 := by
  by_cases g : c = 0
  · rw [if_neg (by simpa using g)] at h; exact ⟨g, h⟩
  · rw [if_pos g] at h; exact absurd h g
theorem ifE_mk {c a : Int} (h : c = 0) (h2 : a = 0) : (if c ≠ 0 then c else a) = 0 := by rw [if_neg (by simpa using h), h2]
theorem ifP {p : Prop} [Decidable p] {k a : Int} (hk : k ≠ 0) (h : (if p then k else a) = 0) : ¬ p ∧ a = 0 := by
  by_cases g : p
  · rw [if_pos g] at h; exact absurd h hk
  · rw [if_neg g] at h; exact ⟨g, h⟩
theorem deltaE_zero {d : DeltaT} (h : deltaE d = 0) : chk d.1 = 0 ∧ chkS d.2.1 = 0 ∧ d.1.1 = d.2.1.2.2 ∧ fputE d.2.2.1 = 0 ∧ putE d.2.2.2 = 0 ∧ d.2.2.1.length ≤ 256 ∧ d.2.2.2.length ≤ 256 := by
  unfold deltaE at h
  obtain ⟨h1, h⟩ := ifE h
  obtain ⟨h2, h⟩ := ifE h
  obtain ⟨h3, h⟩ := ifP (by decide) h
  obtain ⟨h4, h⟩ := ifE h
  obtain ⟨h5, h⟩ := ifE h
  obtain ⟨h6, _⟩ := ifP (by decide) h
  unfold dfactsE at h4
  obtain ⟨g1, g2⟩ := ifE h4
  have g3 : (d.2.2.1.all (sameF d) && risesG ltF d.2.2.1) = true := by
    by_cases g : (d.2.2.1.all (sameF d) && risesG ltF d.2.2.1) = true
    · exact g
    · rw [if_neg g] at g2; cases g2
  rw [Bool.and_eq_true] at g3
  unfold dgoneE at h5
  obtain ⟨k1, k2⟩ := ifE h5
  refine ⟨h1, h2, by omega, ?_, ?_, by omega, by omega⟩
  · unfold fputE; rw [if_neg (by omega)]; unfold mayG; exact ifE_mk g1 (if_pos g3.2)
  · unfold putE; rw [if_neg (by omega), mayE_G]; exact k1
theorem dputE_zero {d : DeltaT} (h : dputE d = 0) : deltaE d = 0 ∧ (fputS d.2.2.1).size ≤ 65536 ∧ (putS d.2.2.2).size ≤ 65536 := by
  unfold dputE at h
  obtain ⟨h1, h⟩ := ifE h
  obtain ⟨h2, _⟩ := ifP (by decide) h
  exact ⟨h1, by omega, by omega⟩
theorem chk_okN {d : Int × Int} (h : chk d = 0) : okN d.1 ∧ okN d.2 := by
  unfold chk at h
  obtain ⟨h, _⟩ := ifP (by decide) h
  exact ⟨⟨by omega, by omega⟩, ⟨by omega, by omega⟩⟩
theorem chkS_okN {d : Int × Int × Int} (h : chkS d = 0) : okN d.1 ∧ okN d.2.1 := by
  unfold chkS at h
  obtain ⟨h, _⟩ := ifP (by decide) h
  exact ⟨⟨by omega, by omega⟩, ⟨by omega, by omega⟩⟩
theorem cat4 (a b c d : ByteArray) : (cat [a, b, c, d]).data.toList = a.data.toList ++ (b.data.toList ++ (c.data.toList ++ d.data.toList)) := by
  rw [cat_data]; simp
theorem cat2 (a b : ByteArray) : (cat [a, b]).data.toList = a.data.toList ++ b.data.toList := by
  rw [cat_data]; simp
theorem dputS_data {d : DeltaT} (h : dputE d = 0) : (dputS d).data.toList = bytesN d.1.1.toNat ++ (bytesN d.1.2.toNat ++ (bytesN d.2.1.1.toNat ++ (bytesN d.2.1.2.1.toNat ++ (txB (fputS d.2.2.1) ++ (txB (putS d.2.2.2) ++ []))))) := by
  obtain ⟨h0, h1, h2⟩ := dputE_zero h
  obtain ⟨c1, c2, c3, c4, c5, c6, c7⟩ := deltaE_zero h0
  obtain ⟨n1, n2⟩ := chk_okN c1
  obtain ⟨n3, n4⟩ := chkS_okN c2
  unfold dputS
  rw [if_neg (by simpa using h)]
  rw [app_data]
  show (cat [numS _, numS _, numS _, numS _]).data.toList ++ (cat [txS _, txS _]).data.toList = _
  rw [cat4, cat2, numS_data _ n1.1 n1.2, numS_data _ n2.1 n2.2, numS_data _ n3.1 n3.2, numS_data _ n4.1 n4.2, txS_data _ h1, txS_data _ h2]
  simp only [List.append_assoc, List.append_nil]
theorem dread_put {d : DeltaT} (h : dputE d = 0) : dreadE (dputS d) = 0 ∧ dreadT (dputS d) = d := by
  have hd := dputS_data h
  obtain ⟨h0, h1, h2⟩ := dputE_zero h
  obtain ⟨c1, c2, c3, c4, c5, c6, c7⟩ := deltaE_zero h0
  obtain ⟨n1, n2⟩ := chk_okN c1
  obtain ⟨n3, n4⟩ := chkS_okN c2
  generalize dputS d = s at hd ⊢
  obtain ⟨s1, e1, d1⟩ := rdN_put s _ _ (by have := n1.2; omega) hd
  obtain ⟨s2, e2, d2⟩ := rdN_put s1 _ _ (by have := n2.2; omega) d1
  obtain ⟨s3, e3, d3⟩ := rdN_put s2 _ _ (by have := n3.2; omega) d2
  obtain ⟨s4, e4, d4⟩ := rdN_put s3 _ _ (by have := n4.2; omega) d3
  obtain ⟨s5, e5, d5⟩ := rdT_put s4 _ _ h1 d4
  obtain ⟨s6, e6, d6⟩ := rdT_put s5 _ _ h2 d5
  have f1 : rF1 (s, 0) = (s1, 0) := by unfold rF1; rw [e1]
  have f2 : rF2 (s, 0) = (s2, 0) := by unfold rF2; rw [f1, e2]
  have f3 : rF3 (s, 0) = (s3, 0) := by unfold rF3; rw [f2, e3]
  have f4 : rF4 (s, 0) = (s4, 0) := by unfold rF4; rw [f3, e4]
  have fa : dAt s = (fputS d.2.2.1, (s5, 0)) := by unfold dAt; rw [f4, e5]
  have fb : dBt s = (putS d.2.2.2, (s6, 0)) := by unfold dBt; rw [fa]; exact e6
  have hs : s6.size = 0 := by rw [← len_data, d6]; rfl
  have hdn : doneE (s6, 0) = 0 := by unfold doneE; rw [if_neg (by simp), if_pos hs]
  obtain ⟨p1, p2⟩ := fread_put c4
  have p3 := readD_put _ c5
  have hD : dreadD s = d := by
    unfold dreadD
    rw [fa, fb, f1, f2, f3, e1, e2, e3, e4]
    obtain ⟨⟨x1, x2⟩, ⟨x3, x4, x5⟩, x6, x7⟩ := d
    have hsame : x1 = x5 := c3
    subst hsame
    simp only [p2, p3, Int.toNat_of_nonneg n1.1, Int.toNat_of_nonneg n2.1, Int.toNat_of_nonneg n3.1, Int.toNat_of_nonneg n4.1]
  have hE : dreadE s = 0 := by
    unfold dreadE
    rw [fa, fb, hD]
    exact ifE_mk hdn (ifE_mk p1 (ifE_mk (by rw [p3]) h0))
  refine ⟨hE, ?_⟩
  unfold dreadT
  rw [if_neg (by simpa using hE), hD]
theorem doneE_zero {st : ByteArray × Int} (h2 : doneE st = 0) : st.2 = 0 ∧ st.1.size = 0 := by
  unfold doneE at h2
  by_cases a : st.2 = 0
  · rw [if_neg (by simpa using a)] at h2
    by_cases b : st.1.size = 0
    · exact ⟨a, b⟩
    · rw [if_neg b] at h2; cases h2
  · rw [if_pos a] at h2; exact absurd h2 a
theorem dput_read {s : ByteArray} (h : dreadE s = 0) : dputE (dreadT s) = 0 ∧ dputS (dreadT s) = s := by
  have hT : dreadT s = dreadD s := by unfold dreadT; rw [if_neg (by simpa using h)]
  rw [hT]
  unfold dreadE at h
  obtain ⟨h1, h⟩ := ifE h
  obtain ⟨h2, h⟩ := ifE h
  obtain ⟨h3, h0⟩ := ifE h
  obtain ⟨g1, g2⟩ := doneE_zero h1
  have h6 : (rdT (dAt s).2).2.2 = 0 := g1
  obtain ⟨a5, b5, c5⟩ := rdT_back (dAt s).2.1 (dAt s).2.2 h6
  have h5 : (rdT (rF4 (s, 0))).2.2 = 0 := a5
  obtain ⟨a4, b4, c4⟩ := rdT_back (rF4 (s, 0)).1 (rF4 (s, 0)).2 h5
  have h4 : (rdN (rF3 (s, 0))).2.2 = 0 := a4
  obtain ⟨a3, b3, c3⟩ := rdN_back (rF3 (s, 0)).1 (rF3 (s, 0)).2 h4
  have h3' : (rdN (rF2 (s, 0))).2.2 = 0 := a3
  obtain ⟨a2, b2, c2⟩ := rdN_back (rF2 (s, 0)).1 (rF2 (s, 0)).2 h3'
  have h2' : (rdN (rF1 (s, 0))).2.2 = 0 := a2
  obtain ⟨a1, b1, c1⟩ := rdN_back (rF1 (s, 0)).1 (rF1 (s, 0)).2 h2'
  have h1' : (rdN (s, 0)).2.2 = 0 := a1
  obtain ⟨a0, b0, c0⟩ := rdN_back s 0 h1'
  obtain ⟨q1, q2⟩ := fput_read h2
  obtain ⟨q3, q4⟩ := readD_back _ h3
  have hA : (fputS (dreadD s).2.2.1) = (dAt s).1 := q2
  have hB : (putS (dreadD s).2.2.2) = (dBt s).1 := q4
  have s1 : (dAt s).1.size ≤ 65536 := c4
  have s2 : (dBt s).1.size ≤ 65536 := c5
  have hE : dputE (dreadD s) = 0 := by
    unfold dputE
    refine ifE_mk h0 (if_neg ?_)
    rw [hA, hB]; omega
  refine ⟨hE, ba_ext ?_⟩
  rw [dputS_data hE, hA, hB]
  have e : (dBt s).2.1.data.toList = [] := List.eq_nil_of_length_eq_zero (by rw [len_data]; exact g2)
  rw [← e]
  show bytesN (Int.toNat _) ++ _ = _
  simp only [dreadD, Int.toNat_natCast]
  exact (b0.trans (congrArg (bytesN _ ++ ·) (b1.trans (congrArg (bytesN _ ++ ·) (b2.trans (congrArg (bytesN _ ++ ·) (b3.trans (congrArg (bytesN _ ++ ·) (b4.trans (congrArg (txB _ ++ ·) b5)))))))))).symm
end Go.Proofs.Ytmhkalalcmkpbaa
