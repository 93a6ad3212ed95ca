/-
  Frc
-/
import Derived.Test.YtmhkalalcmkpbaaZFrb
namespace Go.Proofs.Ytmhkalalcmkpbaa
open Go Go.RowKit
set_option linter.unusedVariables false
set_option linter.unusedSimpArgs false

theorem freadE_long {s : ByteArray} (h : 4096 < (rdN (s, 0)).1) : freadE s = 3 := if_pos h
theorem freadE_done {s : ByteArray} (h : ¬ 4096 < (rdN (s, 0)).1) (h2 : doneE (rF s).2 ≠ 0) : freadE s = doneE (rF s).2 := by unfold freadE; rw [if_neg h, if_pos h2]
theorem freadE_may {s : ByteArray} (h : ¬ 4096 < (rdN (s, 0)).1) (h2 : doneE (rF s).2 = 0) : freadE s = mayG chkF ltF (rF s).1 := by unfold freadE; rw [if_neg h, if_neg (by simpa using h2)]
theorem freadL_err {s : ByteArray} (h : freadE s ≠ 0) : freadL s = [] := if_pos h
theorem freadL_ok {s : ByteArray} (h : freadE s = 0) : freadL s = (rF s).1 := if_neg (by simpa using h)
theorem sub_nilF {l : List FactT} (h : l = []) : Sub (.x (.slice none 0 0)) (slF l) := by subst h; exact Sub.nil_
/-- What the loop has read, and what is left. -/
structure RdI (s : ByteArray) (i : Nat) (acc : List FactT) (st : ByteArray × Int) : Prop where
  len : acc.length = i
  le : i ≤ (rdN (s, 0)).1
  size : st.1.size < 9223372036854775807
  eq : rF s = (acc ++ (rdFs ((rdN (s, 0)).1 - i) st).1, (rdFs ((rdN (s, 0)).1 - i) st).2)
theorem RdI.start {s : ByteArray} (hs : s.size < 9223372036854775807) : RdI s 0 [] (rdN (s, 0)).2 := ⟨rfl, Nat.zero_le _, Nat.lt_of_le_of_lt (rdN_size (s, 0)) hs, rfl⟩
theorem RdI.step {s : ByteArray} {i : Nat} {acc : List FactT} {st : ByteArray × Int} (h : RdI s i acc st) (hi : i < (rdN (s, 0)).1) (he : st.2 = 0) : RdI s (i + 1) (acc ++ [(rdF st).1]) (rdF st).2 := by
  refine ⟨by simp [h.len], hi, Nat.lt_of_le_of_lt (rF7_size st).2.2.2.2.2.2 h.size, ?_⟩
  rw [h.eq, show (rdN (s, 0)).1 - i = ((rdN (s, 0)).1 - (i + 1)) + 1 by omega, rdFs_step _ _ he]
  simp
theorem RdI.stop {s : ByteArray} {i : Nat} {acc : List FactT} {st : ByteArray × Int} (h : RdI s i acc st) (hb : (decide ((i : Int) < ((rdN (s, 0)).1 : Nat)) && decide (st.2 = 0)) = false) : rF s = (acc, st) := by
  have e : rdFs ((rdN (s, 0)).1 - i) st = ([], st) := by
    by_cases hi : i < (rdN (s, 0)).1
    · have : ¬ st.2 = 0 := by
        intro hz
        rw [decide_eq_true hz, Bool.and_true, decide_eq_false_iff_not] at hb
        omega
      exact rdFs_stop _ _ this
    · rw [show (rdN (s, 0)).1 - i = 0 by omega]; rfl
  rw [h.eq, e]; simp
theorem RdI.ok {s : ByteArray} {i : Nat} {acc : List FactT} {st : ByteArray × Int} (h : RdI s i acc st) : ∀ f ∈ acc, okF f := fun f hf => by
  have := rdFs_ok (rdN (s, 0)).1 (rdN (s, 0)).2 f
  have e := h.eq
  unfold rF at e
  rw [e] at this
  exact this (by simp [hf])
theorem and_t {a b : Bool} (h : (a && b) = true) : a = true ∧ b = true := by simpa using h
theorem snoc_flat (acc : List FactT) (d : FactT) : (acc ++ [d]).flatMap encF = acc.flatMap encF ++ encF d := by simp

set_option maxRecDepth 100000 in
theorem rfread_p (s : ByteArray) (hs : s.size < 9223372036854775807) : PFn Try.prog False 44 [sA s] (.tup [slF (freadL s), iA (freadE s)]) := by
  refine pfn Try.func44 rfl (by kernel_rfl) 56 rfl _ rfl (Nat.le_of_ble_eq_true rfl) (fun X w0 => ?_)
  refine wSeq ?_
  refine wReg ?_
  refine sP rfl rfl rfl (pA rfl rfl) ?_
  refine sP rfl rfl rfl (pA rfl rfl) ?_
  refine lNil ?_
  refine wSeq ?_
  refine wReg ?_
  refine sP rfl rfl rfl (pM rfl rfl) ?_
  refine sP rfl rfl rfl (p_build rfl ze127 pl127 rfl rfl) ?_
  refine sP rfl rfl rfl (p_call rfl (rrnum_p (s, 0) hs) ⟨Sub.refl, trivial⟩) ?_
  refine sP rfl rfl rfl (pMt rfl rfl) ?_
  refine sP rfl rfl rfl (p_extract rfl rfl rfl) ?_
  refine sP rfl rfl rfl (p_extract rfl rfl rfl) ?_
  refine sAlloc rfl rfl rfl rfl ze127 (fun g4 => ?_)
  refine sStore 0 rfl rfl rfl rfl rfl ty127 rfl rfl rfl (Nat.le_of_ble_eq_true rfl) ?_
  refine sP rfl rfl rfl (pA rfl rfl) ?_
  refine lNil ?_
  refine wSeq ?_
  refine wCut (fun L h => ∃ b : Bool, b = (decide ((rdN (s, 0)).2.2 = 0) && decide ((((rdN (s, 0)).1 : Nat) : Int) > 4096)) ∧ L = [(4, .x (.pointer (some ⟨g4, 0, none⟩))), (5, iA ((rdN (s, 0)).1 : Nat)), (24, bA b)] ∧ h = [.cells g4 127 [sA (rdN (s, 0)).2.1, iA (rdN (s, 0)).2.2]]) ?_ ?_
  · cases hb : (decide ((rdN (s, 0)).2.2 = 0)) with
    | true =>
      refine wReg ?_
      refine sP rfl rfl rfl (p_fieldAddr_own rfl rfl fl127_1 ty3 (by decide)) ?_
      refine sP rfl rfl rfl (pLdO1 0 rfl rfl rfl ty3 rfl) ?_
      refine sP rfl rfl rfl (p_icmp rfl rfl rfl (congrArg some hb)) ?_
      refine sP rfl rfl rfl (pM rfl rfl) ?_
      refine sG rfl rfl rfl rfl rfl (pM rfl rfl) ?_
      refine sG rfl rfl rfl rfl rfl (p_icmp rfl rfl rfl rfl) ?_
      refine sP rfl rfl rfl (p_pick rfl rfl rfl) ?_
      refine lNil ?_
      exact ⟨_, [.cells g4 127 [sA (rdN (s, 0)).2.1, iA (rdN (s, 0)).2.2]], [], ⟨_, (by rfl), rfl, rfl⟩, ⟨rfl, rfl, rfl, trivial⟩, rfl⟩
    | false =>
      refine wReg ?_
      refine sP rfl rfl rfl (p_fieldAddr_own rfl rfl fl127_1 ty3 (by decide)) ?_
      refine sP rfl rfl rfl (pLdO1 0 rfl rfl rfl ty3 rfl) ?_
      refine sP rfl rfl rfl (p_icmp rfl rfl rfl (congrArg some hb)) ?_
      refine sP rfl rfl rfl (pM rfl rfl) ?_
      refine sU rfl rfl rfl (by decide) rfl rfl ?_
      refine sU rfl rfl rfl (by decide) rfl rfl ?_
      refine sP rfl rfl rfl (p_pick rfl rfl rfl) ?_
      refine lNil ?_
      exact ⟨_, [.cells g4 127 [sA (rdN (s, 0)).2.1, iA (rdN (s, 0)).2.2]], [], ⟨_, (by rfl), rfl, rfl⟩, ⟨rfl, rfl, rfl, trivial⟩, rfl⟩
  · rintro L h ⟨b, hb, rfl, rfl⟩
    refine wCond rfl (fun hc1 => ?_) (fun hc1 => ?_)
    · refine wSeq ?_
      refine wReg ?_
      refine sP rfl rfl rfl (pA rfl rfl) ?_
      refine sP rfl rfl rfl (pA rfl rfl) ?_
      refine lNil ?_
      refine wRet ?_
      have he : freadE s = 3 := freadE_long (by have h := (and_t (hb.symm.trans hc1)).2; simp at h; omega)
      exact rgs2 (rg_tmp (gives_sub (sub_nilF (freadL_err (by rw [he]; decide))))) (rg_tmp (gives_sub (Sub.of_eq (avI he.symm))))
    · have hlen : ¬ 4096 < (rdN (s, 0)).1 := fun h => by
        have h0 : (rdN (s, 0)).2.2 = 0 := Classical.byContradiction fun h0 => by rw [rdN_zeroE h0] at h; omega
        have hb2 := hb.symm.trans hc1
        rw [decide_eq_true h0, Bool.true_and, decide_eq_false_iff_not] at hb2
        omega
      refine wSkip ?_
      refine wSeq ?_
      refine wReg ?_
      refine sP rfl rfl rfl (pA rfl rfl) ?_
      refine lNil ?_
      refine wSeq ?_
      refine wNilrow 87 8 ?_
      refine wSeq ?_
      refine wReg ?_
      refine sP rfl rfl rfl (pA rfl rfl) ?_
      refine lNil ?_
      refine wBlock ?_
      refine wLoop (fun mm L h => ∃ i st acc v, mm = (rdN (s, 0)).1 - i ∧ RdI s i acc st ∧ L = [(4, .x (.pointer (some ⟨g4, 0, none⟩))), (5, iA ((rdN (s, 0)).1 : Nat)), (6, .x v), (7, iA (i : Nat))] ∧ h = [.cells g4 127 [sA st.1, iA st.2], .row v 87 8 acc.length (acc.flatMap encF)]) ⟨_, _, _, _, ⟨0, (rdN (s, 0)).2, [], .slice none 0 0, rfl, RdI.start hs, rfl, rfl⟩, ⟨rfl, rfl, rfl, rfl, trivial⟩, rfl⟩ ?_
      rintro mm L h ⟨i, st, acc, v, rfl, hI, rfl, rfl⟩
      refine wSeq ?_
      refine wCut (fun L h => ∃ b : Bool, b = (decide ((i : Int) < ((rdN (s, 0)).1 : Nat)) && decide (st.2 = 0)) ∧ L = [(4, .x (.pointer (some ⟨g4, 0, none⟩))), (5, iA ((rdN (s, 0)).1 : Nat)), (6, .x v), (7, iA (i : Nat)), (32, bA b)] ∧ h = [.cells g4 127 [sA st.1, iA st.2], .row v 87 8 acc.length (acc.flatMap encF)]) ?_ ?_
      · cases hb : (decide ((i : Int) < ((rdN (s, 0)).1 : Nat))) with
        | true =>
          refine wReg ?_
          refine sP rfl rfl rfl (pM rfl rfl) ?_
          refine sP rfl rfl rfl (pM rfl rfl) ?_
          refine sP rfl rfl rfl (p_icmp rfl rfl rfl (congrArg some hb)) ?_
          refine sP rfl rfl rfl (pM rfl rfl) ?_
          refine sG rfl rfl rfl rfl rfl (p_fieldAddr_own rfl rfl fl127_1 ty3 (by decide)) ?_
          refine sG rfl rfl rfl rfl rfl (pLdO1 0 rfl rfl rfl ty3 rfl) ?_
          refine sG rfl rfl rfl rfl rfl (p_icmp rfl rfl rfl rfl) ?_
          refine sP rfl rfl rfl (p_pick rfl rfl rfl) ?_
          refine lNil ?_
          exact ⟨_, [.cells g4 127 [sA st.1, iA st.2], .row v 87 8 acc.length (acc.flatMap encF)], [], ⟨_, (by rfl), rfl, rfl⟩, ⟨rfl, rfl, rfl, rfl, rfl, trivial⟩, rfl⟩
        | false =>
          refine wReg ?_
          refine sP rfl rfl rfl (pM rfl rfl) ?_
          refine sP rfl rfl rfl (pM rfl rfl) ?_
          refine sP rfl rfl rfl (p_icmp rfl rfl rfl (congrArg some hb)) ?_
          refine sP rfl rfl rfl (pM rfl rfl) ?_
          refine sU rfl rfl rfl (by decide) rfl rfl ?_
          refine sU rfl rfl rfl (by decide) rfl rfl ?_
          refine sU rfl rfl rfl (by decide) rfl rfl ?_
          refine sP rfl rfl rfl (p_pick rfl rfl rfl) ?_
          refine lNil ?_
          exact ⟨_, [.cells g4 127 [sA st.1, iA st.2], .row v 87 8 acc.length (acc.flatMap encF)], [], ⟨_, (by rfl), rfl, rfl⟩, ⟨rfl, rfl, rfl, rfl, rfl, trivial⟩, rfl⟩
      · rintro L h ⟨b, hb, rfl, rfl⟩
        refine wCond rfl (fun hc2 => ?_) (fun hc2 => ?_)
        · have hin : i < (rdN (s, 0)).1 := by have h := (and_t (hb.symm.trans hc2)).1; simp at h; omega
          have hst0 : st.2 = 0 := by have h := (and_t (hb.symm.trans hc2)).2; simpa using h
          refine wSkip ?_
          refine wSeq ?_
          refine wBlock ?_
          refine wSeq ?_
          refine wReg ?_
          refine sP rfl rfl rfl (pLdW 0 rfl rfl rfl ty127 rfl) ?_
          refine sP rfl rfl rfl (p_call rfl (rtake_p st hI.size) ⟨Sub.refl, trivial⟩) ?_
          refine sP rfl rfl rfl (pMt rfl rfl) ?_
          refine sP rfl rfl rfl (p_extract rfl rfl rfl) ?_
          refine sP rfl rfl rfl (p_extract rfl rfl rfl) ?_
          refine sAlloc rfl rfl rfl rfl ze127 (fun g8 => ?_)
          refine sAlloc rfl rfl rfl rfl ze87 (fun g9 => ?_)
          refine sStore (2) rfl rfl rfl rfl rfl ty127 rfl rfl rfl (Nat.le_of_ble_eq_true rfl) ?_
          refine sStore (3) rfl rfl rfl rfl rfl ty87 rfl rfl rfl (Nat.le_of_ble_eq_true rfl) ?_
          refine lNil ?_
          refine wSeq ?_
          refine wReg ?_
          refine sP rfl rfl rfl (pLdW (2) rfl rfl rfl ty127 rfl) ?_
          refine sStore 0 rfl rfl rfl rfl rfl ty127 rfl rfl rfl (Nat.le_of_ble_eq_true rfl) ?_
          refine lNil ?_
          refine wReg ?_
          refine sP rfl rfl rfl (pM rfl rfl) ?_
          refine sP rfl rfl rfl (pLdW (3) rfl rfl rfl ty87 rfl) ?_
          refine sP rfl rfl rfl (p_buildSlice rfl ze87 Try.underlying26 ty87 (by decide) (by decide) rfl rfl rfl) ?_
          refine sAppend (news := encF (rdF st).1) (mm := 1) 1 rfl rfl rfl rfl Try.underlying26 ro87 rfl rfl rfl rfl (by have := hI.len; omega) (by have := hI.len; omega) (fun v44 => ?_)
          refine sP rfl rfl rfl (pA rfl rfl) ?_
          refine lNil ?_
          refine wReg ?_
          refine sP rfl rfl rfl (pM rfl rfl) ?_
          refine sP rfl rfl rfl (p_iar rfl rfl rfl rfl) ?_
          refine sP rfl rfl rfl (pA rfl rfl) ?_
          refine lNil ?_
          refine ⟨_, _, [.cells g4 127 [sA (rdF st).2.1, iA (rdF st).2.2], .row v44 87 8 (acc.length + 1) (acc.flatMap encF ++ encF (rdF st).1)], _, ?_, ⟨i + 1, (rdF st).2, acc ++ [(rdF st).1], v44, rfl, hI.step hin hst0, rfl, ?_⟩, ⟨rfl, rfl, rfl, avI (wrapI (by omega) (by omega)), trivial⟩, rfl⟩
          · omega
          · rw [snoc_flat, List.length_append]; rfl
        · have hF := hI.stop (hb.symm.trans hc2)
          refine wExit ?_
          refine wFreeze 1 6 rfl rfl ?_
          refine wSeq ?_
          refine wSeq ?_
          refine wReg ?_
          refine sP rfl rfl rfl (pLdW 0 rfl rfl rfl ty127 rfl) ?_
          refine sP rfl rfl rfl (p_call rfl (rrdone_p st) ⟨Sub.refl, trivial⟩) ?_
          refine sP rfl rfl rfl (pA rfl rfl) ?_
          refine lNil ?_
          refine wSeq ?_
          refine wReg ?_
          refine sP rfl rfl rfl (pM rfl rfl) ?_
          refine sP rfl rfl rfl (p_icmp rfl rfl rfl rfl) ?_
          refine lNil ?_
          refine wCond rfl (fun hc3 => ?_) (fun hc3 => ?_)
          · refine wSeq ?_
            refine wReg ?_
            refine sP rfl rfl rfl (pM rfl rfl) ?_
            refine sP rfl rfl rfl (pA rfl rfl) ?_
            refine sP rfl rfl rfl (pA rfl rfl) ?_
            refine lNil ?_
            refine wRet ?_
            have hd : doneE (rF s).2 ≠ 0 := by rw [hF]; simpa using hc3
            have he : freadE s = doneE st := by rw [freadE_done hlen hd, hF]
            exact rgs2 (rg_tmp (gives_sub (sub_nilF (freadL_err (by rw [freadE_done hlen hd]; exact hd))))) (rg_tmp (gives_sub (Sub.of_eq (avI he.symm))))
          · have hd0 : doneE (rF s).2 = 0 := by rw [hF]; simpa using hc3
            refine wSkip ?_
            refine wSeq ?_
            refine wSeq ?_
            refine wReg ?_
            refine sP rfl rfl rfl (pMs rfl rfl) ?_
            refine sP rfl rfl rfl (p_call rfl (rfchecks_p acc (by have := hI.len; have := hI.le; omega) hI.ok) ⟨Sub.refl, trivial⟩) ?_
            refine sP rfl rfl rfl (pA rfl rfl) ?_
            refine lNil ?_
            refine wSeq ?_
            refine wReg ?_
            refine sP rfl rfl rfl (pM rfl rfl) ?_
            refine sP rfl rfl rfl (p_icmp rfl rfl rfl rfl) ?_
            refine lNil ?_
            refine wCond rfl (fun hc4 => ?_) (fun hc4 => ?_)
            · refine wSeq ?_
              refine wReg ?_
              refine sP rfl rfl rfl (pM rfl rfl) ?_
              refine sP rfl rfl rfl (pA rfl rfl) ?_
              refine sP rfl rfl rfl (pA rfl rfl) ?_
              refine lNil ?_
              refine wRet ?_
              have hm : mayG chkF ltF acc ≠ 0 := by simpa using hc4
              have he : freadE s = mayG chkF ltF acc := by rw [freadE_may hlen hd0, hF]
              exact rgs2 (rg_tmp (gives_sub (sub_nilF (freadL_err (by rw [he]; exact hm))))) (rg_tmp (gives_sub (Sub.of_eq (avI he.symm))))
            · refine wSkip ?_
              refine wSeq ?_
              refine wReg ?_
              refine sP rfl rfl rfl (pMs rfl rfl) ?_
              refine sP rfl rfl rfl (pAs rfl rfl) ?_
              refine sP rfl rfl rfl (pA rfl rfl) ?_
              refine lNil ?_
              refine wRet ?_
              have hm : mayG chkF ltF acc = 0 := by simpa using hc4
              have he : freadE s = 0 := by rw [freadE_may hlen hd0, hF]; exact hm
              have hl : freadL s = acc := by rw [freadL_ok he, hF]
              rw [hl]
              exact rgs2 (rg_tmp (gives_sub Sub.refl)) (rg_tmp (gives_sub (Sub.of_eq (avI he.symm))))
end Go.Proofs.Ytmhkalalcmkpbaa
