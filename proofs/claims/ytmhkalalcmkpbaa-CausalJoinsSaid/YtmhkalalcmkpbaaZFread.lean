/-
  Rdr Fread
-/
import Derived.Test.YtmhkalalcmkpbaaZC4
import Derived.Test.YtmhkalalcmkpbaaZFrb
import Derived.Test.YtmhkalalcmkpbaaZFrc
namespace Go.Proofs.Ytmhkalalcmkpbaa
open Go Go.RowKit
set_option linter.unusedVariables false
set_option linter.unusedSimpArgs false

/-- A reader: what is left, and the first error. -/
def rdO (p : Nat) (st : ByteArray × Int) : HObj := .cells p 177 [sA st.1, iA st.2]
def RdR (p : Nat) (a : AV) (st : ByteArray × Int) (av : AV) (h' : List HObj) : Prop := av = a ∧ h' = [rdO p st]
theorem RdR.one {p : Nat} {a : AV} {st : ByteArray × Int} {av : AV} {h' : List HObj} (h : RdR p a st av h') : ∃ q, h' = [q] := ⟨_, h.2⟩
theorem RdR.pq {p : Nat} {a : AV} {st : ByteArray × Int} {av : AV} {q : HObj} (h : RdR p a st av [q]) : av = a ∧ q = rdO p st := ⟨h.1, by simpa using h.2⟩
theorem number_p {K : Prop} (s : ByteArray) (hs : s.size < 9223372036854775807) : PFn Try.prog K 135 [sA s] (.tup [iA ((numR s.data.toList).2.1 : Nat), iA ((numR s.data.toList).2.2 : Nat), iA (numR s.data.toList).1]) := pfn_ex rfl rfl (enter_of Try.func135 (by kernel_rfl) rfl) fun w => (number_c s hs w).mono fun e w' ⟨h1, h2⟩ => ⟨h1, bl_eq h2⟩
theorem txt_p {K : Prop} (s : ByteArray) (hs : s.size < 9223372036854775807) : PFn Try.prog K 132 [sA s] (.tup [sA (textR s).1, iA ((textR s).2.1 : Nat), iA (textR s).2.2]) := pfn_ex rfl rfl (enter_of Try.func132 (by kernel_rfl) rfl) fun w => (text_c s hs w).mono fun e w' ⟨h1, h2⟩ => ⟨h1, bl_eq h2.symm⟩
theorem rdN_e {st : ByteArray × Int} (h : st.2 ≠ 0) : rdN st = (0, st) := if_pos h
theorem rdN_f {st : ByteArray × Int} (h : st.2 = 0) (h2 : (numR st.1.data.toList).1 ≠ 0) : rdN st = (0, (st.1, (numR st.1.data.toList).1)) := by unfold rdN; rw [if_neg (by simpa using h), if_pos h2]
theorem rdN_o {st : ByteArray × Int} (h : st.2 = 0) (h2 : (numR st.1.data.toList).1 = 0) : rdN st = ((numR st.1.data.toList).2.1, (st.1.extract (numR st.1.data.toList).2.2 st.1.size, 0)) := by unfold rdN; rw [if_neg (by simpa using h), if_neg (by simpa using h2)]
theorem rdT_e {st : ByteArray × Int} (h : st.2 ≠ 0) : rdT st = (⟨#[]⟩, st) := if_pos h
theorem rdT_f {st : ByteArray × Int} (h : st.2 = 0) (h2 : (textR st.1).2.2 ≠ 0) : rdT st = (⟨#[]⟩, (st.1, (textR st.1).2.2)) := by unfold rdT; rw [if_neg (by simpa using h), if_pos h2]
theorem rdT_o {st : ByteArray × Int} (h : st.2 = 0) (h2 : (textR st.1).2.2 = 0) : rdT st = ((textR st.1).1, (st.1.extract (textR st.1).2.1 st.1.size, 0)) := by unfold rdT; rw [if_neg (by simpa using h), if_neg (by simpa using h2)]
theorem rdO_eq {p : Nat} {st : ByteArray × Int} {s : ByteArray} {e : Int} (h : st = (s, e)) : rdO p st = .cells p 177 [sA s, iA e] := by rw [h]; rfl
def nP (p : Nat) : AV := .x (.pointer (some ⟨p, 0, none⟩))
def fnA (g : FuncId) : AV := .x (.func (.func g) #[] #[])
theorem val3 {st : ByteArray × Int} (h : st.2 = 0) : st = (st.1, 0) := by cases st; simp only at h; subst h; rfl

set_option maxRecDepth 100000 in
theorem new_m {K : Prop} (s : ByteArray) : MFn Try.prog K 80 [sA s] [] (fun av h' => ∃ p, RdR p (nP p) (s, 0) av h') := by
  refine mfn Try.func80 rfl (by kernel_rfl) 6 rfl _ rfl (Nat.le_of_ble_eq_true rfl) (fun X w0 => ?_)
  refine wSeq ?_
  refine wReg ?_
  refine sP rfl rfl rfl (pA rfl rfl) ?_
  refine lNil ?_
  refine wSeq ?_
  refine wReg ?_
  refine sP rfl rfl rfl (pM rfl rfl) ?_
  refine sP rfl rfl rfl (p_build rfl ze177 pl177 rfl rfl) ?_
  refine sBox rfl rfl rfl rfl rfl (fun g5 => ?_)
  refine sP rfl rfl rfl (pA rfl rfl) ?_
  refine lNil ?_
  refine wRet ?_
  exact ⟨_, [rdO g5 (s, 0)], [], rfl, ⟨g5, rfl, rfl⟩, rgm_tmp (r := []) rfl Sub.refl⟩
set_option maxRecDepth 100000 in
theorem takenI_m {K : Prop} (p : Nat) (st : ByteArray × Int) (hs : st.1.size < 9223372036854775807) : MFn Try.prog K 134 [nP p, fnA 135] [rdO p st] (RdR p (iA ((rdN st).1 : Nat)) (rdN st).2) := by
  refine mfn Try.func134 rfl (by kernel_rfl) 46 rfl _ rfl (Nat.le_of_ble_eq_true rfl) (fun X w0 => ?_)
  refine wSeq ?_
  refine wReg ?_
  refine sP rfl rfl rfl (pA rfl rfl) ?_
  refine lNil ?_
  refine wSeq ?_
  refine wReg ?_
  refine sP rfl rfl rfl (pA rfl rfl) ?_
  refine lNil ?_
  refine wSeq ?_
  refine wSeq ?_
  refine wReg ?_
  refine sP rfl rfl rfl (pM rfl rfl) ?_
  refine sP rfl rfl rfl (p_peqnil rfl rfl Try.underlying118) ?_
  refine sP rfl rfl rfl (pM rfl rfl) ?_
  refine sG rfl rfl rfl rfl rfl (pM rfl rfl) ?_
  refine sG rfl rfl rfl rfl rfl (p_nilCheck rfl rfl) ?_
  refine sG rfl rfl rfl rfl rfl (p_fieldAddr_own rfl rfl fl177_1 ty32 (by decide)) ?_
  refine sG rfl rfl rfl rfl rfl (pLdO1 0 rfl rfl rfl ty32 rfl) ?_
  refine sG rfl rfl rfl rfl rfl (p_icmp rfl rfl rfl rfl) ?_
  refine sP rfl rfl rfl (p_pick rfl rfl rfl) ?_
  refine lNil ?_
  refine wCond rfl (fun hc1 => ?_) (fun hc1 => ?_)
  · refine wSeq ?_
    refine wReg ?_
    refine sP rfl rfl rfl (pM rfl rfl) ?_
    refine sP rfl rfl rfl (pA rfl rfl) ?_
    refine lNil ?_
    refine wRet ?_
    have h : st.2 ≠ 0 := by simpa using hc1
    exact ⟨_, [rdO p st], [], rfl, ⟨by rw [rdN_e h]; rfl, by rw [rdN_e h]⟩, rgm_tmp (r := []) rfl Sub.refl⟩
  · have h : st.2 = 0 := by simpa using hc1
    refine wSkip ?_
    refine wSeq ?_
    refine wReg ?_
    refine sP rfl rfl rfl (pM rfl rfl) ?_
    refine sP rfl rfl rfl (pM rfl rfl) ?_
    refine sP rfl rfl rfl (p_nilCheck rfl rfl) ?_
    refine sP rfl rfl rfl (p_fieldAddr_own rfl rfl fl177_0 ty9 (by decide)) ?_
    refine sP rfl rfl rfl (pLdO1 0 rfl rfl rfl ty9 rfl) ?_
    refine sP rfl rfl rfl (p_callv (us := []) rfl rfl (number_p st.1 hs) ⟨Sub.refl, trivial⟩) ?_
    refine sP rfl rfl rfl (pMt rfl rfl) ?_
    refine sP rfl rfl rfl (p_extract rfl rfl rfl) ?_
    refine sP rfl rfl rfl (p_extract rfl rfl rfl) ?_
    refine sP rfl rfl rfl (p_extract rfl rfl rfl) ?_
    refine sP rfl rfl rfl (pA rfl rfl) ?_
    refine sP rfl rfl rfl (pA rfl rfl) ?_
    refine sP rfl rfl rfl (pA rfl rfl) ?_
    refine lNil ?_
    refine wSeq ?_
    refine wSeq ?_
    refine wReg ?_
    refine sP rfl rfl rfl (pM rfl rfl) ?_
    refine sP rfl rfl rfl (p_icmp rfl rfl rfl rfl) ?_
    refine lNil ?_
    refine wCond rfl (fun hc2 => ?_) (fun hc2 => ?_)
    · refine wSeq ?_
      refine wReg ?_
      refine sP rfl rfl rfl (pM rfl rfl) ?_
      refine sP rfl rfl rfl (pM rfl rfl) ?_
      refine sP rfl rfl rfl (p_nilCheck rfl rfl) ?_
      refine sP rfl rfl rfl (p_fieldAddr_own rfl rfl fl177_1 ty32 (by decide)) ?_
      refine sStore1 0 rfl rfl rfl rfl rfl ty32 rfl rfl (Nat.le_of_ble_eq_true rfl) ?_
      refine lNil ?_
      refine wSeq ?_
      refine wReg ?_
      refine sP rfl rfl rfl (pM rfl rfl) ?_
      refine sP rfl rfl rfl (pA rfl rfl) ?_
      refine lNil ?_
      refine wRet ?_
      have h2 : (numR st.1.data.toList).1 ≠ 0 := by simpa using hc2
      exact ⟨_, [rdO p (st.1, (numR st.1.data.toList).1)], [], rfl, ⟨by rw [rdN_f h h2]; rfl, by rw [rdN_f h h2]⟩, rgm_tmp (r := []) rfl Sub.refl⟩
    · have h2 : (numR st.1.data.toList).1 = 0 := by simpa using hc2
      refine wSkip ?_
      refine wSeq ?_
      refine wReg ?_
      refine sP rfl rfl rfl (pM rfl rfl) ?_
      refine sP rfl rfl rfl (pM rfl rfl) ?_
      refine sP rfl rfl rfl (p_nilCheck rfl rfl) ?_
      refine sP rfl rfl rfl (p_fieldAddr_own rfl rfl fl177_0 ty9 (by decide)) ?_
      refine sP rfl rfl rfl (pLdO1 0 rfl rfl rfl ty9 rfl) ?_
      refine sP rfl rfl rfl (pM rfl rfl) ?_
      refine sP rfl rfl rfl (p_slice_str rfl rfl Try.underlying9 ⟨_, _, rfl, rfl⟩ rfl ((numR_le st.1 h2).1) (Nat.le_refl _)) ?_
      refine sP rfl rfl rfl (p_nilCheck rfl rfl) ?_
      refine sP rfl rfl rfl (p_fieldAddr_own rfl rfl fl177_0 ty9 (by decide)) ?_
      refine sStore1 0 rfl rfl rfl rfl rfl ty9 rfl rfl (Nat.le_of_ble_eq_true rfl) ?_
      refine lNil ?_
      refine wSeq ?_
      refine wReg ?_
      refine sP rfl rfl rfl (pM rfl rfl) ?_
      refine sP rfl rfl rfl (pA rfl rfl) ?_
      refine lNil ?_
      refine wRet ?_
      exact ⟨_, [.cells p 177 [sA (st.1.extract (numR st.1.data.toList).2.2 st.1.size), iA st.2]], [], rfl, ⟨by rw [rdN_o h h2]; rfl, by rw [rdN_o h h2, h]; rfl⟩, rgm_tmp (r := []) rfl Sub.refl⟩
set_option maxRecDepth 100000 in
theorem takenS_m {K : Prop} (p : Nat) (st : ByteArray × Int) (hs : st.1.size < 9223372036854775807) : MFn Try.prog K 131 [nP p, fnA 132] [rdO p st] (RdR p (sA (rdT st).1) (rdT st).2) := by
  refine mfn Try.func131 rfl (by kernel_rfl) 46 rfl _ rfl (Nat.le_of_ble_eq_true rfl) (fun X w0 => ?_)
  refine wSeq ?_
  refine wReg ?_
  refine sP rfl rfl rfl (pA rfl rfl) ?_
  refine lNil ?_
  refine wSeq ?_
  refine wReg ?_
  refine sP rfl rfl rfl (pA rfl rfl) ?_
  refine lNil ?_
  refine wSeq ?_
  refine wSeq ?_
  refine wReg ?_
  refine sP rfl rfl rfl (pM rfl rfl) ?_
  refine sP rfl rfl rfl (p_peqnil rfl rfl Try.underlying118) ?_
  refine sP rfl rfl rfl (pM rfl rfl) ?_
  refine sG rfl rfl rfl rfl rfl (pM rfl rfl) ?_
  refine sG rfl rfl rfl rfl rfl (p_nilCheck rfl rfl) ?_
  refine sG rfl rfl rfl rfl rfl (p_fieldAddr_own rfl rfl fl177_1 ty32 (by decide)) ?_
  refine sG rfl rfl rfl rfl rfl (pLdO1 0 rfl rfl rfl ty32 rfl) ?_
  refine sG rfl rfl rfl rfl rfl (p_icmp rfl rfl rfl rfl) ?_
  refine sP rfl rfl rfl (p_pick rfl rfl rfl) ?_
  refine lNil ?_
  refine wCond rfl (fun hc1 => ?_) (fun hc1 => ?_)
  · refine wSeq ?_
    refine wReg ?_
    refine sP rfl rfl rfl (pM rfl rfl) ?_
    refine sP rfl rfl rfl (pA rfl rfl) ?_
    refine lNil ?_
    refine wRet ?_
    have h : st.2 ≠ 0 := by simpa using hc1
    exact ⟨_, [rdO p st], [], rfl, ⟨by rw [rdT_e h]; rfl, by rw [rdT_e h]⟩, rgm_tmp (r := []) rfl Sub.refl⟩
  · have h : st.2 = 0 := by simpa using hc1
    refine wSkip ?_
    refine wSeq ?_
    refine wReg ?_
    refine sP rfl rfl rfl (pM rfl rfl) ?_
    refine sP rfl rfl rfl (pM rfl rfl) ?_
    refine sP rfl rfl rfl (p_nilCheck rfl rfl) ?_
    refine sP rfl rfl rfl (p_fieldAddr_own rfl rfl fl177_0 ty9 (by decide)) ?_
    refine sP rfl rfl rfl (pLdO1 0 rfl rfl rfl ty9 rfl) ?_
    refine sP rfl rfl rfl (p_callv (us := []) rfl rfl (txt_p st.1 hs) ⟨Sub.refl, trivial⟩) ?_
    refine sP rfl rfl rfl (pMt rfl rfl) ?_
    refine sP rfl rfl rfl (p_extract rfl rfl rfl) ?_
    refine sP rfl rfl rfl (p_extract rfl rfl rfl) ?_
    refine sP rfl rfl rfl (p_extract rfl rfl rfl) ?_
    refine sP rfl rfl rfl (pA rfl rfl) ?_
    refine sP rfl rfl rfl (pA rfl rfl) ?_
    refine sP rfl rfl rfl (pA rfl rfl) ?_
    refine lNil ?_
    refine wSeq ?_
    refine wSeq ?_
    refine wReg ?_
    refine sP rfl rfl rfl (pM rfl rfl) ?_
    refine sP rfl rfl rfl (p_icmp rfl rfl rfl rfl) ?_
    refine lNil ?_
    refine wCond rfl (fun hc2 => ?_) (fun hc2 => ?_)
    · refine wSeq ?_
      refine wReg ?_
      refine sP rfl rfl rfl (pM rfl rfl) ?_
      refine sP rfl rfl rfl (pM rfl rfl) ?_
      refine sP rfl rfl rfl (p_nilCheck rfl rfl) ?_
      refine sP rfl rfl rfl (p_fieldAddr_own rfl rfl fl177_1 ty32 (by decide)) ?_
      refine sStore1 0 rfl rfl rfl rfl rfl ty32 rfl rfl (Nat.le_of_ble_eq_true rfl) ?_
      refine lNil ?_
      refine wSeq ?_
      refine wReg ?_
      refine sP rfl rfl rfl (pM rfl rfl) ?_
      refine sP rfl rfl rfl (pA rfl rfl) ?_
      refine lNil ?_
      refine wRet ?_
      have h2 : (textR st.1).2.2 ≠ 0 := by simpa using hc2
      exact ⟨_, [rdO p (st.1, (textR st.1).2.2)], [], rfl, ⟨by rw [rdT_f h h2]; rfl, by rw [rdT_f h h2]⟩, rgm_tmp (r := []) rfl Sub.refl⟩
    · have h2 : (textR st.1).2.2 = 0 := by simpa using hc2
      refine wSkip ?_
      refine wSeq ?_
      refine wReg ?_
      refine sP rfl rfl rfl (pM rfl rfl) ?_
      refine sP rfl rfl rfl (pM rfl rfl) ?_
      refine sP rfl rfl rfl (p_nilCheck rfl rfl) ?_
      refine sP rfl rfl rfl (p_fieldAddr_own rfl rfl fl177_0 ty9 (by decide)) ?_
      refine sP rfl rfl rfl (pLdO1 0 rfl rfl rfl ty9 rfl) ?_
      refine sP rfl rfl rfl (pM rfl rfl) ?_
      refine sP rfl rfl rfl (p_slice_str rfl rfl Try.underlying9 ⟨_, _, rfl, rfl⟩ rfl (textR_le st.1 h2) (Nat.le_refl _)) ?_
      refine sP rfl rfl rfl (p_nilCheck rfl rfl) ?_
      refine sP rfl rfl rfl (p_fieldAddr_own rfl rfl fl177_0 ty9 (by decide)) ?_
      refine sStore1 0 rfl rfl rfl rfl rfl ty9 rfl rfl (Nat.le_of_ble_eq_true rfl) ?_
      refine lNil ?_
      refine wSeq ?_
      refine wReg ?_
      refine sP rfl rfl rfl (pM rfl rfl) ?_
      refine sP rfl rfl rfl (pA rfl rfl) ?_
      refine lNil ?_
      refine wRet ?_
      exact ⟨_, [.cells p 177 [sA (st.1.extract (textR st.1).2.1 st.1.size), iA st.2]], [], rfl, ⟨by rw [rdT_o h h2]; rfl, by rw [rdT_o h h2, h]; rfl⟩, rgm_tmp (r := []) rfl Sub.refl⟩
set_option maxRecDepth 100000 in
theorem rdnum_m {K : Prop} (p : Nat) (st : ByteArray × Int) (hs : st.1.size < 9223372036854775807) : MFn Try.prog K 94 [nP p] [rdO p st] (RdR p (iA ((rdN st).1 : Nat)) (rdN st).2) := by
  refine mfn Try.func94 rfl (by kernel_rfl) 5 rfl _ rfl (Nat.le_of_ble_eq_true rfl) (fun X w0 => ?_)
  refine wSeq ?_
  refine wReg ?_
  refine sP rfl rfl rfl (pA rfl rfl) ?_
  refine lNil ?_
  refine wSeq ?_
  refine wReg ?_
  refine sP rfl rfl rfl (pM rfl rfl) ?_
  refine sM1 0 rfl rfl rfl (takenI_m p st hs) ⟨Sub.refl, Sub.refl, trivial⟩ (fun _ _ h => h.one) (fun av q hr => ?_)
  obtain ⟨rfl, rfl⟩ := hr.pq
  refine sP rfl rfl rfl (pA rfl rfl) ?_
  refine lNil ?_
  refine wRet ?_
  exact ⟨_, [rdO p (rdN st).2], [], rfl, ⟨rfl, rfl⟩, rgm_tmp (r := []) rfl Sub.refl⟩
set_option maxRecDepth 100000 in
theorem rdtext_m {K : Prop} (p : Nat) (st : ByteArray × Int) (hs : st.1.size < 9223372036854775807) : MFn Try.prog K 82 [nP p] [rdO p st] (RdR p (sA (rdT st).1) (rdT st).2) := by
  refine mfn Try.func82 rfl (by kernel_rfl) 5 rfl _ rfl (Nat.le_of_ble_eq_true rfl) (fun X w0 => ?_)
  refine wSeq ?_
  refine wReg ?_
  refine sP rfl rfl rfl (pA rfl rfl) ?_
  refine lNil ?_
  refine wSeq ?_
  refine wReg ?_
  refine sP rfl rfl rfl (pM rfl rfl) ?_
  refine sM1 0 rfl rfl rfl (takenS_m p st hs) ⟨Sub.refl, Sub.refl, trivial⟩ (fun _ _ h => h.one) (fun av q hr => ?_)
  obtain ⟨rfl, rfl⟩ := hr.pq
  refine sP rfl rfl rfl (pA rfl rfl) ?_
  refine lNil ?_
  refine wRet ?_
  exact ⟨_, [rdO p (rdT st).2], [], rfl, ⟨rfl, rfl⟩, rgm_tmp (r := []) rfl Sub.refl⟩
set_option maxRecDepth 100000 in
theorem rderr_m {K : Prop} (p : Nat) (st : ByteArray × Int) : MFn Try.prog K 103 [nP p] [rdO p st] (RdR p (iA st.2) st) := by
  refine mfn Try.func103 rfl (by kernel_rfl) 9 rfl _ rfl (Nat.le_of_ble_eq_true rfl) (fun X w0 => ?_)
  refine wSeq ?_
  refine wReg ?_
  refine sP rfl rfl rfl (pA rfl rfl) ?_
  refine lNil ?_
  refine wSeq ?_
  refine wSeq ?_
  refine wReg ?_
  refine sP rfl rfl rfl (pM rfl rfl) ?_
  refine sP rfl rfl rfl (p_peqnil rfl rfl Try.underlying118) ?_
  refine lNil ?_
  refine wCond rfl (fun hc1 => ?_) (fun hc1 => ?_)
  · refine wSeq ?_
    refine wReg ?_
    refine sP rfl rfl rfl (pA rfl rfl) ?_
    refine lNil ?_
    refine wRet ?_
    cases hc1
  · refine wSkip ?_
    refine wSeq ?_
    refine wReg ?_
    refine sP rfl rfl rfl (pM rfl rfl) ?_
    refine sP rfl rfl rfl (p_nilCheck rfl rfl) ?_
    refine sP rfl rfl rfl (p_fieldAddr_own rfl rfl fl177_1 ty32 (by decide)) ?_
    refine sP rfl rfl rfl (pLdO1 0 rfl rfl rfl ty32 rfl) ?_
    refine sP rfl rfl rfl (pA rfl rfl) ?_
    refine lNil ?_
    refine wRet ?_
    exact ⟨_, [rdO p st], [], rfl, ⟨rfl, rfl⟩, rgm_tmp (r := []) rfl Sub.refl⟩
theorem done_y {st : ByteArray × Int} (h : (!decide (st.2 = 0) || decide (st.1 = ⟨#[]⟩)) = true) : doneE st = st.2 := by
  unfold doneE
  by_cases h1 : st.2 = 0
  · rw [h1, decide_eq_true rfl, Bool.not_true, Bool.false_or] at h
    have h2 : st.1 = ⟨#[]⟩ := of_decide_eq_true h
    rw [if_neg (by simpa using h1), h2, h1]; rfl
  · rw [if_pos h1]
theorem done_n {st : ByteArray × Int} (h : (!decide (st.2 = 0) || decide (st.1 = ⟨#[]⟩)) = false) : doneE st = 5 := by
  rw [Bool.or_eq_false_iff] at h
  have h1 : st.2 = 0 := by simpa using h.1
  have h2 : st.1 ≠ ⟨#[]⟩ := by simpa using h.2
  unfold doneE
  rw [if_neg (by simpa using h1), if_neg]
  intro hz
  exact h2 (ba_ext (by
    have : st.1.data.toList.length = 0 := by rw [size_data]; exact hz
    rw [List.eq_nil_of_length_eq_zero this]))

set_option maxRecDepth 100000 in
theorem rddone_m {K : Prop} (p : Nat) (st : ByteArray × Int) : MFn Try.prog K 83 [nP p] [rdO p st] (RdR p (iA (doneE st)) st) := by
  refine mfn Try.func83 rfl (by kernel_rfl) 16 rfl _ rfl (Nat.le_of_ble_eq_true rfl) (fun X w0 => ?_)
  refine wSeq ?_
  refine wReg ?_
  refine sP rfl rfl rfl (pA rfl rfl) ?_
  refine lNil ?_
  refine wSeq ?_
  refine wSeq ?_
  refine wReg ?_
  refine sP rfl rfl rfl (pM rfl rfl) ?_
  refine sM1 0 rfl rfl rfl (rderr_m p st) ⟨Sub.refl, trivial⟩ (fun _ _ h => h.one) (fun av q hr => ?_)
  obtain ⟨rfl, rfl⟩ := hr.pq
  refine sP rfl rfl rfl (pA rfl rfl) ?_
  refine lNil ?_
  refine wCut (fun L h => ∃ b : Bool, b = (!decide (st.2 = 0) || decide (st.1 = ⟨#[]⟩)) ∧ L = [(0, nP p), (3, iA st.2), (14, bA b)] ∧ h = [rdO p st]) ?_ ?_
  · cases hb : (!decide (st.2 = 0)) with
    | true =>
      refine wReg ?_
      refine sP rfl rfl rfl (pM rfl rfl) ?_
      refine sP rfl rfl rfl (p_icmp rfl rfl rfl (congrArg some hb)) ?_
      refine sP rfl rfl rfl (pM rfl rfl) ?_
      refine sU rfl rfl rfl (by decide) rfl rfl ?_
      refine sU rfl rfl rfl (by decide) rfl rfl ?_
      refine sU rfl rfl rfl (by decide) rfl rfl ?_
      refine sU rfl rfl rfl (by decide) rfl rfl ?_
      refine sU rfl rfl rfl (by decide) rfl rfl ?_
      refine sP rfl rfl rfl (p_pick rfl rfl rfl) ?_
      refine lNil ?_
      exact ⟨_, [rdO p st], [], ⟨_, (by exact rfl), rfl, rfl⟩, ⟨rfl, rfl, rfl, trivial⟩, rfl⟩
    | false =>
      refine wReg ?_
      refine sP rfl rfl rfl (pM rfl rfl) ?_
      refine sP rfl rfl rfl (p_icmp rfl rfl rfl (congrArg some hb)) ?_
      refine sP rfl rfl rfl (pM rfl rfl) ?_
      refine sG rfl rfl rfl rfl rfl (pM rfl rfl) ?_
      refine sG rfl rfl rfl rfl rfl (p_nilCheck rfl rfl) ?_
      refine sG rfl rfl rfl rfl rfl (p_fieldAddr_own rfl rfl fl177_0 ty9 (by decide)) ?_
      refine sG rfl rfl rfl rfl rfl (pLdO1 0 rfl rfl rfl ty9 rfl) ?_
      refine sG rfl rfl rfl rfl rfl (p_scmp rfl rfl rfl rfl) ?_
      refine sP rfl rfl rfl (p_pick rfl rfl rfl) ?_
      refine lNil ?_
      exact ⟨_, [rdO p st], [], ⟨_, (by exact rfl), rfl, rfl⟩, ⟨rfl, rfl, rfl, trivial⟩, rfl⟩
  · rintro L h ⟨b, hb, rfl, rfl⟩
    refine wCond rfl (fun hc1 => ?_) (fun hc1 => ?_)
    · refine wSeq ?_
      refine wReg ?_
      refine sP rfl rfl rfl (pM rfl rfl) ?_
      refine sP rfl rfl rfl (pA rfl rfl) ?_
      refine lNil ?_
      refine wRet ?_
      exact ⟨_, [rdO p st], [], rfl, ⟨by rw [done_y (hb.symm.trans hc1)]; rfl, rfl⟩, rgm_tmp (r := []) rfl Sub.refl⟩
    · refine wSkip ?_
      refine wSeq ?_
      refine wReg ?_
      refine sP rfl rfl rfl (pA rfl rfl) ?_
      refine lNil ?_
      refine wRet ?_
      exact ⟨_, [rdO p st], [], rfl, ⟨by rw [done_n (hb.symm.trans hc1)]; rfl, rfl⟩, rgm_tmp (r := []) rfl Sub.refl⟩
end Go.Proofs.Ytmhkalalcmkpbaa

namespace Go.Proofs.Ytmhkalalcmkpbaa
open Go Go.RowKit
set_option linter.unusedVariables false
set_option linter.unusedSimpArgs false

set_option maxRecDepth 100000 in
theorem fone_m (p : Nat) (st : ByteArray × Int) (hs : st.1.size < 9223372036854775807) : MFn Try.prog False 104 [nP p] [rdO p st] (RdR p (fA (rdF st).1) (rdF st).2) := by
  refine mfn Try.func104 rfl (by kernel_rfl) 27 rfl _ rfl (Nat.le_of_ble_eq_true rfl) (fun X w0 => ?_)
  obtain ⟨z1, z2, z3, z4, z5, z6, z7⟩ := rF7_size st
  refine wSeq ?_
  refine wReg ?_
  refine sAlloc rfl rfl rfl rfl ze87 (fun g2 => ?_)
  refine lNil ?_
  refine wSeq ?_
  refine wReg ?_
  refine sP rfl rfl rfl (pM rfl rfl) ?_
  refine sM1 0 rfl rfl rfl (rdnum_m p st (by omega)) ⟨Sub.refl, trivial⟩ (fun _ _ h => h.one) (fun av q hr => ?_)
  obtain ⟨rfl, rfl⟩ := hr.pq
  refine sP rfl rfl rfl (pM rfl rfl) ?_
  refine sM1 0 rfl rfl rfl (rdnum_m p (rF1 st) (by omega)) ⟨Sub.refl, trivial⟩ (fun _ _ h => h.one) (fun av q hr => ?_)
  obtain ⟨rfl, rfl⟩ := hr.pq
  refine sP rfl rfl rfl (p_build (res := [iA ((rdN st).1 : Nat), iA ((rdN (rF1 st)).1 : Nat)]) rfl ze23 pl23 rfl rfl) ?_
  refine sP rfl rfl rfl (pM rfl rfl) ?_
  refine sM1 0 rfl rfl rfl (rdnum_m p (rF2 st) (by omega)) ⟨Sub.refl, trivial⟩ (fun _ _ h => h.one) (fun av q hr => ?_)
  obtain ⟨rfl, rfl⟩ := hr.pq
  refine sP rfl rfl rfl (pM rfl rfl) ?_
  refine sM1 0 rfl rfl rfl (rdnum_m p (rF3 st) (by omega)) ⟨Sub.refl, trivial⟩ (fun _ _ h => h.one) (fun av q hr => ?_)
  obtain ⟨rfl, rfl⟩ := hr.pq
  refine sP rfl rfl rfl (p_build (res := [iA ((rdN (rF2 st)).1 : Nat), iA ((rdN (rF3 st)).1 : Nat), iA 0]) rfl ze25 pl25 rfl rfl) ?_
  refine sP rfl rfl rfl (pM rfl rfl) ?_
  refine sM1 0 rfl rfl rfl (rdnum_m p (rF4 st) (by omega)) ⟨Sub.refl, trivial⟩ (fun _ _ h => h.one) (fun av q hr => ?_)
  obtain ⟨rfl, rfl⟩ := hr.pq
  refine sP rfl rfl rfl (pM rfl rfl) ?_
  refine sM1 0 rfl rfl rfl (rdtext_m p (rF5 st) (by omega)) ⟨Sub.refl, trivial⟩ (fun _ _ h => h.one) (fun av q hr => ?_)
  obtain ⟨rfl, rfl⟩ := hr.pq
  refine sP rfl rfl rfl (pM rfl rfl) ?_
  refine sM1 0 rfl rfl rfl (rdtext_m p (rF6 st) (by omega)) ⟨Sub.refl, trivial⟩ (fun _ _ h => h.one) (fun av q hr => ?_)
  obtain ⟨rfl, rfl⟩ := hr.pq
  refine sP rfl rfl rfl (p_build (res := [iA ((rdN st).1 : Nat), iA ((rdN (rF1 st)).1 : Nat), iA ((rdN (rF2 st)).1 : Nat), iA ((rdN (rF3 st)).1 : Nat), iA 0, iA ((rdN (rF4 st)).1 : Nat), sA (rdT (rF5 st)).1, sA (rdT (rF6 st)).1]) rfl ze87 pl87 rfl rfl) ?_
  refine sAlloc rfl rfl rfl rfl ze87 (fun g3 => ?_)
  refine sStore 2 rfl rfl rfl rfl rfl ty87 rfl rfl rfl (Nat.le_of_ble_eq_true rfl) ?_
  refine lNil ?_
  refine wSeq ?_
  refine wReg ?_
  refine sP rfl rfl rfl (p_fieldAddr_own rfl rfl fl87_0 ty23 (by decide)) ?_
  refine sP rfl rfl rfl (p_fieldAddr_own rfl rfl fl23_0 ty3 (by decide)) ?_
  refine sP rfl rfl rfl (pLdO1 2 rfl rfl rfl ty3 rfl) ?_
  refine sP rfl rfl rfl (p_fieldAddr_own rfl rfl fl87_1 ty25 (by decide)) ?_
  refine sP rfl rfl rfl (p_fieldAddr_own rfl rfl fl25_2 ty3 (by decide)) ?_
  refine sStore1 2 rfl rfl rfl rfl rfl ty3 rfl rfl (Nat.le_of_ble_eq_true rfl) ?_
  refine lNil ?_
  refine wSeq ?_
  refine wReg ?_
  refine sP rfl rfl rfl (pLdW 2 rfl rfl rfl ty87 rfl) ?_
  refine sStore 1 rfl rfl rfl rfl rfl ty87 rfl rfl rfl (Nat.le_of_ble_eq_true rfl) ?_
  refine lNil ?_
  refine wRet ?_
  exact ⟨_, [rdO p (rF7 st)], _, rfl, ⟨rfl, rfl⟩, rgm_cell rfl rfl (List.mem_of_getElem? (i := 1) rfl) ty87 rfl Sub.refl⟩
set_option maxRecDepth 100000 in
theorem fread_p (s : ByteArray) (hs : s.size < 9223372036854775807) : PFn Try.prog False 43 [sA s] (.tup [slF (freadL s), iA (freadE s)]) := by
  refine pfn Try.func43 rfl (by kernel_rfl) 40 rfl _ rfl (Nat.le_of_ble_eq_true rfl) (fun X w0 => ?_)
  refine wSeq ?_
  refine wReg ?_
  refine sP rfl rfl rfl (pA rfl rfl) ?_
  refine sP rfl rfl rfl (pA rfl rfl) ?_
  refine lNil ?_
  refine wSeq ?_
  refine wReg ?_
  refine sP rfl rfl rfl (pM rfl rfl) ?_
  refine sM0 rfl rfl rfl rfl (new_m s) ⟨Sub.refl, trivial⟩ (fun _ _ ⟨_, h⟩ => h.one) (fun av q hr => ?_)
  obtain ⟨p, hr⟩ := hr
  obtain ⟨rfl, rfl⟩ := hr.pq
  refine sP rfl rfl rfl (pA rfl rfl) ?_
  refine lNil ?_
  refine wSeq ?_
  refine wReg ?_
  refine sP rfl rfl rfl (pM rfl rfl) ?_
  refine sM1 0 rfl rfl rfl (rdnum_m p (s, 0) hs) ⟨Sub.refl, trivial⟩ (fun _ _ h => h.one) (fun av q hr => ?_)
  obtain ⟨rfl, rfl⟩ := hr.pq
  refine sP rfl rfl rfl (pA rfl rfl) ?_
  refine lNil ?_
  refine wSeq ?_
  refine wSeq ?_
  refine wReg ?_
  refine sP rfl rfl rfl (pM rfl rfl) ?_
  refine sP rfl rfl rfl (p_icmp rfl rfl rfl rfl) ?_
  refine lNil ?_
  refine wCond rfl (fun hc1 => ?_) (fun hc1 => ?_)
  · refine wSeq ?_
    refine wReg ?_
    refine sP rfl rfl rfl (pA rfl rfl) ?_
    refine sP rfl rfl rfl (pA rfl rfl) ?_
    refine lNil ?_
    refine wRet ?_
    have he : freadE s = 3 := freadE_long (by have h := hc1; simp at h; omega)
    exact rgs2 (rg_tmp (gives_sub (sub_nilF (freadL_err (by rw [he]; decide))))) (rg_tmp (gives_sub (Sub.of_eq (avI he.symm))))
  · have hlen : ¬ 4096 < (rdN (s, 0)).1 := by have h := hc1; simp at h; omega
    refine wSkip ?_
    refine wSeq ?_
    refine wReg ?_
    refine sP rfl rfl rfl (pA rfl rfl) ?_
    refine lNil ?_
    refine wNilrow 87 8 ?_
    refine wSeq ?_
    refine wBlock ?_
    refine wLoop (fun mm L h => ∃ i st acc v, mm = (rdN (s, 0)).1 - i ∧ RdI s i acc st ∧ L = [(4, nP p), (5, iA ((rdN (s, 0)).1 : Nat)), (6, .x v)] ∧ h = [rdO p st, .row v 87 8 acc.length (acc.flatMap encF)]) ⟨_, _, _, _, ⟨0, (rdN (s, 0)).2, [], .slice none 0 0, rfl, RdI.start hs, rfl, rfl⟩, ⟨rfl, rfl, rfl, trivial⟩, rfl⟩ ?_
    rintro mm L h ⟨i, st, acc, v, rfl, hI, rfl, rfl⟩
    refine wSeq ?_
    refine wCut (fun L h => ∃ b : Bool, b = (decide ((acc.length : Int) < ((rdN (s, 0)).1 : Nat)) && decide (st.2 = 0)) ∧ L = [(4, nP p), (5, iA ((rdN (s, 0)).1 : Nat)), (6, .x v), (23, bA b)] ∧ h = [rdO p st, .row v 87 8 acc.length (acc.flatMap encF)]) ?_ ?_
    · cases hb : (decide ((acc.length : Int) < ((rdN (s, 0)).1 : Nat))) with
      | true =>
        refine wReg ?_
        refine sP rfl rfl rfl (pM rfl rfl) ?_
        refine sP rfl rfl rfl (p_len_row rfl rfl (List.mem_of_getElem? (i := 1) rfl) Try.underlying26) ?_
        refine sP rfl rfl rfl (pM rfl rfl) ?_
        refine sP rfl rfl rfl (p_icmp rfl rfl rfl (congrArg some hb)) ?_
        refine sP rfl rfl rfl (pM rfl rfl) ?_
        refine sG rfl rfl rfl rfl rfl (pM rfl rfl) ?_
        refine sWant rfl rfl rfl ?_
        refine sM1 0 rfl rfl rfl (rderr_m p st) ⟨Sub.refl, trivial⟩ (fun _ _ h => h.one) (fun av q hr => ?_)
        obtain ⟨rfl, rfl⟩ := hr.pq
        refine sG rfl rfl rfl rfl rfl (p_icmp rfl rfl rfl rfl) ?_
        refine sP rfl rfl rfl (p_pick rfl rfl rfl) ?_
        refine lNil ?_
        exact ⟨_, [rdO p st, .row v 87 8 acc.length (acc.flatMap encF)], [], ⟨_, (by exact rfl), rfl, rfl⟩, ⟨rfl, rfl, rfl, rfl, trivial⟩, rfl⟩
      | false =>
        refine wReg ?_
        refine sP rfl rfl rfl (pM rfl rfl) ?_
        refine sP rfl rfl rfl (p_len_row rfl rfl (List.mem_of_getElem? (i := 1) rfl) Try.underlying26) ?_
        refine sP rfl rfl rfl (pM rfl rfl) ?_
        refine sP rfl rfl rfl (p_icmp rfl rfl rfl (congrArg some hb)) ?_
        refine sP rfl rfl rfl (pM rfl rfl) ?_
        refine sU rfl rfl rfl (by decide) rfl rfl ?_
        refine sU rfl rfl rfl (by decide) rfl rfl ?_
        refine sU rfl rfl rfl (by decide) rfl rfl ?_
        refine sP rfl rfl rfl (p_pick rfl rfl rfl) ?_
        refine lNil ?_
        exact ⟨_, [rdO p st, .row v 87 8 acc.length (acc.flatMap encF)], [], ⟨_, (by exact rfl), rfl, rfl⟩, ⟨rfl, rfl, rfl, rfl, trivial⟩, rfl⟩
    · rintro L h ⟨b, hb, rfl, rfl⟩
      refine wCond rfl (fun hc2 => ?_) (fun hc2 => ?_)
      · have hin : i < (rdN (s, 0)).1 := by have h := (and_t (hb.symm.trans hc2)).1; have := hI.len; simp at h; omega
        have hst0 : st.2 = 0 := by have h := (and_t (hb.symm.trans hc2)).2; simpa using h
        refine wSkip ?_
        refine wBlock ?_
        refine wReg ?_
        refine sP rfl rfl rfl (pM rfl rfl) ?_
        refine sP rfl rfl rfl (pM rfl rfl) ?_
        refine sM1 0 rfl rfl rfl (fone_m p st hI.size) ⟨Sub.refl, trivial⟩ (fun _ _ h => h.one) (fun av q hr => ?_)
        obtain ⟨rfl, rfl⟩ := hr.pq
        refine sP rfl rfl rfl (p_buildSlice rfl ze87 Try.underlying26 ty87 (by decide) (by decide) rfl rfl rfl) ?_
        refine sAppendL (enc := encF) (l := acc) 1 [(rdF st).1] rfl rfl rfl rfl Try.underlying26 ro87 rfl rfl rfl (fun _ => rfl) (by have := hI.len; rw [List.length_singleton]; omega) (by have := hI.len; rw [List.length_singleton]; omega) (fun v28 => ?_)
        refine sP rfl rfl rfl (pA rfl rfl) ?_
        refine lNil ?_
        refine ⟨_, _, [rdO p (rdF st).2, .row v28 87 8 (acc ++ [(rdF st).1]).length ((acc ++ [(rdF st).1]).flatMap encF)], _, ?_, ⟨i + 1, (rdF st).2, acc ++ [(rdF st).1], v28, rfl, hI.step hin hst0, rfl, rfl⟩, ⟨rfl, rfl, rfl, trivial⟩, rfl⟩
        omega
      · have hF := hI.stop (by have := hb.symm.trans hc2; rw [hI.len] at this; exact this)
        refine wExit ?_
        refine wFreeze 1 6 rfl rfl ?_
        refine wSeq ?_
        refine wSeq ?_
        refine wReg ?_
        refine sP rfl rfl rfl (pM rfl rfl) ?_
        refine sM1 0 rfl rfl rfl (rddone_m p st) ⟨Sub.refl, trivial⟩ (fun _ _ h => h.one) (fun av q hr => ?_)
        obtain ⟨rfl, rfl⟩ := hr.pq
        refine sP rfl rfl rfl (pA rfl rfl) ?_
        refine lNil ?_
        refine wSeq ?_
        refine wReg ?_
        refine sP rfl rfl rfl (pM rfl rfl) ?_
        refine sP rfl rfl rfl (p_icmp rfl rfl rfl rfl) ?_
        refine lNil ?_
        refine wCond rfl (fun hc3 => ?_) (fun hc3 => ?_)
        · refine wSeq ?_
          refine wReg ?_
          refine sP rfl rfl rfl (pM rfl rfl) ?_
          refine sP rfl rfl rfl (pA rfl rfl) ?_
          refine sP rfl rfl rfl (pA rfl rfl) ?_
          refine lNil ?_
          refine wRet ?_
          have hd : doneE (rF s).2 ≠ 0 := by rw [hF]; simpa using hc3
          have he : freadE s = doneE st := by rw [freadE_done hlen hd, hF]
          exact rgs2 (rg_tmp (gives_sub (sub_nilF (freadL_err (by rw [freadE_done hlen hd]; exact hd))))) (rg_tmp (gives_sub (Sub.of_eq (avI he.symm))))
        · have hd0 : doneE (rF s).2 = 0 := by rw [hF]; simpa using hc3
          refine wSkip ?_
          refine wSeq ?_
          refine wSeq ?_
          refine wReg ?_
          refine sP rfl rfl rfl (pMs rfl rfl) ?_
          refine sP rfl rfl rfl (p_call rfl (fmay_p acc (by have := hI.len; have := hI.le; omega) hI.ok) ⟨Sub.refl, trivial⟩) ?_
          refine sP rfl rfl rfl (pA rfl rfl) ?_
          refine lNil ?_
          refine wSeq ?_
          refine wReg ?_
          refine sP rfl rfl rfl (pM rfl rfl) ?_
          refine sP rfl rfl rfl (p_icmp rfl rfl rfl rfl) ?_
          refine lNil ?_
          refine wCond rfl (fun hc4 => ?_) (fun hc4 => ?_)
          · refine wSeq ?_
            refine wReg ?_
            refine sP rfl rfl rfl (pM rfl rfl) ?_
            refine sP rfl rfl rfl (pA rfl rfl) ?_
            refine sP rfl rfl rfl (pA rfl rfl) ?_
            refine lNil ?_
            refine wRet ?_
            have hm : mayG chkF ltF acc ≠ 0 := by simpa using hc4
            have he : freadE s = mayG chkF ltF acc := by rw [freadE_may hlen hd0, hF]
            exact rgs2 (rg_tmp (gives_sub (sub_nilF (freadL_err (by rw [he]; exact hm))))) (rg_tmp (gives_sub (Sub.of_eq (avI he.symm))))
          · refine wSkip ?_
            refine wSeq ?_
            refine wReg ?_
            refine sP rfl rfl rfl (pMs rfl rfl) ?_
            refine sP rfl rfl rfl (pAs rfl rfl) ?_
            refine sP rfl rfl rfl (pA rfl rfl) ?_
            refine lNil ?_
            refine wRet ?_
            have hm : mayG chkF ltF acc = 0 := by simpa using hc4
            have he : freadE s = 0 := by rw [freadE_may hlen hd0, hF]; exact hm
            have hl : freadL s = acc := by rw [freadL_ok he, hF]
            rw [hl]
            exact rgs2 (rg_tmp (gives_sub Sub.refl)) (rg_tmp (gives_sub (Sub.of_eq (avI he.symm))))
end Go.Proofs.Ytmhkalalcmkpbaa
