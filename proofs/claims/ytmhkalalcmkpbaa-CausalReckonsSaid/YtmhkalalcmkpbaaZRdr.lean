/-
  Rdr
-/
import Derived.Test.YtmhkalalcmkpbaaZC4
import Derived.Test.YtmhkalalcmkpbaaZFrb
namespace Go.Proofs.Ytmhkalalcmkpbaa
open Go Go.RowKit
set_option linter.unusedVariables false
set_option linter.unusedSimpArgs false

/-- A reader: what is left, and the first error. -/
def rdO (p : Nat) (st : ByteArray × Int) : HObj := .cells p 177 [sA st.1, iA st.2]
def RdR (p : Nat) (a : AV) (st : ByteArray × Int) (av : AV) (h' : List HObj) : Prop := av = a ∧ h' = [rdO p st]
theorem RdR.one {p : Nat} {a : AV} {st : ByteArray × Int} {av : AV} {h' : List HObj} (h : RdR p a st av h') : ∃ q, h' = [q] := ⟨_, h.2⟩
theorem RdR.pq {p : Nat} {a : AV} {st : ByteArray × Int} {av : AV} {q : HObj} (h : RdR p a st av [q]) : av = a ∧ q = rdO p st := ⟨h.1, by simpa using h.2⟩
theorem number_p {K : Prop} (s : ByteArray) (hs : s.size < 9223372036854775807) : PFn Try.prog K 135 [sA s] (.tup [iA ((numR s.data.toList).2.1 : Nat), iA ((numR s.data.toList).2.2 : Nat), iA (numR s.data.toList).1]) := pfn_ex rfl rfl (enter_of Try.func135 (by kernel_rfl) rfl) fun w => (number_c s hs w).mono fun e w' ⟨h1, h2⟩ => ⟨h1, bl_eq h2⟩
theorem txt_p {K : Prop} (s : ByteArray) (hs : s.size < 9223372036854775807) : PFn Try.prog K 132 [sA s] (.tup [sA (textR s).1, iA ((textR s).2.1 : Nat), iA (textR s).2.2]) := pfn_ex rfl rfl (enter_of Try.func132 (by kernel_rfl) rfl) fun w => (text_c s hs w).mono fun e w' ⟨h1, h2⟩ => ⟨h1, bl_eq h2.symm⟩
theorem rdN_e {st : ByteArray × Int} (h : st.2 ≠ 0) : rdN st = (0, st) := if_pos h
theorem rdN_f {st : ByteArray × Int} (h : st.2 = 0) (h2 : (numR st.1.data.toList).1 ≠ 0) : rdN st = (0, (st.1, (numR st.1.data.toList).1)) := by unfold rdN; rw [if_neg (by simpa using h), if_pos h2]
theorem rdN_o {st : ByteArray × Int} (h : st.2 = 0) (h2 : (numR st.1.data.toList).1 = 0) : rdN st = ((numR st.1.data.toList).2.1, (st.1.extract (numR st.1.data.toList).2.2 st.1.size, 0)) := by unfold rdN; rw [if_neg (by simpa using h), if_neg (by simpa using h2)]
theorem rdT_e {st : ByteArray × Int} (h : st.2 ≠ 0) : rdT st = (⟨#[]⟩, st) := if_pos h
theorem rdT_f {st : ByteArray × Int} (h : st.2 = 0) (h2 : (textR st.1).2.2 ≠ 0) : rdT st = (⟨#[]⟩, (st.1, (textR st.1).2.2)) := by unfold rdT; rw [if_neg (by simpa using h), if_pos h2]
theorem rdT_o {st : ByteArray × Int} (h : st.2 = 0) (h2 : (textR st.1).2.2 = 0) : rdT st = ((textR st.1).1, (st.1.extract (textR st.1).2.1 st.1.size, 0)) := by unfold rdT; rw [if_neg (by simpa using h), if_neg (by simpa using h2)]
def nP (p : Nat) : AV := .x (.pointer (some ⟨p, 0, none⟩))
def fnA (g : FuncId) : AV := .x (.func (.func g) #[] #[])
set_option maxRecDepth 100000 in
theorem new_m {K : Prop} (s : ByteArray) : MFn Try.prog K 80 [sA s] [] (fun av h' => ∃ p, RdR p (nP p) (s, 0) av h') := by
  refine mfn Try.func80 rfl (by kernel_rfl) 6 rfl _ rfl (Nat.le_of_ble_eq_true rfl) (fun X w0 => ?_)
  refine wSeq ?_
  refine wReg ?_
  refine sP rfl rfl rfl (pA rfl rfl) ?_
  refine lNil ?_
  refine wSeq ?_
  refine wReg ?_
  refine sP rfl rfl rfl (pM rfl rfl) ?_
  refine sP rfl rfl rfl (p_build rfl ze177 pl177 rfl rfl) ?_
  refine sBox rfl rfl rfl rfl rfl (fun g5 => ?_)
  refine sP rfl rfl rfl (pA rfl rfl) ?_
  refine lNil ?_
  refine wRet ?_
  exact ⟨_, [rdO g5 (s, 0)], [], rfl, ⟨g5, rfl, rfl⟩, rgm_tmp (r := []) rfl Sub.refl⟩
set_option maxRecDepth 100000 in
theorem takenI_m {K : Prop} (p : Nat) (st : ByteArray × Int) (hs : st.1.size < 9223372036854775807) : MFn Try.prog K 134 [nP p, fnA 135] [rdO p st] (RdR p (iA ((rdN st).1 : Nat)) (rdN st).2) := by
  refine mfn Try.func134 rfl (by kernel_rfl) 46 rfl _ rfl (Nat.le_of_ble_eq_true rfl) (fun X w0 => ?_)
  refine wSeq ?_
  refine wReg ?_
  refine sP rfl rfl rfl (pA rfl rfl) ?_
  refine lNil ?_
  refine wSeq ?_
  refine wReg ?_
  refine sP rfl rfl rfl (pA rfl rfl) ?_
  refine lNil ?_
  refine wSeq ?_
  refine wSeq ?_
  refine wReg ?_
  refine sP rfl rfl rfl (pM rfl rfl) ?_
  refine sP rfl rfl rfl (p_peqnil rfl rfl Try.underlying118) ?_
  refine sP rfl rfl rfl (pM rfl rfl) ?_
  refine sG rfl rfl rfl rfl rfl (pM rfl rfl) ?_
  refine sG rfl rfl rfl rfl rfl (p_nilCheck rfl rfl) ?_
  refine sG rfl rfl rfl rfl rfl (p_fieldAddr_own rfl rfl fl177_1 ty32 (by decide)) ?_
  refine sG rfl rfl rfl rfl rfl (pLdO1 0 rfl rfl rfl ty32 rfl) ?_
  refine sG rfl rfl rfl rfl rfl (p_icmp rfl rfl rfl rfl) ?_
  refine sP rfl rfl rfl (p_pick rfl rfl rfl) ?_
  refine lNil ?_
  refine wCond rfl (fun hc1 => ?_) (fun hc1 => ?_)
  · refine wSeq ?_
    refine wReg ?_
    refine sP rfl rfl rfl (pM rfl rfl) ?_
    refine sP rfl rfl rfl (pA rfl rfl) ?_
    refine lNil ?_
    refine wRet ?_
    have h : st.2 ≠ 0 := by simpa using hc1
    exact ⟨_, [rdO p st], [], rfl, ⟨by rw [rdN_e h]; rfl, by rw [rdN_e h]⟩, rgm_tmp (r := []) rfl Sub.refl⟩
  · have h : st.2 = 0 := by simpa using hc1
    refine wSkip ?_
    refine wSeq ?_
    refine wReg ?_
    refine sP rfl rfl rfl (pM rfl rfl) ?_
    refine sP rfl rfl rfl (pM rfl rfl) ?_
    refine sP rfl rfl rfl (p_nilCheck rfl rfl) ?_
    refine sP rfl rfl rfl (p_fieldAddr_own rfl rfl fl177_0 ty9 (by decide)) ?_
    refine sP rfl rfl rfl (pLdO1 0 rfl rfl rfl ty9 rfl) ?_
    refine sP rfl rfl rfl (p_callv (us := []) rfl rfl (number_p st.1 hs) ⟨Sub.refl, trivial⟩) ?_
    refine sP rfl rfl rfl (pMt rfl rfl) ?_
    refine sP rfl rfl rfl (p_extract rfl rfl rfl) ?_
    refine sP rfl rfl rfl (p_extract rfl rfl rfl) ?_
    refine sP rfl rfl rfl (p_extract rfl rfl rfl) ?_
    refine sP rfl rfl rfl (pA rfl rfl) ?_
    refine sP rfl rfl rfl (pA rfl rfl) ?_
    refine sP rfl rfl rfl (pA rfl rfl) ?_
    refine lNil ?_
    refine wSeq ?_
    refine wSeq ?_
    refine wReg ?_
    refine sP rfl rfl rfl (pM rfl rfl) ?_
    refine sP rfl rfl rfl (p_icmp rfl rfl rfl rfl) ?_
    refine lNil ?_
    refine wCond rfl (fun hc2 => ?_) (fun hc2 => ?_)
    · refine wSeq ?_
      refine wReg ?_
      refine sP rfl rfl rfl (pM rfl rfl) ?_
      refine sP rfl rfl rfl (pM rfl rfl) ?_
      refine sP rfl rfl rfl (p_nilCheck rfl rfl) ?_
      refine sP rfl rfl rfl (p_fieldAddr_own rfl rfl fl177_1 ty32 (by decide)) ?_
      refine sStore1 0 rfl rfl rfl rfl rfl ty32 rfl rfl (Nat.le_of_ble_eq_true rfl) ?_
      refine lNil ?_
      refine wSeq ?_
      refine wReg ?_
      refine sP rfl rfl rfl (pM rfl rfl) ?_
      refine sP rfl rfl rfl (pA rfl rfl) ?_
      refine lNil ?_
      refine wRet ?_
      have h2 : (numR st.1.data.toList).1 ≠ 0 := by simpa using hc2
      exact ⟨_, [rdO p (st.1, (numR st.1.data.toList).1)], [], rfl, ⟨by rw [rdN_f h h2]; rfl, by rw [rdN_f h h2]⟩, rgm_tmp (r := []) rfl Sub.refl⟩
    · have h2 : (numR st.1.data.toList).1 = 0 := by simpa using hc2
      refine wSkip ?_
      refine wSeq ?_
      refine wReg ?_
      refine sP rfl rfl rfl (pM rfl rfl) ?_
      refine sP rfl rfl rfl (pM rfl rfl) ?_
      refine sP rfl rfl rfl (p_nilCheck rfl rfl) ?_
      refine sP rfl rfl rfl (p_fieldAddr_own rfl rfl fl177_0 ty9 (by decide)) ?_
      refine sP rfl rfl rfl (pLdO1 0 rfl rfl rfl ty9 rfl) ?_
      refine sP rfl rfl rfl (pM rfl rfl) ?_
      refine sP rfl rfl rfl (p_slice_str rfl rfl Try.underlying9 ⟨_, _, rfl, rfl⟩ rfl ((numR_le st.1 h2).1) (Nat.le_refl _)) ?_
      refine sP rfl rfl rfl (p_nilCheck rfl rfl) ?_
      refine sP rfl rfl rfl (p_fieldAddr_own rfl rfl fl177_0 ty9 (by decide)) ?_
      refine sStore1 0 rfl rfl rfl rfl rfl ty9 rfl rfl (Nat.le_of_ble_eq_true rfl) ?_
      refine lNil ?_
      refine wSeq ?_
      refine wReg ?_
      refine sP rfl rfl rfl (pM rfl rfl) ?_
      refine sP rfl rfl rfl (pA rfl rfl) ?_
      refine lNil ?_
      refine wRet ?_
      exact ⟨_, [.cells p 177 [sA (st.1.extract (numR st.1.data.toList).2.2 st.1.size), iA st.2]], [], rfl, ⟨by rw [rdN_o h h2]; rfl, by rw [rdN_o h h2, h]; rfl⟩, rgm_tmp (r := []) rfl Sub.refl⟩
set_option maxRecDepth 100000 in
theorem takenS_m {K : Prop} (p : Nat) (st : ByteArray × Int) (hs : st.1.size < 9223372036854775807) : MFn Try.prog K 131 [nP p, fnA 132] [rdO p st] (RdR p (sA (rdT st).1) (rdT st).2) := by
  refine mfn Try.func131 rfl (by kernel_rfl) 46 rfl _ rfl (Nat.le_of_ble_eq_true rfl) (fun X w0 => ?_)
  refine wSeq ?_
  refine wReg ?_
  refine sP rfl rfl rfl (pA rfl rfl) ?_
  refine lNil ?_
  refine wSeq ?_
  refine wReg ?_
  refine sP rfl rfl rfl (pA rfl rfl) ?_
  refine lNil ?_
  refine wSeq ?_
  refine wSeq ?_
  refine wReg ?_
  refine sP rfl rfl rfl (pM rfl rfl) ?_
  refine sP rfl rfl rfl (p_peqnil rfl rfl Try.underlying118) ?_
  refine sP rfl rfl rfl (pM rfl rfl) ?_
  refine sG rfl rfl rfl rfl rfl (pM rfl rfl) ?_
  refine sG rfl rfl rfl rfl rfl (p_nilCheck rfl rfl) ?_
  refine sG rfl rfl rfl rfl rfl (p_fieldAddr_own rfl rfl fl177_1 ty32 (by decide)) ?_
  refine sG rfl rfl rfl rfl rfl (pLdO1 0 rfl rfl rfl ty32 rfl) ?_
  refine sG rfl rfl rfl rfl rfl (p_icmp rfl rfl rfl rfl) ?_
  refine sP rfl rfl rfl (p_pick rfl rfl rfl) ?_
  refine lNil ?_
  refine wCond rfl (fun hc1 => ?_) (fun hc1 => ?_)
  · refine wSeq ?_
    refine wReg ?_
    refine sP rfl rfl rfl (pM rfl rfl) ?_
    refine sP rfl rfl rfl (pA rfl rfl) ?_
    refine lNil ?_
    refine wRet ?_
    have h : st.2 ≠ 0 := by simpa using hc1
    exact ⟨_, [rdO p st], [], rfl, ⟨by rw [rdT_e h]; rfl, by rw [rdT_e h]⟩, rgm_tmp (r := []) rfl Sub.refl⟩
  · have h : st.2 = 0 := by simpa using hc1
    refine wSkip ?_
    refine wSeq ?_
    refine wReg ?_
    refine sP rfl rfl rfl (pM rfl rfl) ?_
    refine sP rfl rfl rfl (pM rfl rfl) ?_
    refine sP rfl rfl rfl (p_nilCheck rfl rfl) ?_
    refine sP rfl rfl rfl (p_fieldAddr_own rfl rfl fl177_0 ty9 (by decide)) ?_
    refine sP rfl rfl rfl (pLdO1 0 rfl rfl rfl ty9 rfl) ?_
    refine sP rfl rfl rfl (p_callv (us := []) rfl rfl (txt_p st.1 hs) ⟨Sub.refl, trivial⟩) ?_
    refine sP rfl rfl rfl (pMt rfl rfl) ?_
    refine sP rfl rfl rfl (p_extract rfl rfl rfl) ?_
    refine sP rfl rfl rfl (p_extract rfl rfl rfl) ?_
    refine sP rfl rfl rfl (p_extract rfl rfl rfl) ?_
    refine sP rfl rfl rfl (pA rfl rfl) ?_
    refine sP rfl rfl rfl (pA rfl rfl) ?_
    refine sP rfl rfl rfl (pA rfl rfl) ?_
    refine lNil ?_
    refine wSeq ?_
    refine wSeq ?_
    refine wReg ?_
    refine sP rfl rfl rfl (pM rfl rfl) ?_
    refine sP rfl rfl rfl (p_icmp rfl rfl rfl rfl) ?_
    refine lNil ?_
    refine wCond rfl (fun hc2 => ?_) (fun hc2 => ?_)
    · refine wSeq ?_
      refine wReg ?_
      refine sP rfl rfl rfl (pM rfl rfl) ?_
      refine sP rfl rfl rfl (pM rfl rfl) ?_
      refine sP rfl rfl rfl (p_nilCheck rfl rfl) ?_
      refine sP rfl rfl rfl (p_fieldAddr_own rfl rfl fl177_1 ty32 (by decide)) ?_
      refine sStore1 0 rfl rfl rfl rfl rfl ty32 rfl rfl (Nat.le_of_ble_eq_true rfl) ?_
      refine lNil ?_
      refine wSeq ?_
      refine wReg ?_
      refine sP rfl rfl rfl (pM rfl rfl) ?_
      refine sP rfl rfl rfl (pA rfl rfl) ?_
      refine lNil ?_
      refine wRet ?_
      have h2 : (textR st.1).2.2 ≠ 0 := by simpa using hc2
      exact ⟨_, [rdO p (st.1, (textR st.1).2.2)], [], rfl, ⟨by rw [rdT_f h h2]; rfl, by rw [rdT_f h h2]⟩, rgm_tmp (r := []) rfl Sub.refl⟩
    · have h2 : (textR st.1).2.2 = 0 := by simpa using hc2
      refine wSkip ?_
      refine wSeq ?_
      refine wReg ?_
      refine sP rfl rfl rfl (pM rfl rfl) ?_
      refine sP rfl rfl rfl (pM rfl rfl) ?_
      refine sP rfl rfl rfl (p_nilCheck rfl rfl) ?_
      refine sP rfl rfl rfl (p_fieldAddr_own rfl rfl fl177_0 ty9 (by decide)) ?_
      refine sP rfl rfl rfl (pLdO1 0 rfl rfl rfl ty9 rfl) ?_
      refine sP rfl rfl rfl (pM rfl rfl) ?_
      refine sP rfl rfl rfl (p_slice_str rfl rfl Try.underlying9 ⟨_, _, rfl, rfl⟩ rfl (textR_le st.1 h2) (Nat.le_refl _)) ?_
      refine sP rfl rfl rfl (p_nilCheck rfl rfl) ?_
      refine sP rfl rfl rfl (p_fieldAddr_own rfl rfl fl177_0 ty9 (by decide)) ?_
      refine sStore1 0 rfl rfl rfl rfl rfl ty9 rfl rfl (Nat.le_of_ble_eq_true rfl) ?_
      refine lNil ?_
      refine wSeq ?_
      refine wReg ?_
      refine sP rfl rfl rfl (pM rfl rfl) ?_
      refine sP rfl rfl rfl (pA rfl rfl) ?_
      refine lNil ?_
      refine wRet ?_
      exact ⟨_, [.cells p 177 [sA (st.1.extract (textR st.1).2.1 st.1.size), iA st.2]], [], rfl, ⟨by rw [rdT_o h h2]; rfl, by rw [rdT_o h h2, h]; rfl⟩, rgm_tmp (r := []) rfl Sub.refl⟩
set_option maxRecDepth 100000 in
theorem rdnum_m {K : Prop} (p : Nat) (st : ByteArray × Int) (hs : st.1.size < 9223372036854775807) : MFn Try.prog K 94 [nP p] [rdO p st] (RdR p (iA ((rdN st).1 : Nat)) (rdN st).2) := by
  refine mfn Try.func94 rfl (by kernel_rfl) 5 rfl _ rfl (Nat.le_of_ble_eq_true rfl) (fun X w0 => ?_)
  refine wSeq ?_
  refine wReg ?_
  refine sP rfl rfl rfl (pA rfl rfl) ?_
  refine lNil ?_
  refine wSeq ?_
  refine wReg ?_
  refine sP rfl rfl rfl (pM rfl rfl) ?_
  refine sM1 0 rfl rfl rfl (takenI_m p st hs) ⟨Sub.refl, Sub.refl, trivial⟩ (fun _ _ h => h.one) (fun av q hr => ?_)
  obtain ⟨rfl, rfl⟩ := hr.pq
  refine sP rfl rfl rfl (pA rfl rfl) ?_
  refine lNil ?_
  refine wRet ?_
  exact ⟨_, [rdO p (rdN st).2], [], rfl, ⟨rfl, rfl⟩, rgm_tmp (r := []) rfl Sub.refl⟩
set_option maxRecDepth 100000 in
theorem rdtext_m {K : Prop} (p : Nat) (st : ByteArray × Int) (hs : st.1.size < 9223372036854775807) : MFn Try.prog K 82 [nP p] [rdO p st] (RdR p (sA (rdT st).1) (rdT st).2) := by
  refine mfn Try.func82 rfl (by kernel_rfl) 5 rfl _ rfl (Nat.le_of_ble_eq_true rfl) (fun X w0 => ?_)
  refine wSeq ?_
  refine wReg ?_
  refine sP rfl rfl rfl (pA rfl rfl) ?_
  refine lNil ?_
  refine wSeq ?_
  refine wReg ?_
  refine sP rfl rfl rfl (pM rfl rfl) ?_
  refine sM1 0 rfl rfl rfl (takenS_m p st hs) ⟨Sub.refl, Sub.refl, trivial⟩ (fun _ _ h => h.one) (fun av q hr => ?_)
  obtain ⟨rfl, rfl⟩ := hr.pq
  refine sP rfl rfl rfl (pA rfl rfl) ?_
  refine lNil ?_
  refine wRet ?_
  exact ⟨_, [rdO p (rdT st).2], [], rfl, ⟨rfl, rfl⟩, rgm_tmp (r := []) rfl Sub.refl⟩
set_option maxRecDepth 100000 in
theorem rderr_m {K : Prop} (p : Nat) (st : ByteArray × Int) : MFn Try.prog K 103 [nP p] [rdO p st] (RdR p (iA st.2) st) := by
  refine mfn Try.func103 rfl (by kernel_rfl) 9 rfl _ rfl (Nat.le_of_ble_eq_true rfl) (fun X w0 => ?_)
  refine wSeq ?_
  refine wReg ?_
  refine sP rfl rfl rfl (pA rfl rfl) ?_
  refine lNil ?_
  refine wSeq ?_
  refine wSeq ?_
  refine wReg ?_
  refine sP rfl rfl rfl (pM rfl rfl) ?_
  refine sP rfl rfl rfl (p_peqnil rfl rfl Try.underlying118) ?_
  refine lNil ?_
  refine wCond rfl (fun hc1 => ?_) (fun hc1 => ?_)
  · refine wSeq ?_
    refine wReg ?_
    refine sP rfl rfl rfl (pA rfl rfl) ?_
    refine lNil ?_
    refine wRet ?_
    cases hc1
  · refine wSkip ?_
    refine wSeq ?_
    refine wReg ?_
    refine sP rfl rfl rfl (pM rfl rfl) ?_
    refine sP rfl rfl rfl (p_nilCheck rfl rfl) ?_
    refine sP rfl rfl rfl (p_fieldAddr_own rfl rfl fl177_1 ty32 (by decide)) ?_
    refine sP rfl rfl rfl (pLdO1 0 rfl rfl rfl ty32 rfl) ?_
    refine sP rfl rfl rfl (pA rfl rfl) ?_
    refine lNil ?_
    refine wRet ?_
    exact ⟨_, [rdO p st], [], rfl, ⟨rfl, rfl⟩, rgm_tmp (r := []) rfl Sub.refl⟩
theorem done_y {st : ByteArray × Int} (h : (!decide (st.2 = 0) || decide (st.1 = ⟨#[]⟩)) = true) : doneE st = st.2 := by
  unfold doneE
  by_cases h1 : st.2 = 0
  · rw [h1, decide_eq_true rfl, Bool.not_true, Bool.false_or] at h
    have h2 : st.1 = ⟨#[]⟩ := of_decide_eq_true h
    rw [if_neg (by simpa using h1), h2, h1]; rfl
  · rw [if_pos h1]
theorem done_n {st : ByteArray × Int} (h : (!decide (st.2 = 0) || decide (st.1 = ⟨#[]⟩)) = false) : doneE st = 5 := by
  rw [Bool.or_eq_false_iff] at h
  have h1 : st.2 = 0 := by simpa using h.1
  have h2 : st.1 ≠ ⟨#[]⟩ := by simpa using h.2
  unfold doneE
  rw [if_neg (by simpa using h1), if_neg]
  intro hz
  exact h2 (ba_ext (by
    have : st.1.data.toList.length = 0 := by rw [size_data]; exact hz
    rw [List.eq_nil_of_length_eq_zero this]))

set_option maxRecDepth 100000 in
theorem rddone_m {K : Prop} (p : Nat) (st : ByteArray × Int) : MFn Try.prog K 83 [nP p] [rdO p st] (RdR p (iA (doneE st)) st) := by
  refine mfn Try.func83 rfl (by kernel_rfl) 16 rfl _ rfl (Nat.le_of_ble_eq_true rfl) (fun X w0 => ?_)
  refine wSeq ?_
  refine wReg ?_
  refine sP rfl rfl rfl (pA rfl rfl) ?_
  refine lNil ?_
  refine wSeq ?_
  refine wSeq ?_
  refine wReg ?_
  refine sP rfl rfl rfl (pM rfl rfl) ?_
  refine sM1 0 rfl rfl rfl (rderr_m p st) ⟨Sub.refl, trivial⟩ (fun _ _ h => h.one) (fun av q hr => ?_)
  obtain ⟨rfl, rfl⟩ := hr.pq
  refine sP rfl rfl rfl (pA rfl rfl) ?_
  refine lNil ?_
  refine wCut (fun L h => ∃ b : Bool, b = (!decide (st.2 = 0) || decide (st.1 = ⟨#[]⟩)) ∧ L = [(0, nP p), (3, iA st.2), (14, bA b)] ∧ h = [rdO p st]) ?_ ?_
  · cases hb : (!decide (st.2 = 0)) with
    | true =>
      refine wReg ?_
      refine sP rfl rfl rfl (pM rfl rfl) ?_
      refine sP rfl rfl rfl (p_icmp rfl rfl rfl (congrArg some hb)) ?_
      refine sP rfl rfl rfl (pM rfl rfl) ?_
      refine sU rfl rfl rfl (by decide) rfl rfl ?_
      refine sU rfl rfl rfl (by decide) rfl rfl ?_
      refine sU rfl rfl rfl (by decide) rfl rfl ?_
      refine sU rfl rfl rfl (by decide) rfl rfl ?_
      refine sU rfl rfl rfl (by decide) rfl rfl ?_
      refine sP rfl rfl rfl (p_pick rfl rfl rfl) ?_
      refine lNil ?_
      exact ⟨_, [rdO p st], [], ⟨_, (by exact rfl), rfl, rfl⟩, ⟨rfl, rfl, rfl, trivial⟩, rfl⟩
    | false =>
      refine wReg ?_
      refine sP rfl rfl rfl (pM rfl rfl) ?_
      refine sP rfl rfl rfl (p_icmp rfl rfl rfl (congrArg some hb)) ?_
      refine sP rfl rfl rfl (pM rfl rfl) ?_
      refine sG rfl rfl rfl rfl rfl (pM rfl rfl) ?_
      refine sG rfl rfl rfl rfl rfl (p_nilCheck rfl rfl) ?_
      refine sG rfl rfl rfl rfl rfl (p_fieldAddr_own rfl rfl fl177_0 ty9 (by decide)) ?_
      refine sG rfl rfl rfl rfl rfl (pLdO1 0 rfl rfl rfl ty9 rfl) ?_
      refine sG rfl rfl rfl rfl rfl (p_scmp rfl rfl rfl rfl) ?_
      refine sP rfl rfl rfl (p_pick rfl rfl rfl) ?_
      refine lNil ?_
      exact ⟨_, [rdO p st], [], ⟨_, (by exact rfl), rfl, rfl⟩, ⟨rfl, rfl, rfl, trivial⟩, rfl⟩
  · rintro L h ⟨b, hb, rfl, rfl⟩
    refine wCond rfl (fun hc1 => ?_) (fun hc1 => ?_)
    · refine wSeq ?_
      refine wReg ?_
      refine sP rfl rfl rfl (pM rfl rfl) ?_
      refine sP rfl rfl rfl (pA rfl rfl) ?_
      refine lNil ?_
      refine wRet ?_
      exact ⟨_, [rdO p st], [], rfl, ⟨by rw [done_y (hb.symm.trans hc1)]; rfl, rfl⟩, rgm_tmp (r := []) rfl Sub.refl⟩
    · refine wSkip ?_
      refine wSeq ?_
      refine wReg ?_
      refine sP rfl rfl rfl (pA rfl rfl) ?_
      refine lNil ?_
      refine wRet ?_
      exact ⟨_, [rdO p st], [], rfl, ⟨by rw [done_n (hb.symm.trans hc1)]; rfl, rfl⟩, rgm_tmp (r := []) rfl Sub.refl⟩
end Go.Proofs.Ytmhkalalcmkpbaa
