/-
  Fread Aw15
-/
import Derived.Test.YtmhkalalcmkpbaaZFacBack2
import Derived.Test.YtmhkalalcmkpbaaZFput
import Derived.Test.YtmhkalalcmkpbaaZFrc
import Derived.Test.YtmhkalalcmkpbaaZFrs
import Derived.Test.YtmhkalalcmkpbaaZFsort
import Derived.Test.YtmhkalalcmkpbaaZRdr
namespace Go.Proofs.Ytmhkalalcmkpbaa
open Go Go.RowKit
set_option linter.unusedVariables false
set_option linter.unusedSimpArgs false

set_option maxRecDepth 100000 in
theorem fone_m (p : Nat) (st : ByteArray × Int) (hs : st.1.size < 9223372036854775807) : MFn Try.prog False 104 [nP p] [rdO p st] (RdR p (fA (rdF st).1) (rdF st).2) := by
  refine mfn Try.func104 rfl (by kernel_rfl) 27 rfl _ rfl (Nat.le_of_ble_eq_true rfl) (fun X w0 => ?_)
  obtain ⟨z1, z2, z3, z4, z5, z6, z7⟩ := rF7_size st
  refine wSeq ?_
  refine wReg ?_  -- region 0
  refine sAlloc rfl rfl rfl rfl ze87 (fun g2 => ?_)  -- t2 := alloc 
  refine lNil ?_
  refine wSeq ?_
  refine wReg ?_  -- region 1
  refine sP rfl rfl rfl (pM rfl rfl) ?_  -- t4 := move t0
  refine sM1 0 rfl rfl rfl (rdnum_m p st (by omega)) ⟨Sub.refl, trivial⟩ (fun _ _ h => h.one) (fun av q hr => ?_)
  obtain ⟨rfl, rfl⟩ := hr.pq
  refine sP rfl rfl rfl (pM rfl rfl) ?_  -- t6 := move t0
  refine sM1 0 rfl rfl rfl (rdnum_m p (rF1 st) (by omega)) ⟨Sub.refl, trivial⟩ (fun _ _ h => h.one) (fun av q hr => ?_)
  obtain ⟨rfl, rfl⟩ := hr.pq
  refine sP rfl rfl rfl (p_build (res := [iA ((rdN st).1 : Nat), iA ((rdN (rF1 st)).1 : Nat)]) rfl ze23 pl23 rfl rfl) ?_  -- t8 := build 
  refine sP rfl rfl rfl (pM rfl rfl) ?_  -- t9 := move t0
  refine sM1 0 rfl rfl rfl (rdnum_m p (rF2 st) (by omega)) ⟨Sub.refl, trivial⟩ (fun _ _ h => h.one) (fun av q hr => ?_)
  obtain ⟨rfl, rfl⟩ := hr.pq
  refine sP rfl rfl rfl (pM rfl rfl) ?_  -- t11 := move t0
  refine sM1 0 rfl rfl rfl (rdnum_m p (rF3 st) (by omega)) ⟨Sub.refl, trivial⟩ (fun _ _ h => h.one) (fun av q hr => ?_)
  obtain ⟨rfl, rfl⟩ := hr.pq
  refine sP rfl rfl rfl (p_build (res := [iA ((rdN (rF2 st)).1 : Nat), iA ((rdN (rF3 st)).1 : Nat), iA 0]) rfl ze25 pl25 rfl rfl) ?_  -- t13 := build 
  refine sP rfl rfl rfl (pM rfl rfl) ?_  -- t14 := move t0
  refine sM1 0 rfl rfl rfl (rdnum_m p (rF4 st) (by omega)) ⟨Sub.refl, trivial⟩ (fun _ _ h => h.one) (fun av q hr => ?_)
  obtain ⟨rfl, rfl⟩ := hr.pq
  refine sP rfl rfl rfl (pM rfl rfl) ?_  -- t16 := move t0
  refine sM1 0 rfl rfl rfl (rdtext_m p (rF5 st) (by omega)) ⟨Sub.refl, trivial⟩ (fun _ _ h => h.one) (fun av q hr => ?_)
  obtain ⟨rfl, rfl⟩ := hr.pq
  refine sP rfl rfl rfl (pM rfl rfl) ?_  -- t18 := move t0
  refine sM1 0 rfl rfl rfl (rdtext_m p (rF6 st) (by omega)) ⟨Sub.refl, trivial⟩ (fun _ _ h => h.one) (fun av q hr => ?_)
  obtain ⟨rfl, rfl⟩ := hr.pq
  refine sP rfl rfl rfl (p_build (res := [iA ((rdN st).1 : Nat), iA ((rdN (rF1 st)).1 : Nat), iA ((rdN (rF2 st)).1 : Nat), iA ((rdN (rF3 st)).1 : Nat), iA 0, iA ((rdN (rF4 st)).1 : Nat), sA (rdT (rF5 st)).1, sA (rdT (rF6 st)).1]) rfl ze87 pl87 rfl rfl) ?_  -- t20 := build 
  refine sAlloc rfl rfl rfl rfl ze87 (fun g3 => ?_)  -- t3 := alloc 
  refine sStore 2 rfl rfl rfl rfl rfl ty87 rfl rfl rfl (Nat.le_of_ble_eq_true rfl) ?_  -- t := store t3 t20
  refine lNil ?_
  refine wSeq ?_
  refine wReg ?_  -- region 2
  refine sP rfl rfl rfl (p_fieldAddr_own rfl rfl fl87_0 ty23 (by decide)) ?_  -- t21 := fieldAddr t3
  refine sP rfl rfl rfl (p_fieldAddr_own rfl rfl fl23_0 ty3 (by decide)) ?_  -- t22 := fieldAddr t21
  refine sP rfl rfl rfl (pLdO1 2 rfl rfl rfl ty3 rfl) ?_  -- t23 := load t22
  refine sP rfl rfl rfl (p_fieldAddr_own rfl rfl fl87_1 ty25 (by decide)) ?_  -- t24 := fieldAddr t3
  refine sP rfl rfl rfl (p_fieldAddr_own rfl rfl fl25_2 ty3 (by decide)) ?_  -- t25 := fieldAddr t24
  refine sStore1 2 rfl rfl rfl rfl rfl ty3 rfl rfl (Nat.le_of_ble_eq_true rfl) ?_  -- t := store t25 t23
  refine lNil ?_
  refine wSeq ?_
  refine wReg ?_  -- region 3
  refine sP rfl rfl rfl (pLdW 2 rfl rfl rfl ty87 rfl) ?_  -- t26 := load t3
  refine sStore 1 rfl rfl rfl rfl rfl ty87 rfl rfl rfl (Nat.le_of_ble_eq_true rfl) ?_  -- t := store t2 t26
  refine lNil ?_
  refine wRet ?_
  exact ⟨_, [rdO p (rF7 st)], _, rfl, ⟨rfl, rfl⟩, rgm_cell rfl rfl (List.mem_of_getElem? (i := 1) rfl) ty87 rfl Sub.refl⟩
set_option maxRecDepth 100000 in
theorem fread_p (s : ByteArray) (hs : s.size < 9223372036854775807) : PFn Try.prog False 43 [sA s] (.tup [slF (freadL s), iA (freadE s)]) := by
  refine pfn Try.func43 rfl (by kernel_rfl) 40 rfl _ rfl (Nat.le_of_ble_eq_true rfl) (fun X w0 => ?_)
  refine wSeq ?_
  refine wReg ?_  -- region 0
  refine sP rfl rfl rfl (pA rfl rfl) ?_  -- t2 := assign c
  refine sP rfl rfl rfl (pA rfl rfl) ?_  -- t3 := assign c
  refine lNil ?_
  refine wSeq ?_
  refine wReg ?_  -- region 1
  refine sP rfl rfl rfl (pM rfl rfl) ?_  -- t9 := move t0
  refine sM0 rfl rfl rfl rfl (new_m s) ⟨Sub.refl, trivial⟩ (fun _ _ ⟨_, h⟩ => h.one) (fun av q hr => ?_)
  obtain ⟨p, hr⟩ := hr
  obtain ⟨rfl, rfl⟩ := hr.pq
  refine sP rfl rfl rfl (pA rfl rfl) ?_  -- t4 := assign t10
  refine lNil ?_
  refine wSeq ?_
  refine wReg ?_  -- region 2
  refine sP rfl rfl rfl (pM rfl rfl) ?_  -- t11 := move t4
  refine sM1 0 rfl rfl rfl (rdnum_m p (s, 0) hs) ⟨Sub.refl, trivial⟩ (fun _ _ h => h.one) (fun av q hr => ?_)
  obtain ⟨rfl, rfl⟩ := hr.pq
  refine sP rfl rfl rfl (pA rfl rfl) ?_  -- t5 := assign t12
  refine lNil ?_
  refine wSeq ?_
  refine wSeq ?_
  refine wReg ?_  -- region 3
  refine sP rfl rfl rfl (pM rfl rfl) ?_  -- t13 := move t5
  refine sP rfl rfl rfl (p_icmp rfl rfl rfl rfl) ?_  -- t14 := binOp t13 c
  refine lNil ?_
  refine wCond rfl (fun hc1 => ?_) (fun hc1 => ?_)  -- t14
  · refine wSeq ?_
    refine wReg ?_  -- region 4
    refine sP rfl rfl rfl (pA rfl rfl) ?_  -- t2 := assign c
    refine sP rfl rfl rfl (pA rfl rfl) ?_  -- t3 := assign c
    refine lNil ?_
    refine wRet ?_
    have he : freadE s = 3 := freadE_long (by have h := hc1; simp at h; omega)
    exact rgs2 (rg_tmp (gives_sub (sub_nilF (freadL_err (by rw [he]; decide))))) (rg_tmp (gives_sub (Sub.of_eq (avI he.symm))))
  · have hlen : ¬ 4096 < (rdN (s, 0)).1 := by have h := hc1; simp at h; omega
    refine wSkip ?_
    refine wSeq ?_
    refine wReg ?_  -- region 5
    refine sP rfl rfl rfl (pA rfl rfl) ?_  -- t6 := assign c
    refine lNil ?_
    refine wNilrow 87 8 ?_
    refine wSeq ?_
    refine wBlock ?_
    refine wLoop (fun mm L h => ∃ i st acc v, mm = (rdN (s, 0)).1 - i ∧ RdI s i acc st ∧ L = [(4, nP p), (5, iA ((rdN (s, 0)).1 : Nat)), (6, .x v)] ∧ h = [rdO p st, .row v 87 8 acc.length (acc.flatMap encF)]) ⟨_, _, _, _, ⟨0, (rdN (s, 0)).2, [], .slice none 0 0, rfl, RdI.start hs, rfl, rfl⟩, ⟨rfl, rfl, rfl, trivial⟩, rfl⟩ ?_
    rintro mm L h ⟨i, st, acc, v, rfl, hI, rfl, rfl⟩
    refine wSeq ?_
    refine wCut (fun L h => ∃ b : Bool, b = (decide ((acc.length : Int) < ((rdN (s, 0)).1 : Nat)) && decide (st.2 = 0)) ∧ L = [(4, nP p), (5, iA ((rdN (s, 0)).1 : Nat)), (6, .x v), (23, bA b)] ∧ h = [rdO p st, .row v 87 8 acc.length (acc.flatMap encF)]) ?_ ?_
    · cases hb : (decide ((acc.length : Int) < ((rdN (s, 0)).1 : Nat))) with
      | true =>
        refine wReg ?_  -- region 6
        refine sP rfl rfl rfl (pM rfl rfl) ?_  -- t15 := move t6
        refine sP rfl rfl rfl (p_len_row rfl rfl (List.mem_of_getElem? (i := 1) rfl) Try.underlying26) ?_  -- t16 := call   -- t15
        refine sP rfl rfl rfl (pM rfl rfl) ?_  -- t17 := move t5
        refine sP rfl rfl rfl (p_icmp rfl rfl rfl (congrArg some hb)) ?_  -- t18 := binOp t16 t17
        refine sP rfl rfl rfl (pM rfl rfl) ?_  -- t19 := move t18
        refine sG rfl rfl rfl rfl rfl (pM rfl rfl) ?_  -- t20 := move t4   GUARD ['4', 'true']
        refine sWant rfl rfl rfl ?_
        refine sM1 0 rfl rfl rfl (rderr_m p st) ⟨Sub.refl, trivial⟩ (fun _ _ h => h.one) (fun av q hr => ?_)
        obtain ⟨rfl, rfl⟩ := hr.pq
        refine sG rfl rfl rfl rfl rfl (p_icmp rfl rfl rfl rfl) ?_  -- t22 := binOp t21 c   GUARD ['4', 'true']
        refine sP rfl rfl rfl (p_pick rfl rfl rfl) ?_  -- t23 := pick t19 t22 c
        refine lNil ?_
        exact ⟨_, [rdO p st, .row v 87 8 acc.length (acc.flatMap encF)], [], ⟨_, (by exact rfl), rfl, rfl⟩, ⟨rfl, rfl, rfl, rfl, trivial⟩, rfl⟩
      | false =>
        refine wReg ?_  -- region 6
        refine sP rfl rfl rfl (pM rfl rfl) ?_  -- t15 := move t6
        refine sP rfl rfl rfl (p_len_row rfl rfl (List.mem_of_getElem? (i := 1) rfl) Try.underlying26) ?_  -- t16 := call   -- t15
        refine sP rfl rfl rfl (pM rfl rfl) ?_  -- t17 := move t5
        refine sP rfl rfl rfl (p_icmp rfl rfl rfl (congrArg some hb)) ?_  -- t18 := binOp t16 t17
        refine sP rfl rfl rfl (pM rfl rfl) ?_  -- t19 := move t18
        refine sU rfl rfl rfl (by decide) rfl rfl ?_  -- t20 := move t4   GUARD ['4', 'true']
        refine sU rfl rfl rfl (by decide) rfl rfl ?_  -- t21 := call    GUARD ['4', 'true']  -- t20
        refine sU rfl rfl rfl (by decide) rfl rfl ?_  -- t22 := binOp t21 c   GUARD ['4', 'true']
        refine sP rfl rfl rfl (p_pick rfl rfl rfl) ?_  -- t23 := pick t19 t22 c
        refine lNil ?_
        exact ⟨_, [rdO p st, .row v 87 8 acc.length (acc.flatMap encF)], [], ⟨_, (by exact rfl), rfl, rfl⟩, ⟨rfl, rfl, rfl, rfl, trivial⟩, rfl⟩
    · rintro L h ⟨b, hb, rfl, rfl⟩
      refine wCond rfl (fun hc2 => ?_) (fun hc2 => ?_)  -- t23
      · have hin : i < (rdN (s, 0)).1 := by have h := (and_t (hb.symm.trans hc2)).1; have := hI.len; simp at h; omega
        have hst0 : st.2 = 0 := by have h := (and_t (hb.symm.trans hc2)).2; simpa using h
        refine wSkip ?_
        refine wBlock ?_
        refine wReg ?_  -- region 7
        refine sP rfl rfl rfl (pM rfl rfl) ?_  -- t24 := move t6
        refine sP rfl rfl rfl (pM rfl rfl) ?_  -- t25 := move t4
        refine sM1 0 rfl rfl rfl (fone_m p st hI.size) ⟨Sub.refl, trivial⟩ (fun _ _ h => h.one) (fun av q hr => ?_)
        obtain ⟨rfl, rfl⟩ := hr.pq
        refine sP rfl rfl rfl (p_buildSlice rfl ze87 Try.underlying26 ty87 (by decide) (by decide) rfl rfl rfl) ?_  -- t27 := buildSlice 
        refine sAppendL (enc := encF) (l := acc) 1 [(rdF st).1] rfl rfl rfl rfl Try.underlying26 ro87 rfl rfl rfl (fun _ => rfl) (by have := hI.len; rw [List.length_singleton]; omega) (by have := hI.len; rw [List.length_singleton]; omega) (fun v28 => ?_)  -- t28 := call   -- t24 t27
        refine sP rfl rfl rfl (pA rfl rfl) ?_  -- t6 := assign t28
        refine lNil ?_
        refine ⟨_, _, [rdO p (rdF st).2, .row v28 87 8 (acc ++ [(rdF st).1]).length ((acc ++ [(rdF st).1]).flatMap encF)], _, ?_, ⟨i + 1, (rdF st).2, acc ++ [(rdF st).1], v28, rfl, hI.step hin hst0, rfl, rfl⟩, ⟨rfl, rfl, rfl, trivial⟩, rfl⟩
        omega
      · have hF := hI.stop (by have := hb.symm.trans hc2; rw [hI.len] at this; exact this)
        refine wExit ?_
        refine wFreeze 1 6 rfl rfl ?_
        refine wSeq ?_
        refine wSeq ?_
        refine wReg ?_  -- region 8
        refine sP rfl rfl rfl (pM rfl rfl) ?_  -- t29 := move t4
        refine sM1 0 rfl rfl rfl (rddone_m p st) ⟨Sub.refl, trivial⟩ (fun _ _ h => h.one) (fun av q hr => ?_)
        obtain ⟨rfl, rfl⟩ := hr.pq
        refine sP rfl rfl rfl (pA rfl rfl) ?_  -- t7 := assign t30
        refine lNil ?_
        refine wSeq ?_
        refine wReg ?_  -- region 9
        refine sP rfl rfl rfl (pM rfl rfl) ?_  -- t31 := move t7
        refine sP rfl rfl rfl (p_icmp rfl rfl rfl rfl) ?_  -- t32 := binOp t31 c
        refine lNil ?_
        refine wCond rfl (fun hc3 => ?_) (fun hc3 => ?_)  -- t32
        · refine wSeq ?_
          refine wReg ?_  -- region 10
          refine sP rfl rfl rfl (pM rfl rfl) ?_  -- t33 := move t7
          refine sP rfl rfl rfl (pA rfl rfl) ?_  -- t2 := assign c
          refine sP rfl rfl rfl (pA rfl rfl) ?_  -- t3 := assign t33
          refine lNil ?_
          refine wRet ?_
          have hd : doneE (rF s).2 ≠ 0 := by rw [hF]; simpa using hc3
          have he : freadE s = doneE st := by rw [freadE_done hlen hd, hF]
          exact rgs2 (rg_tmp (gives_sub (sub_nilF (freadL_err (by rw [freadE_done hlen hd]; exact hd))))) (rg_tmp (gives_sub (Sub.of_eq (avI he.symm))))
        · have hd0 : doneE (rF s).2 = 0 := by rw [hF]; simpa using hc3
          refine wSkip ?_
          refine wSeq ?_
          refine wSeq ?_
          refine wReg ?_  -- region 11
          refine sP rfl rfl rfl (pMs rfl rfl) ?_  -- t34 := move t6
          refine sP rfl rfl rfl (p_call rfl (fmay_p acc (by have := hI.len; have := hI.le; omega) hI.ok) ⟨Sub.refl, trivial⟩) ?_  -- t35 := call   -- t34
          refine sP rfl rfl rfl (pA rfl rfl) ?_  -- t8 := assign t35
          refine lNil ?_
          refine wSeq ?_
          refine wReg ?_  -- region 12
          refine sP rfl rfl rfl (pM rfl rfl) ?_  -- t36 := move t8
          refine sP rfl rfl rfl (p_icmp rfl rfl rfl rfl) ?_  -- t37 := binOp t36 c
          refine lNil ?_
          refine wCond rfl (fun hc4 => ?_) (fun hc4 => ?_)  -- t37
          · refine wSeq ?_
            refine wReg ?_  -- region 13
            refine sP rfl rfl rfl (pM rfl rfl) ?_  -- t38 := move t8
            refine sP rfl rfl rfl (pA rfl rfl) ?_  -- t2 := assign c
            refine sP rfl rfl rfl (pA rfl rfl) ?_  -- t3 := assign t38
            refine lNil ?_
            refine wRet ?_
            have hm : mayG chkF ltF acc ≠ 0 := by simpa using hc4
            have he : freadE s = mayG chkF ltF acc := by rw [freadE_may hlen hd0, hF]
            exact rgs2 (rg_tmp (gives_sub (sub_nilF (freadL_err (by rw [he]; exact hm))))) (rg_tmp (gives_sub (Sub.of_eq (avI he.symm))))
          · refine wSkip ?_
            refine wSeq ?_
            refine wReg ?_  -- region 14
            refine sP rfl rfl rfl (pMs rfl rfl) ?_  -- t39 := move t6
            refine sP rfl rfl rfl (pAs rfl rfl) ?_  -- t2 := assign t39
            refine sP rfl rfl rfl (pA rfl rfl) ?_  -- t3 := assign c
            refine lNil ?_
            refine wRet ?_
            have hm : mayG chkF ltF acc = 0 := by simpa using hc4
            have he : freadE s = 0 := by rw [freadE_may hlen hd0, hF]; exact hm
            have hl : freadL s = acc := by rw [freadL_ok he, hF]
            rw [hl]
            exact rgs2 (rg_tmp (gives_sub Sub.refl)) (rg_tmp (gives_sub (Sub.of_eq (avI he.symm))))
end Go.Proofs.Ytmhkalalcmkpbaa

namespace Go.Proofs.Ytmhkalalcmkpbaa
open Go Go.RowKit
set_option linter.unusedVariables false
set_option linter.unusedSimpArgs false

set_option maxRecDepth 100000 in
theorem one_p {K : Prop} (r n : Int) (s t : ByteArray) : PFn Try.prog K 101 [iA r, iA n, sA s, sA t] (fA (oneF r n s t)) := by
  refine pfn Try.func101 rfl (by kernel_rfl) 18 rfl _ rfl (Nat.le_of_ble_eq_true rfl) (fun X w0 => ?_)
  refine wSeq ?_
  refine wReg ?_  -- region 0
  refine sAlloc rfl rfl rfl rfl ze87 (fun g8 => ?_)  -- t8 := alloc 
  refine lNil ?_
  refine wSeq ?_
  refine wReg ?_  -- region 1
  refine sP rfl rfl rfl (pM rfl rfl) ?_  -- t9 := move t0
  refine sP rfl rfl rfl (pM rfl rfl) ?_  -- t10 := move t1
  refine sP rfl rfl rfl (p_build (res := [iA r, iA n]) rfl ze23 pl23 rfl rfl) ?_  -- t11 := build 
  refine sP rfl rfl rfl (pM rfl rfl) ?_  -- t12 := move t1
  refine sP rfl rfl rfl (pM rfl rfl) ?_  -- t13 := move t0
  refine sP rfl rfl rfl (p_build (res := [iA n, iA 0, iA r]) rfl ze25 pl25 rfl rfl) ?_  -- t14 := build 
  refine sP rfl rfl rfl (pM rfl rfl) ?_  -- t15 := move t2
  refine sP rfl rfl rfl (pM rfl rfl) ?_  -- t16 := move t3
  refine sP rfl rfl rfl (p_build (res := encF (oneF r n s t)) rfl ze87 pl87 rfl rfl) ?_  -- t17 := build 
  refine sStore 0 rfl rfl rfl rfl rfl ty87 rfl rfl rfl (Nat.le_of_ble_eq_true rfl) ?_  -- t := store t8 t17
  refine lNil ?_
  refine wRet ?_
  exact rgs1 (rg_cell rfl (List.mem_of_getElem? (i := 0) rfl) ty87 (.inl ⟨rfl, Nat.le_refl _, rfl⟩) (gives_sub Sub.refl))

theorem aw_ok : ∀ f ∈ [awA, awB], okF f := by
  intro f hf
  simp only [List.mem_cons, List.not_mem_nil, or_false] at hf
  rcases hf with rfl | rfl
  · exact ⟨by decide, by decide⟩
  · exact ⟨by decide, by decide⟩
theorem awsort_p : PFn Try.prog False 46 [slF [awB, awA, awB]] (slF [awA, awB]) := by
  have h := fsort_p [awB, awA, awB] (by decide)
  rw [aw_sort] at h
  exact h
theorem awput_p : PFn Try.prog False 45 [slF [awA, awB]] (.tup [sA (fputS [awA, awB]), iA 0]) := aw_put ▸ fput_p [awA, awB] (by decide) aw_ok
theorem awput_size : (fputS [awA, awB]).size < 9223372036854775807 := by
  rw [fputS_ok aw_put, ByteArray.size_append]
  have h1 := numS_size ([awA, awB] : List FactT).length
  have h2 := factsB_size [awA, awB] aw_ok (by decide)
  omega
theorem awread_p : PFn Try.prog False 43 [sA (fputS [awA, awB])] (.tup [slF [awA, awB], iA 0]) := by
  have h := fread_p (fputS [awA, awB]) awput_size
  obtain ⟨h1, h2⟩ := fread_put aw_put
  rw [h1, h2] at h
  exact h
theorem awsame_p : PFn Try.prog False 47 [slF [awA, awB], slF [awA, awB]] (bA true) := by
  have h := rfsame_p [awA, awB] [awA, awB] (by decide) (by decide)
  rw [decide_eq_true rfl] at h
  exact h
theorem awchk1_p : PFn Try.prog False 102 [fA ((1, 2), (2, 0, 2), 3, ⟨#[98]⟩, ⟨#[120]⟩)] (iA 5) := aw_chk1 ▸ fcheck_p ((1, 2), (2, 0, 2), 3, ⟨#[98]⟩, ⟨#[120]⟩) ⟨by decide, by decide⟩
theorem awchk2_p : PFn Try.prog False 102 [fA (oneF 1 2 ⟨#[]⟩ ⟨#[120]⟩)] (iA 14) := aw_chk2 ▸ fcheck_p (oneF 1 2 ⟨#[]⟩ ⟨#[120]⟩) ⟨by decide, by decide⟩
theorem awchk3_p : PFn Try.prog False 102 [fA ((0, 0), (0, 0, 0), 0, ⟨#[]⟩, ⟨#[]⟩)] (iA 2) := aw_chk3 ▸ fcheck_p ((0, 0), (0, 0, 0), 0, ⟨#[]⟩, ⟨#[]⟩) ⟨by decide, by decide⟩
theorem awless_p : PFn Try.prog False 49 [fA awA, fA awB] (bA true) := aw_less ▸ fless_p awA awB

set_option maxHeartbeats 1000000 in
set_option maxRecDepth 100000 in
theorem awake15_p : PFn Try.prog False 42 [] (bA true) := by
  refine pfn Try.func42 rfl (by kernel_rfl) 69 rfl _ rfl (Nat.le_of_ble_eq_true rfl) (fun X w0 => ?_)
  refine wSeq ?_
  refine wReg ?_  -- region 0
  refine sP rfl rfl rfl (pA rfl rfl) ?_  -- t0 := assign c
  refine lNil ?_
  refine wSeq ?_
  refine wReg ?_  -- region 1
  refine sP rfl rfl rfl (p_call rfl (one_p 1 2 ⟨#[98]⟩ ⟨#[120]⟩) ⟨Sub.refl, Sub.refl, Sub.refl, Sub.refl, trivial⟩) ?_  -- t8 := call   -- c c c c
  refine sP rfl rfl rfl (p_call rfl (one_p 0 1 ⟨#[97]⟩ ⟨#[121]⟩) ⟨Sub.refl, Sub.refl, Sub.refl, Sub.refl, trivial⟩) ?_  -- t9 := call   -- c c c c
  refine sP rfl rfl rfl (p_call rfl (one_p 1 2 ⟨#[98]⟩ ⟨#[120]⟩) ⟨Sub.refl, Sub.refl, Sub.refl, Sub.refl, trivial⟩) ?_  -- t10 := call   -- c c c c
  refine sP rfl rfl rfl (p_buildSlice (res := [awB, awA, awB].flatMap encF) rfl ze87 Try.underlying26 ty87 (by decide) (by decide) rfl rfl rfl) ?_  -- t11 := buildSlice 
  refine sP rfl rfl rfl (p_call rfl (awsort_p) ⟨Sub.refl, trivial⟩) ?_  -- t12 := call   -- t11
  refine sP rfl rfl rfl (pAs rfl rfl) ?_  -- t1 := assign t12
  refine lNil ?_
  refine wSeq ?_
  refine wReg ?_  -- region 2
  refine sP rfl rfl rfl (pMs rfl rfl) ?_  -- t14 := move t1
  refine sP rfl rfl rfl (p_call rfl (awput_p) ⟨Sub.refl, trivial⟩) ?_  -- t15 := call   -- t14
  refine sP rfl rfl rfl (pMt rfl rfl) ?_  -- t13 := move t15
  refine sP rfl rfl rfl (p_extract rfl rfl rfl) ?_  -- t16 := extract t13
  refine sP rfl rfl rfl (p_extract rfl rfl rfl) ?_  -- t17 := extract t13
  refine sP rfl rfl rfl (pA rfl rfl) ?_  -- t2 := assign t16
  refine sP rfl rfl rfl (pA rfl rfl) ?_  -- t3 := assign t17
  refine lNil ?_
  refine wSeq ?_
  refine wReg ?_  -- region 3
  refine sP rfl rfl rfl (pM rfl rfl) ?_  -- t19 := move t2
  refine sP rfl rfl rfl (p_call rfl (awread_p) ⟨Sub.refl, trivial⟩) ?_  -- t20 := call   -- t19
  refine sP rfl rfl rfl (pMt rfl rfl) ?_  -- t18 := move t20
  refine sP rfl rfl rfl (p_extract rfl rfl rfl) ?_  -- t21 := extract t18
  refine sP rfl rfl rfl (p_extract rfl rfl rfl) ?_  -- t22 := extract t18
  refine sP rfl rfl rfl (pAs rfl rfl) ?_  -- t4 := assign t21
  refine sP rfl rfl rfl (pA rfl rfl) ?_  -- t5 := assign t22
  refine lNil ?_
  refine wSeq ?_
  refine wReg ?_  -- region 4
  refine sP rfl rfl rfl (p_call rfl (one_p 1 2 ⟨#[98]⟩ ⟨#[120]⟩) ⟨Sub.refl, Sub.refl, Sub.refl, Sub.refl, trivial⟩) ?_  -- t23 := call   -- c c c c
  refine sP rfl rfl rfl (p_call rfl (one_p 1 2 ⟨#[]⟩ ⟨#[120]⟩) ⟨Sub.refl, Sub.refl, Sub.refl, Sub.refl, trivial⟩) ?_  -- t24 := call   -- c c c c
  refine sAlloc rfl rfl rfl rfl ze87 (fun g6 => ?_)  -- t6 := alloc 
  refine sAlloc rfl rfl rfl rfl ze87 (fun g7 => ?_)  -- t7 := alloc 
  refine sStore 0 rfl rfl rfl rfl rfl ty87 rfl rfl rfl (Nat.le_of_ble_eq_true rfl) ?_  -- t := store t6 t23
  refine sStore 1 rfl rfl rfl rfl rfl ty87 rfl rfl rfl (Nat.le_of_ble_eq_true rfl) ?_  -- t := store t7 t24
  refine lNil ?_
  refine wKeep [(1, slF [awA, awB]), (3, iA 0), (4, slF [awA, awB]), (5, iA 0), (6, .x (.pointer (some ⟨g6, 0, none⟩))), (7, .x (.pointer (some ⟨g7, 0, none⟩)))] [.cells g6 87 (encF awB), .cells g7 87 (encF (oneF 1 2 ⟨#[]⟩ ⟨#[120]⟩))] [] ⟨rfl, rfl, rfl, rfl, rfl, rfl, trivial⟩ rfl ?_
  refine wSeq ?_
  refine wReg ?_  -- region 5
  refine sP rfl rfl rfl (p_fieldAddr_own rfl rfl fl87_1 ty25 (by decide)) ?_  -- t25 := fieldAddr t6
  refine sP rfl rfl rfl (p_fieldAddr_own rfl rfl fl25_2 ty3 (by decide)) ?_  -- t26 := fieldAddr t25
  refine sStore1 0 rfl rfl rfl rfl rfl ty3 rfl rfl (Nat.le_of_ble_eq_true rfl) ?_  -- t := store t26 c
  refine lNil ?_
  refine wKeep [(1, slF [awA, awB]), (3, iA 0), (4, slF [awA, awB]), (5, iA 0), (6, .x (.pointer (some ⟨g6, 0, none⟩))), (7, .x (.pointer (some ⟨g7, 0, none⟩)))] [.cells g6 87 (encF ((1, 2), (2, 0, 2), 3, ⟨#[98]⟩, ⟨#[120]⟩)), .cells g7 87 (encF (oneF 1 2 ⟨#[]⟩ ⟨#[120]⟩))] [] ⟨rfl, rfl, rfl, rfl, rfl, rfl, trivial⟩ rfl ?_
  refine wSeq ?_
  refine wDraw 43 (by kernel_rfl) (by kernel_rfl) ?_  -- region 6
  refine sP rfl rfl rfl (pMs rfl rfl) ?_  -- t27 := move t1
  refine sP rfl rfl rfl (p_call rfl (one_p 0 1 ⟨#[97]⟩ ⟨#[121]⟩) ⟨Sub.refl, Sub.refl, Sub.refl, Sub.refl, trivial⟩) ?_  -- t28 := call   -- c c c c
  refine sP rfl rfl rfl (p_call rfl (one_p 1 2 ⟨#[98]⟩ ⟨#[120]⟩) ⟨Sub.refl, Sub.refl, Sub.refl, Sub.refl, trivial⟩) ?_  -- t29 := call   -- c c c c
  refine sP rfl rfl rfl (p_buildSlice (res := [awA, awB].flatMap encF) rfl ze87 Try.underlying26 ty87 (by decide) (by decide) rfl rfl rfl) ?_  -- t30 := buildSlice 
  refine sP rfl rfl rfl (p_call rfl (awsame_p) ⟨Sub.refl, Sub.refl, trivial⟩) ?_  -- t31 := call   -- t27 t30
  refine sP rfl rfl rfl (pM rfl rfl) ?_  -- t32 := move t31
  refine sG rfl rfl rfl rfl rfl (pM rfl rfl) ?_  -- t33 := move t3   GUARD ['5', 'true']
  refine sG rfl rfl rfl rfl rfl (p_icmp rfl rfl rfl rfl) ?_  -- t34 := binOp t33 c   GUARD ['5', 'true']
  refine sP rfl rfl rfl (p_pick rfl rfl rfl) ?_  -- t35 := pick t32 t34 c
  refine sP rfl rfl rfl (pM rfl rfl) ?_  -- t36 := move t35
  refine sG rfl rfl rfl rfl rfl (pMs rfl rfl) ?_  -- t37 := move t4   GUARD ['9', 'true']
  refine sG rfl rfl rfl rfl rfl (pMs rfl rfl) ?_  -- t38 := move t1   GUARD ['9', 'true']
  refine sG rfl rfl rfl rfl rfl (p_call rfl (awsame_p) ⟨Sub.refl, Sub.refl, trivial⟩) ?_  -- t39 := call    GUARD ['9', 'true']  -- t37 t38
  refine sP rfl rfl rfl (p_pick rfl rfl rfl) ?_  -- t40 := pick t36 t39 c
  refine sP rfl rfl rfl (pM rfl rfl) ?_  -- t41 := move t40
  refine sG rfl rfl rfl rfl rfl (pM rfl rfl) ?_  -- t42 := move t5   GUARD ['14', 'true']
  refine sG rfl rfl rfl rfl rfl (p_icmp rfl rfl rfl rfl) ?_  -- t43 := binOp t42 c   GUARD ['14', 'true']
  refine sP rfl rfl rfl (p_pick rfl rfl rfl) ?_  -- t44 := pick t41 t43 c
  refine sP rfl rfl rfl (pM rfl rfl) ?_  -- t45 := move t44
  refine sG rfl rfl rfl rfl rfl (pLdW 0 rfl rfl rfl ty87 rfl) ?_  -- t46 := load t6   GUARD ['18', 'true']
  refine sG rfl rfl rfl rfl rfl (p_call rfl (awchk1_p) ⟨Sub.refl, trivial⟩) ?_  -- t47 := call    GUARD ['18', 'true']  -- t46
  refine sG rfl rfl rfl rfl rfl (p_icmp rfl rfl rfl rfl) ?_  -- t48 := binOp t47 c   GUARD ['18', 'true']
  refine sP rfl rfl rfl (p_pick rfl rfl rfl) ?_  -- t49 := pick t45 t48 c
  refine sP rfl rfl rfl (pM rfl rfl) ?_  -- t50 := move t49
  refine sG rfl rfl rfl rfl rfl (pLdW 1 rfl rfl rfl ty87 rfl) ?_  -- t51 := load t7   GUARD ['23', 'true']
  refine sG rfl rfl rfl rfl rfl (p_call rfl (awchk2_p) ⟨Sub.refl, trivial⟩) ?_  -- t52 := call    GUARD ['23', 'true']  -- t51
  refine sG rfl rfl rfl rfl rfl (p_icmp rfl rfl rfl rfl) ?_  -- t53 := binOp t52 c   GUARD ['23', 'true']
  refine sP rfl rfl rfl (p_pick rfl rfl rfl) ?_  -- t54 := pick t50 t53 c
  refine sP rfl rfl rfl (pM rfl rfl) ?_  -- t55 := move t54
  refine sG rfl rfl rfl rfl rfl (p_build (res := encF ((0, 0), (0, 0, 0), 0, ⟨#[]⟩, ⟨#[]⟩)) rfl ze87 pl87 rfl rfl) ?_  -- t56 := build    GUARD ['28', 'true']
  refine sG rfl rfl rfl rfl rfl (p_call rfl (awchk3_p) ⟨Sub.refl, trivial⟩) ?_  -- t57 := call    GUARD ['28', 'true']  -- t56
  refine sG rfl rfl rfl rfl rfl (p_icmp rfl rfl rfl rfl) ?_  -- t58 := binOp t57 c   GUARD ['28', 'true']
  refine sP rfl rfl rfl (p_pick rfl rfl rfl) ?_  -- t59 := pick t55 t58 c
  refine sP rfl rfl rfl (pM rfl rfl) ?_  -- t60 := move t59
  refine sG rfl rfl rfl rfl rfl (pMs rfl rfl) ?_  -- t61 := move t1   GUARD ['33', 'true']
  refine sG rfl rfl rfl rfl rfl (pIdx (l := [awA, awB]) (enc := encF) 0 rfl rfl Try.underlying26 ty87 (by decide) rfl (fun _ => rfl) rfl rfl rfl) ?_  -- t62 := indexAddr t61 c   GUARD ['33', 'true']
  refine sG rfl rfl rfl rfl rfl (pLdE rfl rfl ty87 rfl) ?_  -- t63 := load t62   GUARD ['33', 'true']
  refine sG rfl rfl rfl rfl rfl (pMs rfl rfl) ?_  -- t64 := move t1   GUARD ['33', 'true']
  refine sG rfl rfl rfl rfl rfl (pIdx (l := [awA, awB]) (enc := encF) 1 rfl rfl Try.underlying26 ty87 (by decide) rfl (fun _ => rfl) rfl rfl rfl) ?_  -- t65 := indexAddr t64 c   GUARD ['33', 'true']
  refine sG rfl rfl rfl rfl rfl (pLdE rfl rfl ty87 rfl) ?_  -- t66 := load t65   GUARD ['33', 'true']
  refine sG rfl rfl rfl rfl rfl (p_call rfl (awless_p) ⟨Sub.refl, Sub.refl, trivial⟩) ?_  -- t67 := call    GUARD ['33', 'true']  -- t63 t66
  refine sP rfl rfl rfl (p_pick rfl rfl rfl) ?_  -- t68 := pick t60 t67 c
  refine sP rfl rfl rfl (pA rfl rfl) ?_  -- t0 := assign t68
  refine lTail ?_
  refine lNil ?_
  refine wRet ?_
  exact rgs1 (rg_tmp (gives_sub (Sub.of_eq (rfl))))
end Go.Proofs.Ytmhkalalcmkpbaa
