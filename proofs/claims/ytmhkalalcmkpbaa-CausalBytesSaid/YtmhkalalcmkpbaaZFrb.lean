/-
  Frb
-/
import Derived.Test.YtmhkalalcmkpbaaZFacR
import Derived.Test.YtmhkalalcmkpbaaZFput
import Derived.Test.YtmhkalalcmkpbaaZWireTextR
namespace Go.Proofs.Ytmhkalalcmkpbaa
open Go Go.RowKit
set_option linter.unusedVariables false
set_option linter.unusedSimpArgs false

abbrev rA (st : ByteArray × Int) : AV := .agg [sA st.1, iA st.2]
theorem rrnum_p (st : ByteArray × Int) (hs : st.1.size < 9223372036854775807) : PFn Try.prog False 85 [rA st] (.tup [rA (rdN st).2, iA ((rdN st).1 : Nat)]) := pfn_ex rfl rfl (enter_of Try.func85 (by kernel_rfl) rfl) fun w => (rrnum_c st.1 st.2 hs w).mono fun e w' ⟨h1, h2⟩ => ⟨h1, bl_weak h2⟩
theorem rrtext_p (st : ByteArray × Int) (hs : st.1.size < 9223372036854775807) : PFn Try.prog False 86 [rA st] (.tup [rA (rdT st).2, sA (rdT st).1]) := pfn_ex rfl rfl (enter_of Try.func86 (by kernel_rfl) rfl) fun w => (rrtext_c st.1 st.2 hs w).mono fun e w' ⟨h1, h2⟩ => ⟨h1, bl_weak h2⟩
theorem rrdone_p (st : ByteArray × Int) : PFn Try.prog False 87 [rA st] (iA (doneE st)) := pfn_ex rfl rfl (enter_of Try.func87 (by kernel_rfl) rfl) fun w => (rdone_c st.1 st.2 w).mono fun e w' ⟨h1, h2⟩ => ⟨h1, bl_weak h2⟩
theorem cat_take0 {α : Type} (g : α → ByteArray) {xs : List α} {k : Nat} {x : α} (h : xs[k]? = some x) : cat ((xs.take k).map g) ++ g x = cat ((xs.take (k + 1)).map g) := by
  have := cat_take g h ⟨#[]⟩
  rw [nil_app, nil_app] at this; exact this
theorem factB_eq (x : FactT) : cat (((numsF x).take 5).map numS) ++ txS x.2.2.2.1 ++ txS x.2.2.2.2 = factB x := by
  show _ = cat ((numsF x).map numS) ++ (((⟨#[]⟩ : ByteArray) ++ txS x.2.2.2.1) ++ txS x.2.2.2.2)
  rw [nil_app, ← ByteArray.append_assoc]; rfl
theorem factsB_take {l : List FactT} {i : Nat} {d : FactT} (h : l[i]? = some d) (s : ByteArray) : s ++ factsB (l.take i) ++ factB d = s ++ factsB (l.take (i + 1)) := cat_take factB h s
theorem hrput0 (s : ByteArray) (l : List FactT) : s = s ++ factsB (l.take 0) := by show _ = _ ++ (⟨#[]⟩ : ByteArray); rw [app_nil]

set_option maxRecDepth 100000 in
theorem rput_p (x : FactT) (hx : okF x) : PFn Try.prog False 126 [fA x] (sA (factB x)) := by
  refine pfn Try.func126 rfl (by kernel_rfl) 61 rfl _ rfl (Nat.le_of_ble_eq_true rfl) (fun X w0 => ?_)
  refine wSeq ?_
  refine wReg ?_
  refine sBox rfl rfl rfl rfl rfl (fun g1 => ?_)
  refine sP rfl rfl rfl (pA rfl rfl) ?_
  refine lNil ?_
  refine wSeq ?_
  refine wReg ?_
  refine sP rfl rfl rfl (pA rfl rfl) ?_
  refine lNil ?_
  refine wSeq ?_
  refine wReg ?_
  refine sP rfl rfl rfl (p_fieldAddr_own rfl rfl fl87_0 ty23 (by decide)) ?_
  refine sP rfl rfl rfl (p_fieldAddr_own rfl rfl fl23_0 ty3 (by decide)) ?_
  refine sP rfl rfl rfl (pLdO1 0 rfl rfl rfl ty3 rfl) ?_
  refine sP rfl rfl rfl (p_fieldAddr_own rfl rfl fl87_0 ty23 (by decide)) ?_
  refine sP rfl rfl rfl (p_fieldAddr_own rfl rfl fl23_1 ty3 (by decide)) ?_
  refine sP rfl rfl rfl (pLdO1 0 rfl rfl rfl ty3 rfl) ?_
  refine sP rfl rfl rfl (p_fieldAddr_own rfl rfl fl87_1 ty25 (by decide)) ?_
  refine sP rfl rfl rfl (p_fieldAddr_own rfl rfl fl25_0 ty3 (by decide)) ?_
  refine sP rfl rfl rfl (pLdO1 0 rfl rfl rfl ty3 rfl) ?_
  refine sP rfl rfl rfl (p_fieldAddr_own rfl rfl fl87_1 ty25 (by decide)) ?_
  refine sP rfl rfl rfl (p_fieldAddr_own rfl rfl fl25_1 ty3 (by decide)) ?_
  refine sP rfl rfl rfl (pLdO1 0 rfl rfl rfl ty3 rfl) ?_
  refine sP rfl rfl rfl (p_fieldAddr_own rfl rfl fl87_2 ty3 (by decide)) ?_
  refine sP rfl rfl rfl (pLdO1 0 rfl rfl rfl ty3 rfl) ?_
  refine sP rfl rfl rfl (p_buildSlice rfl ze3 Try.underlying105 ty3 (by decide) (by decide) rfl rfl rfl) ?_
  refine sP rfl rfl rfl (pAs rfl rfl) ?_
  refine lNil ?_
  refine wSeq ?_
  refine wSeq ?_
  refine wReg ?_
  refine sP rfl rfl rfl (pA rfl rfl) ?_
  refine lNil ?_
  refine wBlock ?_
  refine wLoop (fun mm L h => ∃ k s, mm = 5 - k ∧ k ≤ 5 ∧ s = cat (((numsF x).take k).map numS) ∧ L = [(1, .x (.pointer (some ⟨g1, 0, none⟩))), (3, sA s), (4, .sl 1 5 ((numsF x).flatMap fun n => [iA n])), (5, iA (k : Nat))] ∧ h = [.cells g1 87 (encF x)]) ⟨_, _, _, _, ⟨0, _, rfl, Nat.zero_le _, (by exact rfl), rfl, rfl⟩, ⟨rfl, rfl, rfl, rfl, trivial⟩, rfl⟩ ?_
  rintro mm L h ⟨k, s, rfl, hk, hs, rfl, rfl⟩
  have hsz : s.size ≤ 40 := by rw [hs]; exact nums_size x k
  refine wSeq ?_
  refine wSeq ?_
  refine wReg ?_
  refine sP rfl rfl rfl (pM rfl rfl) ?_
  refine sP rfl rfl rfl (pMs rfl rfl) ?_
  refine sP rfl rfl rfl (p_len_sl rfl rfl Try.underlying105) ?_
  refine sP rfl rfl rfl (p_icmp rfl rfl rfl rfl) ?_
  refine lNil ?_
  refine wCond rfl (fun hc1 => ?_) (fun hc1 => ?_)
  · have hk5 : k < 5 := by have h := hc1; simp at h; omega
    obtain ⟨n, hn⟩ : ∃ n, (numsF x)[k]? = some n := getL (l := numsF x) hk5
    have hn8 := numS_size n
    refine wSkip ?_
    refine wSeq ?_
    refine wBlock ?_
    refine wSeq ?_
    refine wReg ?_
    refine sP rfl rfl rfl (pMs rfl rfl) ?_
    refine sP rfl rfl rfl (pM rfl rfl) ?_
    refine sP rfl rfl rfl (pIdx k rfl rfl Try.underlying105 ty3 (by decide) rfl (fun _ => rfl) rfl rfl hn) ?_
    refine sP rfl rfl rfl (pLd1 rfl rfl ty3) ?_
    refine sP rfl rfl rfl (p_call rfl (rnum_p n) ⟨Sub.refl, trivial⟩) ?_
    refine sP rfl rfl rfl (pMt rfl rfl) ?_
    refine sP rfl rfl rfl (p_extract rfl rfl rfl) ?_
    refine sP rfl rfl rfl (p_extract rfl rfl rfl) ?_
    refine sP rfl rfl rfl (pA rfl rfl) ?_
    refine sP rfl rfl rfl (pA rfl rfl) ?_
    refine lNil ?_
    refine wReg ?_
    refine sP rfl rfl rfl (pM rfl rfl) ?_
    refine sP rfl rfl rfl (pM rfl rfl) ?_
    refine sP rfl rfl rfl (p_sadd rfl rfl rfl (by omega)) ?_
    refine sP rfl rfl rfl (pA rfl rfl) ?_
    refine lNil ?_
    refine wReg ?_
    refine sP rfl rfl rfl (pM rfl rfl) ?_
    refine sP rfl rfl rfl (p_iar rfl rfl rfl rfl) ?_
    refine sP rfl rfl rfl (pA rfl rfl) ?_
    refine lNil ?_
    refine ⟨_, _, [.cells g1 87 (encF x)], [], ?_, ⟨k + 1, _, rfl, hk5, ?_, rfl, rfl⟩, ⟨rfl, rfl, rfl, avI (wrapI (by omega) (by omega)), trivial⟩, rfl⟩
    · omega
    · rw [hs]; exact cat_take0 numS hn
  · have hk6 : k = 5 := by have h := hc1; simp at h; omega
    subst hk6
    have hx1 := hx.1
    have hx2 := hx.2
    have ht1 := txS_size x.2.2.2.1
    have ht2 := txS_size x.2.2.2.2
    refine wExit ?_
    refine wSeq ?_
    refine wReg ?_
    refine sP rfl rfl rfl (p_fieldAddr_own rfl rfl fl87_3 ty9 (by decide)) ?_
    refine sP rfl rfl rfl (pLdO1 0 rfl rfl rfl ty9 rfl) ?_
    refine sP rfl rfl rfl (p_call rfl (rtext_p x.2.2.2.1 (by omega)) ⟨Sub.refl, trivial⟩) ?_
    refine sP rfl rfl rfl (pMt rfl rfl) ?_
    refine sP rfl rfl rfl (p_extract rfl rfl rfl) ?_
    refine sP rfl rfl rfl (p_extract rfl rfl rfl) ?_
    refine sP rfl rfl rfl (pA rfl rfl) ?_
    refine sP rfl rfl rfl (pA rfl rfl) ?_
    refine lNil ?_
    refine wSeq ?_
    refine wReg ?_
    refine sP rfl rfl rfl (p_fieldAddr_own rfl rfl fl87_4 ty9 (by decide)) ?_
    refine sP rfl rfl rfl (pLdO1 0 rfl rfl rfl ty9 rfl) ?_
    refine sP rfl rfl rfl (p_call rfl (rtext_p x.2.2.2.2 (by omega)) ⟨Sub.refl, trivial⟩) ?_
    refine sP rfl rfl rfl (pMt rfl rfl) ?_
    refine sP rfl rfl rfl (p_extract rfl rfl rfl) ?_
    refine sP rfl rfl rfl (p_extract rfl rfl rfl) ?_
    refine sP rfl rfl rfl (pA rfl rfl) ?_
    refine sP rfl rfl rfl (pA rfl rfl) ?_
    refine lNil ?_
    refine wSeq ?_
    refine wReg ?_
    refine sP rfl rfl rfl (pM rfl rfl) ?_
    refine sP rfl rfl rfl (pM rfl rfl) ?_
    refine sP rfl rfl rfl (p_sadd rfl rfl rfl (by omega)) ?_
    refine sP rfl rfl rfl (pM rfl rfl) ?_
    refine sP rfl rfl rfl (p_sadd rfl rfl rfl (by rw [ByteArray.size_append]; omega)) ?_
    refine sP rfl rfl rfl (pA rfl rfl) ?_
    refine lNil ?_
    refine wRet ?_
    exact rgs1 (rg_tmp (gives_sub (Sub.of_eq (avS (by rw [hs]; exact factB_eq x)))))
set_option maxRecDepth 100000 in
theorem rfput_p (l : List FactT) (hn : l.length < 1000000) (ho : ∀ f ∈ l, okF f) : PFn Try.prog False 67 [slF l] (.tup [sA (fputS l), iA (fputE l)]) := by
  refine pfn Try.func67 rfl (by kernel_rfl) 36 rfl _ rfl (Nat.le_of_ble_eq_true rfl) (fun X w0 => ?_)
  refine wSeq ?_
  refine wReg ?_
  refine sP rfl rfl rfl (pA rfl rfl) ?_
  refine sP rfl rfl rfl (pA rfl rfl) ?_
  refine lNil ?_
  refine wSeq ?_
  refine wSeq ?_
  refine wReg ?_
  refine sP rfl rfl rfl (pMs rfl rfl) ?_
  refine sP rfl rfl rfl (p_len_sl rfl rfl Try.underlying26) ?_
  refine sP rfl rfl rfl (p_icmp rfl rfl rfl rfl) ?_
  refine lNil ?_
  refine wCond rfl (fun hc1 => ?_) (fun hc1 => ?_)
  · refine wSeq ?_
    refine wReg ?_
    refine sP rfl rfl rfl (pA rfl rfl) ?_
    refine sP rfl rfl rfl (pA rfl rfl) ?_
    refine lNil ?_
    refine wRet ?_
    have h : 4096 < l.length := by have h := hc1; simp at h; omega
    have he : fputE l = 3 := fputE_long h
    exact rgs2 (rg_tmp (gives_sub (Sub.of_eq (avS (fputS_err (by rw [he]; decide)).symm)))) (rg_tmp (gives_sub (Sub.of_eq (avI he.symm))))
  · have hlen : ¬ 4096 < l.length := by have h := hc1; simp at h; omega
    have hlen2 : l.length ≤ 4096 := by omega
    refine wSkip ?_
    refine wSeq ?_
    refine wSeq ?_
    refine wReg ?_
    refine sP rfl rfl rfl (pMs rfl rfl) ?_
    refine sP rfl rfl rfl (p_call rfl (rfchecks_p l hn ho) ⟨Sub.refl, trivial⟩) ?_
    refine sP rfl rfl rfl (pA rfl rfl) ?_
    refine lNil ?_
    refine wSeq ?_
    refine wReg ?_
    refine sP rfl rfl rfl (pM rfl rfl) ?_
    refine sP rfl rfl rfl (p_icmp rfl rfl rfl rfl) ?_
    refine lNil ?_
    refine wCond rfl (fun hc2 => ?_) (fun hc2 => ?_)
    · refine wSeq ?_
      refine wReg ?_
      refine sP rfl rfl rfl (pM rfl rfl) ?_
      refine sP rfl rfl rfl (pA rfl rfl) ?_
      refine sP rfl rfl rfl (pA rfl rfl) ?_
      refine lNil ?_
      refine wRet ?_
      have h : mayG chkF ltF l ≠ 0 := by simpa using hc2
      rw [← fputE_may hlen] at h
      exact rgs2 (rg_tmp (gives_sub (Sub.of_eq (avS (fputS_err h).symm)))) (rg_tmp (gives_sub (Sub.of_eq (avI (fputE_may hlen).symm))))
    · have hz : fputE l = 0 := by rw [fputE_may hlen]; simpa using hc2
      have hnn := numS_size l.length
      refine wSkip ?_
      refine wSeq ?_
      refine wReg ?_
      refine sP rfl rfl rfl (pMs rfl rfl) ?_
      refine sP rfl rfl rfl (p_len_sl rfl rfl Try.underlying26) ?_
      refine sP rfl rfl rfl (p_call rfl (rnum_p l.length) ⟨Sub.refl, trivial⟩) ?_
      refine sP rfl rfl rfl (pMt rfl rfl) ?_
      refine sP rfl rfl rfl (p_extract rfl rfl rfl) ?_
      refine sP rfl rfl rfl (p_extract rfl rfl rfl) ?_
      refine sP rfl rfl rfl (pA rfl rfl) ?_
      refine sP rfl rfl rfl (pA rfl rfl) ?_
      refine lNil ?_
      refine wSeq ?_
      refine wSeq ?_
      refine wReg ?_
      refine sP rfl rfl rfl (pA rfl rfl) ?_
      refine lNil ?_
      refine wBlock ?_
      refine wLoop (fun mm L h => ∃ i s, mm = l.length - i ∧ i ≤ l.length ∧ s = numS l.length ++ factsB (l.take i) ∧ L = [(0, slF l), (5, sA s), (7, iA (i : Nat))] ∧ h = []) ⟨_, _, _, _, ⟨0, _, rfl, Nat.zero_le _, (by exact hrput0 _ l), rfl, rfl⟩, ⟨rfl, rfl, rfl, trivial⟩, rfl⟩ ?_
      rintro mm L h ⟨i, s, rfl, hi, hs, rfl, rfl⟩
      refine wSeq ?_
      refine wSeq ?_
      refine wReg ?_
      refine sP rfl rfl rfl (pM rfl rfl) ?_
      refine sP rfl rfl rfl (pMs rfl rfl) ?_
      refine sP rfl rfl rfl (p_len_sl rfl rfl Try.underlying26) ?_
      refine sP rfl rfl rfl (p_icmp rfl rfl rfl rfl) ?_
      refine lNil ?_
      refine wCond rfl (fun hc3 => ?_) (fun hc3 => ?_)
      · have hlt : i < l.length := by simpa using hc3
        obtain ⟨d, hd⟩ := getL hlt
        have hod := ho d (List.mem_of_getElem? hd)
        have hsz : s.size ≤ 8192000229384 := by
          rw [hs, ByteArray.size_append]; have := take_size ho hlen2 i; omega
        have hfs := factB_size d hod
        refine wSkip ?_
        refine wSeq ?_
        refine wBlock ?_
        refine wReg ?_
        refine sP rfl rfl rfl (pM rfl rfl) ?_
        refine sP rfl rfl rfl (pMs rfl rfl) ?_
        refine sP rfl rfl rfl (pM rfl rfl) ?_
        refine sP rfl rfl rfl (pIdx i rfl rfl Try.underlying26 ty87 (by decide) rfl (fun _ => rfl) rfl rfl hd) ?_
        refine sP rfl rfl rfl (pLdE rfl rfl ty87 rfl) ?_
        refine sP rfl rfl rfl (p_call rfl (rput_p d (ho d (List.mem_of_getElem? hd))) ⟨Sub.refl, trivial⟩) ?_
        refine sP rfl rfl rfl (p_sadd rfl rfl rfl (by omega)) ?_
        refine sP rfl rfl rfl (pA rfl rfl) ?_
        refine lNil ?_
        refine wReg ?_
        refine sP rfl rfl rfl (pM rfl rfl) ?_
        refine sP rfl rfl rfl (p_iar rfl rfl rfl rfl) ?_
        refine sP rfl rfl rfl (pA rfl rfl) ?_
        refine lNil ?_
        refine ⟨_, _, [], [], ?_, ⟨i + 1, _, rfl, hlt, ?_, rfl, rfl⟩, ⟨rfl, rfl, avI (wrapI (by omega) (by omega)), trivial⟩, rfl⟩
        · omega
        · rw [hs]; exact factsB_take hd _
      · have hge : i = l.length := by
          have h : ¬ i < l.length := by simpa using hc3
          omega
        subst hge
        rw [List.take_length] at hs
        refine wExit ?_
        refine wSeq ?_
        refine wReg ?_
        refine sP rfl rfl rfl (pM rfl rfl) ?_
        refine sP rfl rfl rfl (pA rfl rfl) ?_
        refine sP rfl rfl rfl (pA rfl rfl) ?_
        refine lNil ?_
        refine wRet ?_
        subst hs
        exact rgs2 (rg_tmp (gives_sub (Sub.of_eq (avS (fputS_ok hz).symm)))) (rg_tmp (gives_sub (Sub.of_eq (avI hz.symm))))
set_option maxHeartbeats 4000000 in
set_option maxRecDepth 100000 in
theorem rtake_p (st : ByteArray × Int) (hs : st.1.size < 9223372036854775807) : PFn Try.prog False 106 [rA st] (.tup [rA (rdF st).2, fA (rdF st).1]) := by
  refine pfn Try.func106 rfl (by kernel_rfl) 58 rfl _ rfl (Nat.le_of_ble_eq_true rfl) (fun X w0 => ?_)
  obtain ⟨z1, z2, z3, z4, z5, z6, z7⟩ := rF7_size st
  refine wSeq ?_
  refine wReg ?_
  refine sBox rfl rfl rfl rfl rfl (fun g1 => ?_)
  refine sAlloc rfl rfl rfl rfl ze127 (fun g2 => ?_)
  refine sAlloc rfl rfl rfl rfl ze87 (fun g3 => ?_)
  refine lNil ?_
  refine wSeq ?_
  refine wReg ?_
  refine sP rfl rfl rfl (pLdW 0 rfl rfl rfl ty127 rfl) ?_
  refine sP rfl rfl rfl (p_call rfl (rrnum_p st (by omega)) ⟨Sub.refl, trivial⟩) ?_
  refine sP rfl rfl rfl (pMt rfl rfl) ?_
  refine sP rfl rfl rfl (p_extract rfl rfl rfl) ?_
  refine sP rfl rfl rfl (p_extract rfl rfl rfl) ?_
  refine sStore 0 rfl rfl rfl rfl rfl ty127 rfl rfl rfl (Nat.le_of_ble_eq_true rfl) ?_
  refine sP rfl rfl rfl (pA rfl rfl) ?_
  refine lNil ?_
  refine wKeep [(1, .x (.pointer (some ⟨g1, 0, none⟩))), (2, .x (.pointer (some ⟨g2, 0, none⟩))), (3, .x (.pointer (some ⟨g3, 0, none⟩))), (4, iA ((rdN st).1 : Nat))] [.cells g1 127 [sA (rF1 st).1, iA (rF1 st).2], .cells g2 127 [sA ⟨#[]⟩, iA 0], .cells g3 87 (encF ((0, 0), (0, 0, 0), 0, ⟨#[]⟩, ⟨#[]⟩))] [] ⟨rfl, rfl, rfl, rfl, trivial⟩ rfl ?_
  refine wSeq ?_
  refine wReg ?_
  refine sP rfl rfl rfl (pLdW 0 rfl rfl rfl ty127 rfl) ?_
  refine sP rfl rfl rfl (p_call rfl (rrnum_p (rF1 st) (by omega)) ⟨Sub.refl, trivial⟩) ?_
  refine sP rfl rfl rfl (pMt rfl rfl) ?_
  refine sP rfl rfl rfl (p_extract rfl rfl rfl) ?_
  refine sP rfl rfl rfl (p_extract rfl rfl rfl) ?_
  refine sStore 0 rfl rfl rfl rfl rfl ty127 rfl rfl rfl (Nat.le_of_ble_eq_true rfl) ?_
  refine sP rfl rfl rfl (pA rfl rfl) ?_
  refine lNil ?_
  refine wKeep [(1, .x (.pointer (some ⟨g1, 0, none⟩))), (2, .x (.pointer (some ⟨g2, 0, none⟩))), (3, .x (.pointer (some ⟨g3, 0, none⟩))), (4, iA ((rdN st).1 : Nat)), (5, iA ((rdN (rF1 st)).1 : Nat))] [.cells g1 127 [sA (rF2 st).1, iA (rF2 st).2], .cells g2 127 [sA ⟨#[]⟩, iA 0], .cells g3 87 (encF ((0, 0), (0, 0, 0), 0, ⟨#[]⟩, ⟨#[]⟩))] [] ⟨rfl, rfl, rfl, rfl, rfl, trivial⟩ rfl ?_
  refine wSeq ?_
  refine wReg ?_
  refine sP rfl rfl rfl (pLdW 0 rfl rfl rfl ty127 rfl) ?_
  refine sP rfl rfl rfl (p_call rfl (rrnum_p (rF2 st) (by omega)) ⟨Sub.refl, trivial⟩) ?_
  refine sP rfl rfl rfl (pMt rfl rfl) ?_
  refine sP rfl rfl rfl (p_extract rfl rfl rfl) ?_
  refine sP rfl rfl rfl (p_extract rfl rfl rfl) ?_
  refine sStore 0 rfl rfl rfl rfl rfl ty127 rfl rfl rfl (Nat.le_of_ble_eq_true rfl) ?_
  refine sP rfl rfl rfl (pA rfl rfl) ?_
  refine lNil ?_
  refine wKeep [(1, .x (.pointer (some ⟨g1, 0, none⟩))), (2, .x (.pointer (some ⟨g2, 0, none⟩))), (3, .x (.pointer (some ⟨g3, 0, none⟩))), (4, iA ((rdN st).1 : Nat)), (5, iA ((rdN (rF1 st)).1 : Nat)), (6, iA ((rdN (rF2 st)).1 : Nat))] [.cells g1 127 [sA (rF3 st).1, iA (rF3 st).2], .cells g2 127 [sA ⟨#[]⟩, iA 0], .cells g3 87 (encF ((0, 0), (0, 0, 0), 0, ⟨#[]⟩, ⟨#[]⟩))] [] ⟨rfl, rfl, rfl, rfl, rfl, rfl, trivial⟩ rfl ?_
  refine wSeq ?_
  refine wReg ?_
  refine sP rfl rfl rfl (pLdW 0 rfl rfl rfl ty127 rfl) ?_
  refine sP rfl rfl rfl (p_call rfl (rrnum_p (rF3 st) (by omega)) ⟨Sub.refl, trivial⟩) ?_
  refine sP rfl rfl rfl (pMt rfl rfl) ?_
  refine sP rfl rfl rfl (p_extract rfl rfl rfl) ?_
  refine sP rfl rfl rfl (p_extract rfl rfl rfl) ?_
  refine sStore 0 rfl rfl rfl rfl rfl ty127 rfl rfl rfl (Nat.le_of_ble_eq_true rfl) ?_
  refine sP rfl rfl rfl (pA rfl rfl) ?_
  refine lNil ?_
  refine wKeep [(1, .x (.pointer (some ⟨g1, 0, none⟩))), (2, .x (.pointer (some ⟨g2, 0, none⟩))), (3, .x (.pointer (some ⟨g3, 0, none⟩))), (4, iA ((rdN st).1 : Nat)), (5, iA ((rdN (rF1 st)).1 : Nat)), (6, iA ((rdN (rF2 st)).1 : Nat)), (7, iA ((rdN (rF3 st)).1 : Nat))] [.cells g1 127 [sA (rF4 st).1, iA (rF4 st).2], .cells g2 127 [sA ⟨#[]⟩, iA 0], .cells g3 87 (encF ((0, 0), (0, 0, 0), 0, ⟨#[]⟩, ⟨#[]⟩))] [] ⟨rfl, rfl, rfl, rfl, rfl, rfl, rfl, trivial⟩ rfl ?_
  refine wSeq ?_
  refine wReg ?_
  refine sP rfl rfl rfl (pLdW 0 rfl rfl rfl ty127 rfl) ?_
  refine sP rfl rfl rfl (p_call rfl (rrnum_p (rF4 st) (by omega)) ⟨Sub.refl, trivial⟩) ?_
  refine sP rfl rfl rfl (pMt rfl rfl) ?_
  refine sP rfl rfl rfl (p_extract rfl rfl rfl) ?_
  refine sP rfl rfl rfl (p_extract rfl rfl rfl) ?_
  refine sStore 0 rfl rfl rfl rfl rfl ty127 rfl rfl rfl (Nat.le_of_ble_eq_true rfl) ?_
  refine sP rfl rfl rfl (pA rfl rfl) ?_
  refine lNil ?_
  refine wKeep [(1, .x (.pointer (some ⟨g1, 0, none⟩))), (2, .x (.pointer (some ⟨g2, 0, none⟩))), (3, .x (.pointer (some ⟨g3, 0, none⟩))), (4, iA ((rdN st).1 : Nat)), (5, iA ((rdN (rF1 st)).1 : Nat)), (6, iA ((rdN (rF2 st)).1 : Nat)), (7, iA ((rdN (rF3 st)).1 : Nat)), (8, iA ((rdN (rF4 st)).1 : Nat))] [.cells g1 127 [sA (rF5 st).1, iA (rF5 st).2], .cells g2 127 [sA ⟨#[]⟩, iA 0], .cells g3 87 (encF ((0, 0), (0, 0, 0), 0, ⟨#[]⟩, ⟨#[]⟩))] [] ⟨rfl, rfl, rfl, rfl, rfl, rfl, rfl, rfl, trivial⟩ rfl ?_
  refine wSeq ?_
  refine wReg ?_
  refine sP rfl rfl rfl (pLdW 0 rfl rfl rfl ty127 rfl) ?_
  refine sP rfl rfl rfl (p_call rfl (rrtext_p (rF5 st) (by omega)) ⟨Sub.refl, trivial⟩) ?_
  refine sP rfl rfl rfl (pMt rfl rfl) ?_
  refine sP rfl rfl rfl (p_extract rfl rfl rfl) ?_
  refine sP rfl rfl rfl (p_extract rfl rfl rfl) ?_
  refine sStore 0 rfl rfl rfl rfl rfl ty127 rfl rfl rfl (Nat.le_of_ble_eq_true rfl) ?_
  refine sP rfl rfl rfl (pA rfl rfl) ?_
  refine lNil ?_
  refine wKeep [(1, .x (.pointer (some ⟨g1, 0, none⟩))), (2, .x (.pointer (some ⟨g2, 0, none⟩))), (3, .x (.pointer (some ⟨g3, 0, none⟩))), (4, iA ((rdN st).1 : Nat)), (5, iA ((rdN (rF1 st)).1 : Nat)), (6, iA ((rdN (rF2 st)).1 : Nat)), (7, iA ((rdN (rF3 st)).1 : Nat)), (8, iA ((rdN (rF4 st)).1 : Nat)), (9, sA (rdT (rF5 st)).1)] [.cells g1 127 [sA (rF6 st).1, iA (rF6 st).2], .cells g2 127 [sA ⟨#[]⟩, iA 0], .cells g3 87 (encF ((0, 0), (0, 0, 0), 0, ⟨#[]⟩, ⟨#[]⟩))] [] ⟨rfl, rfl, rfl, rfl, rfl, rfl, rfl, rfl, rfl, trivial⟩ rfl ?_
  refine wSeq ?_
  refine wReg ?_
  refine sP rfl rfl rfl (pLdW 0 rfl rfl rfl ty127 rfl) ?_
  refine sP rfl rfl rfl (p_call rfl (rrtext_p (rF6 st) (by omega)) ⟨Sub.refl, trivial⟩) ?_
  refine sP rfl rfl rfl (pMt rfl rfl) ?_
  refine sP rfl rfl rfl (p_extract rfl rfl rfl) ?_
  refine sP rfl rfl rfl (p_extract rfl rfl rfl) ?_
  refine sStore 0 rfl rfl rfl rfl rfl ty127 rfl rfl rfl (Nat.le_of_ble_eq_true rfl) ?_
  refine sP rfl rfl rfl (pA rfl rfl) ?_
  refine lNil ?_
  refine wKeep [(1, .x (.pointer (some ⟨g1, 0, none⟩))), (2, .x (.pointer (some ⟨g2, 0, none⟩))), (3, .x (.pointer (some ⟨g3, 0, none⟩))), (4, iA ((rdN st).1 : Nat)), (5, iA ((rdN (rF1 st)).1 : Nat)), (6, iA ((rdN (rF2 st)).1 : Nat)), (7, iA ((rdN (rF3 st)).1 : Nat)), (8, iA ((rdN (rF4 st)).1 : Nat)), (9, sA (rdT (rF5 st)).1), (10, sA (rdT (rF6 st)).1)] [.cells g1 127 [sA (rF7 st).1, iA (rF7 st).2], .cells g2 127 [sA ⟨#[]⟩, iA 0], .cells g3 87 (encF ((0, 0), (0, 0, 0), 0, ⟨#[]⟩, ⟨#[]⟩))] [] ⟨rfl, rfl, rfl, rfl, rfl, rfl, rfl, rfl, rfl, rfl, trivial⟩ rfl ?_
  refine wSeq ?_
  refine wReg ?_
  refine sP rfl rfl rfl (pLdW 0 rfl rfl rfl ty127 rfl) ?_
  refine sP rfl rfl rfl (pM rfl rfl) ?_
  refine sP rfl rfl rfl (pM rfl rfl) ?_
  refine sP rfl rfl rfl (p_build (res := [iA ((rdN st).1 : Nat), iA ((rdN (rF1 st)).1 : Nat)]) rfl ze23 pl23 rfl rfl) ?_
  refine sP rfl rfl rfl (pM rfl rfl) ?_
  refine sP rfl rfl rfl (pM rfl rfl) ?_
  refine sP rfl rfl rfl (pM rfl rfl) ?_
  refine sP rfl rfl rfl (p_build (res := [iA ((rdN (rF2 st)).1 : Nat), iA ((rdN (rF3 st)).1 : Nat), iA ((rdN st).1 : Nat)]) rfl ze25 pl25 rfl rfl) ?_
  refine sP rfl rfl rfl (pM rfl rfl) ?_
  refine sP rfl rfl rfl (pM rfl rfl) ?_
  refine sP rfl rfl rfl (pM rfl rfl) ?_
  refine sP rfl rfl rfl (p_build (res := encF (rdF st).1) rfl ze87 pl87 rfl rfl) ?_
  refine sStore 1 rfl rfl rfl rfl rfl ty127 rfl rfl rfl (Nat.le_of_ble_eq_true rfl) ?_
  refine sStore 2 rfl rfl rfl rfl rfl ty87 rfl rfl rfl (Nat.le_of_ble_eq_true rfl) ?_
  refine lNil ?_
  refine wRet ?_
  exact rgs2 (rg_cell rfl (List.mem_of_getElem? (i := 1) rfl) ty127 (.inl ⟨rfl, Nat.le_refl _, rfl⟩) (gives_sub Sub.refl)) (rg_cell rfl (List.mem_of_getElem? (i := 2) rfl) ty87 (.inl ⟨rfl, Nat.le_refl _, rfl⟩) (gives_sub Sub.refl))
end Go.Proofs.Ytmhkalalcmkpbaa
