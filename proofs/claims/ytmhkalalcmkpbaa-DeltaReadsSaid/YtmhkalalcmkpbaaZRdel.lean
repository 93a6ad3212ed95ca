/-
  Rdel
-/
import Derived.Test.YtmhkalalcmkpbaaZDel3
namespace Go.Proofs.Ytmhkalalcmkpbaa
open Go Go.RowKit
set_option linter.unusedVariables false
set_option linter.unusedSimpArgs false

theorem sameF_cases (d : DeltaT) (f : FactT) : (f.1 ≠ d.1 ∧ sameF d f = false) ∨ (f.1 = d.1 ∧ f.2.1 ≠ d.2.1 ∧ sameF d f = false) ∨ (f.1 = d.1 ∧ f.2.1 = d.2.1 ∧ sameF d f = true) := by
  unfold sameF
  by_cases h1 : f.1 = d.1
  · by_cases h2 : f.2.1 = d.2.1
    · exact .inr (.inr ⟨h1, h2, by rw [decide_eq_true h1, decide_eq_true h2]; rfl⟩)
    · exact .inr (.inl ⟨h1, h2, by rw [decide_eq_false h2]; simp⟩)
  · exact .inl ⟨h1, by rw [decide_eq_false h1]; rfl⟩
theorem dfacts_same {d : DeltaT} {i : Nat} {f : FactT} (h0 : ∀ (j : Nat) y, d.2.2.1[j]? = some y → chkF y = 0) (hf : d.2.2.1[i]? = some f) (h : sameF d f = false) : dfactsE d = 5 := dfacts_form h0 hf (by unfold badF; rw [h]; rfl)
theorem dfacts_may {d : DeltaT} (h0 : ∀ (j : Nat) y, d.2.2.1[j]? = some y → chkF y = 0) (h1 : ∀ (j : Nat) y, d.2.2.1[j]? = some y → sameF d y = true) : dfactsE d = mayG chkF ltF d.2.2.1 := by
  have e : d.2.2.1.all (sameF d) = true := List.all_eq_true.2 fun f hf => by obtain ⟨j, hj⟩ := List.mem_iff_getElem?.1 hf; exact h1 j f hj
  unfold dfactsE mayG
  rw [e, Bool.true_and]
theorem dgone_1 {d : DeltaT} (h : mayG chk ltD d.2.2.2 ≠ 0) : dgoneE d = mayG chk ltD d.2.2.2 := if_pos h
theorem dgone_2 {d : DeltaT} (h : mayG chk ltD d.2.2.2 = 0) (hm : d.1 ∈ d.2.2.2) : dgoneE d = 5 := by unfold dgoneE; rw [if_neg (by simpa using h), if_pos hm]
theorem dgone_3 {d : DeltaT} (h : mayG chk ltD d.2.2.2 = 0) (hm : d.1 ∉ d.2.2.2) : dgoneE d = 0 := by unfold dgoneE; rw [if_neg (by simpa using h), if_neg hm]

set_option maxRecDepth 100000 in
theorem rdfacts_p (d : DeltaT) (ok : OkD d) : PFn Try.prog False 76 [dlA d] (iA (dfactsE d)) := by
  refine pfn Try.func76 rfl (by kernel_rfl) 52 rfl _ rfl (Nat.le_of_ble_eq_true rfl) (fun X w0 => ?_)
  have hnf := ok.nf
  refine wSeq ?_
  refine wReg ?_  -- region 0
  refine sBox rfl rfl rfl rfl rfl (fun g1 => ?_)  -- t1 := box t0
  refine sP rfl rfl rfl (pA rfl rfl) ?_  -- t2 := assign c
  refine lNil ?_
  refine wSeq ?_
  refine wSeq ?_
  refine wReg ?_  -- region 1
  refine sP rfl rfl rfl (pA rfl rfl) ?_  -- t3 := assign c
  refine lNil ?_
  refine wBlock ?_
  refine wLoop (fun mm L h => ∃ i, mm = d.2.2.1.length - i ∧ i ≤ d.2.2.1.length ∧ (∀ j y, j < i → d.2.2.1[j]? = some y → chkF y = 0) ∧ L = [(1, .x (.pointer (some ⟨g1, 0, none⟩))), (3, iA (i : Nat))] ∧ h = [.cells g1 29 (encDl d)]) ⟨_, _, _, _, ⟨0, rfl, Nat.zero_le _, fun j y hj => absurd hj (by omega), rfl, rfl⟩, ⟨rfl, rfl, trivial⟩, rfl⟩ ?_
  rintro mm L h ⟨i, rfl, hi, h0, rfl, rfl⟩
  refine wSeq ?_
  refine wSeq ?_
  refine wReg ?_  -- region 2
  refine sP rfl rfl rfl (pM rfl rfl) ?_  -- t6 := move t3
  refine sP rfl rfl rfl (p_fieldAddr_own rfl rfl fl29_2 ty26 (by decide)) ?_  -- t7 := fieldAddr t1
  refine sP rfl rfl rfl (pLdO1 0 rfl rfl rfl ty26 rfl) ?_  -- t8 := load t7
  refine sP rfl rfl rfl (p_len_sl rfl rfl Try.underlying26) ?_  -- t9 := call   -- t8
  refine sP rfl rfl rfl (p_icmp rfl rfl rfl rfl) ?_  -- t10 := binOp t6 t9
  refine lNil ?_
  refine wCond rfl (fun hc1 => ?_) (fun hc1 => ?_)  -- t10
  · have hlt : i < d.2.2.1.length := by simpa using hc1
    obtain ⟨f, hd⟩ := getL hlt
    refine wSkip ?_
    refine wSeq ?_
    refine wBlock ?_
    refine wSeq ?_
    refine wReg ?_  -- region 4
    refine sP rfl rfl rfl (p_fieldAddr_own rfl rfl fl29_2 ty26 (by decide)) ?_  -- t13 := fieldAddr t1
    refine sP rfl rfl rfl (pLdO1 0 rfl rfl rfl ty26 rfl) ?_  -- t14 := load t13
    refine sP rfl rfl rfl (pM rfl rfl) ?_  -- t15 := move t3
    refine sP rfl rfl rfl (pIdx i rfl rfl Try.underlying26 ty87 (by decide) rfl (fun _ => rfl) rfl rfl hd) ?_  -- t16 := indexAddr t14 t15
    refine sP rfl rfl rfl (pLdE rfl rfl ty87 rfl) ?_  -- t17 := load t16
    refine sP rfl rfl rfl (p_call rfl (rfcheck_p f (ok.of f (List.mem_of_getElem? hd))) ⟨Sub.refl, trivial⟩) ?_  -- t18 := call   -- t17
    refine sP rfl rfl rfl (pA rfl rfl) ?_  -- t4 := assign t18
    refine lNil ?_
    refine wSeq ?_
    refine wReg ?_  -- region 5
    refine sP rfl rfl rfl (pM rfl rfl) ?_  -- t19 := move t4
    refine sP rfl rfl rfl (p_icmp rfl rfl rfl rfl) ?_  -- t20 := binOp t19 c
    refine lNil ?_
    refine wCond rfl (fun hc2 => ?_) (fun hc2 => ?_)  -- t20
    · refine wSeq ?_
      refine wReg ?_  -- region 6
      refine sP rfl rfl rfl (pM rfl rfl) ?_  -- t21 := move t4
      refine sP rfl rfl rfl (pA rfl rfl) ?_  -- t2 := assign t21
      refine lNil ?_
      refine wRet ?_
      have hne : chkF f ≠ 0 := by simpa using hc2
      exact rgs1 (rg_tmp (gives_sub (Sub.of_eq (avI (dfacts_chk h0 hd hne).symm))))
    · refine wSkip ?_
      refine wReg ?_  -- region 3
      refine sP rfl rfl rfl (pM rfl rfl) ?_  -- t11 := move t3
      refine sP rfl rfl rfl (p_iar rfl rfl rfl rfl) ?_  -- t12 := binOp t11 c
      refine sP rfl rfl rfl (pA rfl rfl) ?_  -- t3 := assign t12
      refine lNil ?_
      have he : chkF f = 0 := by simpa using hc2
      refine ⟨_, _, [.cells g1 29 (encDl d)], _, ?_, ⟨i + 1, rfl, hlt, fun j y hj hy => ?_, rfl, rfl⟩, ⟨rfl, avI (wrapI (by omega) (by omega)), trivial⟩, rfl⟩
      · omega
      · rcases Nat.lt_or_ge j i with h | h
        · exact h0 j y h hy
        · obtain rfl : j = i := by omega
          rw [hd] at hy; injection hy with hy; rw [← hy]; exact he
  · have hge : i = d.2.2.1.length := by
      have h : ¬ i < d.2.2.1.length := by simpa using hc1
      omega
    rw [hge] at h0
    clear hge hi
    replace h0 : ∀ (j : Nat) y, d.2.2.1[j]? = some y → chkF y = 0 := fun j y hy => h0 j y (List.getElem?_eq_some_iff.1 hy).1 hy
    refine wExit ?_
    refine wSeq ?_
    refine wSeq ?_
    refine wReg ?_  -- region 7
    refine sP rfl rfl rfl (pA rfl rfl) ?_  -- t5 := assign c
    refine lNil ?_
    refine wBlock ?_
    refine wLoop (fun mm L h => ∃ i, mm = d.2.2.1.length - i ∧ i ≤ d.2.2.1.length ∧ (∀ j y, j < i → d.2.2.1[j]? = some y → sameF d y = true) ∧ L = [(1, .x (.pointer (some ⟨g1, 0, none⟩))), (5, iA (i : Nat))] ∧ h = [.cells g1 29 (encDl d)]) ⟨_, _, _, _, ⟨0, rfl, Nat.zero_le _, fun j y hj => absurd hj (by omega), rfl, rfl⟩, ⟨rfl, rfl, trivial⟩, rfl⟩ ?_
    rintro mm L h ⟨i, rfl, hi, h1, rfl, rfl⟩
    refine wSeq ?_
    refine wSeq ?_
    refine wReg ?_  -- region 8
    refine sP rfl rfl rfl (pM rfl rfl) ?_  -- t22 := move t5
    refine sP rfl rfl rfl (p_fieldAddr_own rfl rfl fl29_2 ty26 (by decide)) ?_  -- t23 := fieldAddr t1
    refine sP rfl rfl rfl (pLdO1 0 rfl rfl rfl ty26 rfl) ?_  -- t24 := load t23
    refine sP rfl rfl rfl (p_len_sl rfl rfl Try.underlying26) ?_  -- t25 := call   -- t24
    refine sP rfl rfl rfl (p_icmp rfl rfl rfl rfl) ?_  -- t26 := binOp t22 t25
    refine lNil ?_
    refine wCond rfl (fun hc3 => ?_) (fun hc3 => ?_)  -- t26
    · have hlt : i < d.2.2.1.length := by simpa using hc3
      obtain ⟨f, hd⟩ := getL hlt
      refine wSkip ?_
      refine wSeq ?_
      refine wBlock ?_
      refine wCut (fun L h => ∃ b : Bool, b = (!sameF d f) ∧ L = [(1, .x (.pointer (some ⟨g1, 0, none⟩))), (5, iA (i : Nat)), (48, bA b)] ∧ h = [.cells g1 29 (encDl d)]) ?_ ?_
      · rcases sameF_cases d f with ⟨e1, hbv⟩ | ⟨e1, e2, hbv⟩ | ⟨e1, e2, hbv⟩
        · refine wDraw 20 (by kernel_rfl) (by kernel_rfl) ?_  -- region 10
          refine sP rfl rfl rfl (p_fieldAddr_own rfl rfl fl29_2 ty26 (by decide)) ?_  -- t29 := fieldAddr t1
          refine sP rfl rfl rfl (pLdO1 0 rfl rfl rfl ty26 rfl) ?_  -- t30 := load t29
          refine sP rfl rfl rfl (pM rfl rfl) ?_  -- t31 := move t5
          refine sP rfl rfl rfl (pIdx i rfl rfl Try.underlying26 ty87 (by decide) rfl (fun _ => rfl) rfl rfl hd) ?_  -- t32 := indexAddr t30 t31
          refine sP rfl rfl rfl (p_fieldAddr_ip rfl rfl fl87_0 ty23 (by decide)) ?_  -- t33 := fieldAddr t32
          refine sP rfl rfl rfl (pLdE (cs := [iA f.1.1, iA f.1.2]) rfl rfl ty23 rfl) ?_  -- t34 := load t33
          refine sP rfl rfl rfl (p_fieldAddr_own rfl rfl fl29_0 ty23 (by decide)) ?_  -- t35 := fieldAddr t1
          refine sP rfl rfl rfl (pLdO 0 rfl rfl rfl ty23 (Nat.le_of_ble_eq_true rfl) rfl) ?_  -- t36 := load t35
          refine sP rfl rfl rfl (p_nes (r := false) rfl rfl rfl rfl rfl guardD (fun w => eqD_f (d := 9998) (a := f.1) (b := d.1) e1)) ?_  -- t37 := binOp t34 t36
          refine sP rfl rfl rfl (pM rfl rfl) ?_  -- t38 := move t37
          refine sUx rfl rfl rfl (by decide) rfl rfl ?_  -- t39
          refine sUx rfl rfl rfl (by decide) rfl rfl ?_  -- t40
          refine sUx rfl rfl rfl (by decide) rfl rfl ?_  -- t41
          refine sUx rfl rfl rfl (by decide) rfl rfl ?_  -- t42
          refine sUx rfl rfl rfl (by decide) rfl rfl ?_  -- t43
          refine sUx rfl rfl rfl (by decide) rfl rfl ?_  -- t44
          refine sUx rfl rfl rfl (by decide) rfl rfl ?_  -- t45
          refine sUx rfl rfl rfl (by decide) rfl rfl ?_  -- t46
          refine sUx rfl rfl rfl (by decide) rfl rfl ?_  -- t47
          refine sP rfl rfl rfl (p_pick rfl rfl rfl) ?_  -- t48 := pick t38 c t47
          refine lTail ?_
          refine lNil ?_
          exact ⟨_, [.cells g1 29 (encDl d)], _, ⟨_, (by exact (by simp [hbv])), rfl, rfl⟩, ⟨rfl, rfl, rfl, trivial⟩, rfl⟩
        · refine wDraw 20 (by kernel_rfl) (by kernel_rfl) ?_  -- region 10
          refine sP rfl rfl rfl (p_fieldAddr_own rfl rfl fl29_2 ty26 (by decide)) ?_  -- t29 := fieldAddr t1
          refine sP rfl rfl rfl (pLdO1 0 rfl rfl rfl ty26 rfl) ?_  -- t30 := load t29
          refine sP rfl rfl rfl (pM rfl rfl) ?_  -- t31 := move t5
          refine sP rfl rfl rfl (pIdx i rfl rfl Try.underlying26 ty87 (by decide) rfl (fun _ => rfl) rfl rfl hd) ?_  -- t32 := indexAddr t30 t31
          refine sP rfl rfl rfl (p_fieldAddr_ip rfl rfl fl87_0 ty23 (by decide)) ?_  -- t33 := fieldAddr t32
          refine sP rfl rfl rfl (pLdE (cs := [iA f.1.1, iA f.1.2]) rfl rfl ty23 rfl) ?_  -- t34 := load t33
          refine sP rfl rfl rfl (p_fieldAddr_own rfl rfl fl29_0 ty23 (by decide)) ?_  -- t35 := fieldAddr t1
          refine sP rfl rfl rfl (pLdO 0 rfl rfl rfl ty23 (Nat.le_of_ble_eq_true rfl) rfl) ?_  -- t36 := load t35
          refine sP rfl rfl rfl (p_nes (r := true) rfl rfl rfl rfl rfl guardD (fun w => eqD_t (d := 9998) (a := f.1) (b := d.1) e1)) ?_  -- t37 := binOp t34 t36
          refine sP rfl rfl rfl (pM rfl rfl) ?_  -- t38 := move t37
          refine sG rfl rfl rfl rfl rfl (p_fieldAddr_own rfl rfl fl29_2 ty26 (by decide)) ?_  -- t39 := fieldAddr t1   GUARD ['9', 'false']
          refine sG rfl rfl rfl rfl rfl (pLdO1 0 rfl rfl rfl ty26 rfl) ?_  -- t40 := load t39   GUARD ['9', 'false']
          refine sG rfl rfl rfl rfl rfl (pM rfl rfl) ?_  -- t41 := move t5   GUARD ['9', 'false']
          refine sG rfl rfl rfl rfl rfl (pIdx i rfl rfl Try.underlying26 ty87 (by decide) rfl (fun _ => rfl) rfl rfl hd) ?_  -- t42 := indexAddr t40 t41   GUARD ['9', 'false']
          refine sG rfl rfl rfl rfl rfl (p_fieldAddr_ip rfl rfl fl87_1 ty25 (by decide)) ?_  -- t43 := fieldAddr t42   GUARD ['9', 'false']
          refine sG rfl rfl rfl rfl rfl (pLdE (cs := [iA f.2.1.1, iA f.2.1.2.1, iA f.2.1.2.2]) rfl rfl ty25 rfl) ?_  -- t44 := load t43   GUARD ['9', 'false']
          refine sG rfl rfl rfl rfl rfl (p_fieldAddr_own rfl rfl fl29_1 ty25 (by decide)) ?_  -- t45 := fieldAddr t1   GUARD ['9', 'false']
          refine sG rfl rfl rfl rfl rfl (pLdO 0 rfl rfl rfl ty25 (Nat.le_of_ble_eq_true rfl) rfl) ?_  -- t46 := load t45   GUARD ['9', 'false']
          refine sG rfl rfl rfl rfl rfl (p_nes (r := false) rfl rfl rfl rfl rfl guardW (fun w => eqW_f (d := 9998) (a := f.2.1) (b := d.2.1) e2)) ?_  -- t47 := binOp t44 t46   GUARD ['9', 'false']
          refine sP rfl rfl rfl (p_pick rfl rfl rfl) ?_  -- t48 := pick t38 c t47
          refine lTail ?_
          refine lNil ?_
          exact ⟨_, [.cells g1 29 (encDl d)], _, ⟨_, (by exact (by simp [hbv])), rfl, rfl⟩, ⟨rfl, rfl, rfl, trivial⟩, rfl⟩
        · refine wDraw 20 (by kernel_rfl) (by kernel_rfl) ?_  -- region 10
          refine sP rfl rfl rfl (p_fieldAddr_own rfl rfl fl29_2 ty26 (by decide)) ?_  -- t29 := fieldAddr t1
          refine sP rfl rfl rfl (pLdO1 0 rfl rfl rfl ty26 rfl) ?_  -- t30 := load t29
          refine sP rfl rfl rfl (pM rfl rfl) ?_  -- t31 := move t5
          refine sP rfl rfl rfl (pIdx i rfl rfl Try.underlying26 ty87 (by decide) rfl (fun _ => rfl) rfl rfl hd) ?_  -- t32 := indexAddr t30 t31
          refine sP rfl rfl rfl (p_fieldAddr_ip rfl rfl fl87_0 ty23 (by decide)) ?_  -- t33 := fieldAddr t32
          refine sP rfl rfl rfl (pLdE (cs := [iA f.1.1, iA f.1.2]) rfl rfl ty23 rfl) ?_  -- t34 := load t33
          refine sP rfl rfl rfl (p_fieldAddr_own rfl rfl fl29_0 ty23 (by decide)) ?_  -- t35 := fieldAddr t1
          refine sP rfl rfl rfl (pLdO 0 rfl rfl rfl ty23 (Nat.le_of_ble_eq_true rfl) rfl) ?_  -- t36 := load t35
          refine sP rfl rfl rfl (p_nes (r := true) rfl rfl rfl rfl rfl guardD (fun w => eqD_t (d := 9998) (a := f.1) (b := d.1) e1)) ?_  -- t37 := binOp t34 t36
          refine sP rfl rfl rfl (pM rfl rfl) ?_  -- t38 := move t37
          refine sG rfl rfl rfl rfl rfl (p_fieldAddr_own rfl rfl fl29_2 ty26 (by decide)) ?_  -- t39 := fieldAddr t1   GUARD ['9', 'false']
          refine sG rfl rfl rfl rfl rfl (pLdO1 0 rfl rfl rfl ty26 rfl) ?_  -- t40 := load t39   GUARD ['9', 'false']
          refine sG rfl rfl rfl rfl rfl (pM rfl rfl) ?_  -- t41 := move t5   GUARD ['9', 'false']
          refine sG rfl rfl rfl rfl rfl (pIdx i rfl rfl Try.underlying26 ty87 (by decide) rfl (fun _ => rfl) rfl rfl hd) ?_  -- t42 := indexAddr t40 t41   GUARD ['9', 'false']
          refine sG rfl rfl rfl rfl rfl (p_fieldAddr_ip rfl rfl fl87_1 ty25 (by decide)) ?_  -- t43 := fieldAddr t42   GUARD ['9', 'false']
          refine sG rfl rfl rfl rfl rfl (pLdE (cs := [iA f.2.1.1, iA f.2.1.2.1, iA f.2.1.2.2]) rfl rfl ty25 rfl) ?_  -- t44 := load t43   GUARD ['9', 'false']
          refine sG rfl rfl rfl rfl rfl (p_fieldAddr_own rfl rfl fl29_1 ty25 (by decide)) ?_  -- t45 := fieldAddr t1   GUARD ['9', 'false']
          refine sG rfl rfl rfl rfl rfl (pLdO 0 rfl rfl rfl ty25 (Nat.le_of_ble_eq_true rfl) rfl) ?_  -- t46 := load t45   GUARD ['9', 'false']
          refine sG rfl rfl rfl rfl rfl (p_nes (r := true) rfl rfl rfl rfl rfl guardW (fun w => eqW_t (d := 9998) (a := f.2.1) (b := d.2.1) e2)) ?_  -- t47 := binOp t44 t46   GUARD ['9', 'false']
          refine sP rfl rfl rfl (p_pick rfl rfl rfl) ?_  -- t48 := pick t38 c t47
          refine lTail ?_
          refine lNil ?_
          exact ⟨_, [.cells g1 29 (encDl d)], _, ⟨_, (by exact (by simp [hbv])), rfl, rfl⟩, ⟨rfl, rfl, rfl, trivial⟩, rfl⟩
      · rintro L h ⟨b, hb, rfl, rfl⟩
        refine wCond rfl (fun hc4 => ?_) (fun hc4 => ?_)  -- t48
        · refine wSeq ?_
          refine wReg ?_  -- region 11
          refine sP rfl rfl rfl (pA rfl rfl) ?_  -- t2 := assign c
          refine lNil ?_
          refine wRet ?_
          have hbad : sameF d f = false := by have := hb.symm.trans hc4; simpa using this
          exact rgs1 (rg_tmp (gives_sub (Sub.of_eq (avI (dfacts_same h0 hd hbad).symm))))
        · refine wSkip ?_
          refine wReg ?_  -- region 9
          refine sP rfl rfl rfl (pM rfl rfl) ?_  -- t27 := move t5
          refine sP rfl rfl rfl (p_iar rfl rfl rfl rfl) ?_  -- t28 := binOp t27 c
          refine sP rfl rfl rfl (pA rfl rfl) ?_  -- t5 := assign t28
          refine lNil ?_
          have hbad : sameF d f = true := by have := hb.symm.trans hc4; simpa using this
          refine ⟨_, _, [.cells g1 29 (encDl d)], [], ?_, ⟨i + 1, rfl, hlt, fun j y hj hy => ?_, rfl, rfl⟩, ⟨rfl, avI (wrapI (by omega) (by omega)), trivial⟩, rfl⟩
          · omega
          · rcases Nat.lt_or_ge j i with h | h
            · exact h1 j y h hy
            · obtain rfl : j = i := by omega
              rw [hd] at hy; injection hy with hy; rw [← hy]; exact hbad
    · have hge : i = d.2.2.1.length := by
        have h : ¬ i < d.2.2.1.length := by simpa using hc3
        omega
      rw [hge] at h1
      clear hge hi
      refine wExit ?_
      refine wSeq ?_
      refine wReg ?_  -- region 12
      refine sP rfl rfl rfl (p_fieldAddr_own rfl rfl fl29_2 ty26 (by decide)) ?_  -- t49 := fieldAddr t1
      refine sP rfl rfl rfl (pLdO1 0 rfl rfl rfl ty26 rfl) ?_  -- t50 := load t49
      refine sP rfl rfl rfl (p_call rfl (rfchecks_p d.2.2.1 ok.nf ok.of) ⟨Sub.refl, trivial⟩) ?_  -- t51 := call   -- t50
      refine sP rfl rfl rfl (pA rfl rfl) ?_  -- t2 := assign t51
      refine lNil ?_
      refine wRet ?_
      exact rgs1 (rg_tmp (gives_sub (Sub.of_eq (avI (dfacts_may h0 (fun j y hy => h1 j y (List.getElem?_eq_some_iff.1 hy).1 hy)).symm))))
set_option maxRecDepth 100000 in
theorem rdelta_p (d : DeltaT) (ok : OkD d) : PFn Try.prog False 18 [dlA d] (iA (deltaE d)) := by
  refine pfn Try.func18 rfl (by kernel_rfl) 52 rfl _ rfl (Nat.le_of_ble_eq_true rfl) (fun X w0 => ?_)
  refine wSeq ?_
  refine wReg ?_  -- region 0
  refine sBox rfl rfl rfl rfl rfl (fun g1 => ?_)  -- t1 := box t0
  refine sP rfl rfl rfl (pA rfl rfl) ?_  -- t2 := assign c
  refine lNil ?_
  refine wSeq ?_
  refine wSeq ?_
  refine wReg ?_  -- region 1
  refine sP rfl rfl rfl (p_fieldAddr_own rfl rfl fl29_0 ty23 (by decide)) ?_  -- t7 := fieldAddr t1
  refine sP rfl rfl rfl (pLdO 0 rfl rfl rfl ty23 (Nat.le_of_ble_eq_true rfl) rfl) ?_  -- t8 := load t7
  refine sP rfl rfl rfl (p_call rfl (rdcheck_p d.1) ⟨Sub.refl, trivial⟩) ?_  -- t9 := call   -- t8
  refine sP rfl rfl rfl (pA rfl rfl) ?_  -- t3 := assign t9
  refine lNil ?_
  refine wSeq ?_
  refine wReg ?_  -- region 2
  refine sP rfl rfl rfl (pM rfl rfl) ?_  -- t10 := move t3
  refine sP rfl rfl rfl (p_icmp rfl rfl rfl rfl) ?_  -- t11 := binOp t10 c
  refine lNil ?_
  refine wCond rfl (fun hc1 => ?_) (fun hc1 => ?_)  -- t11
  · refine wSeq ?_
    refine wReg ?_  -- region 3
    refine sP rfl rfl rfl (pM rfl rfl) ?_  -- t12 := move t3
    refine sP rfl rfl rfl (pA rfl rfl) ?_  -- t2 := assign t12
    refine lNil ?_
    refine wRet ?_
    have h : chk d.1 ≠ 0 := by simpa using hc1
    exact rgs1 (rg_tmp (gives_sub (Sub.of_eq (avI (deltaE_1 h).symm))))
  · have k1 : chk d.1 = 0 := by simpa using hc1
    refine wSkip ?_
    refine wSeq ?_
    refine wSeq ?_
    refine wReg ?_  -- region 4
    refine sP rfl rfl rfl (p_fieldAddr_own rfl rfl fl29_1 ty25 (by decide)) ?_  -- t13 := fieldAddr t1
    refine sP rfl rfl rfl (pLdO 0 rfl rfl rfl ty25 (Nat.le_of_ble_eq_true rfl) rfl) ?_  -- t14 := load t13
    refine sP rfl rfl rfl (p_call rfl (rscheck_p d.2.1) ⟨Sub.refl, trivial⟩) ?_  -- t15 := call   -- t14
    refine sP rfl rfl rfl (pA rfl rfl) ?_  -- t4 := assign t15
    refine lNil ?_
    refine wSeq ?_
    refine wReg ?_  -- region 5
    refine sP rfl rfl rfl (pM rfl rfl) ?_  -- t16 := move t4
    refine sP rfl rfl rfl (p_icmp rfl rfl rfl rfl) ?_  -- t17 := binOp t16 c
    refine lNil ?_
    refine wCond rfl (fun hc2 => ?_) (fun hc2 => ?_)  -- t17
    · refine wSeq ?_
      refine wReg ?_  -- region 6
      refine sP rfl rfl rfl (pM rfl rfl) ?_  -- t18 := move t4
      refine sP rfl rfl rfl (pA rfl rfl) ?_  -- t2 := assign t18
      refine lNil ?_
      refine wRet ?_
      have h : chkS d.2.1 ≠ 0 := by simpa using hc2
      exact rgs1 (rg_tmp (gives_sub (Sub.of_eq (avI (deltaE_2 k1 h).symm))))
    · have k2 : chkS d.2.1 = 0 := by simpa using hc2
      refine wSkip ?_
      refine wSeq ?_
      refine wSeq ?_
      refine wReg ?_  -- region 7
      refine sP rfl rfl rfl (p_fieldAddr_own rfl rfl fl29_0 ty23 (by decide)) ?_  -- t19 := fieldAddr t1
      refine sP rfl rfl rfl (p_fieldAddr_own rfl rfl fl23_0 ty3 (by decide)) ?_  -- t20 := fieldAddr t19
      refine sP rfl rfl rfl (pLdO1 0 rfl rfl rfl ty3 rfl) ?_  -- t21 := load t20
      refine sP rfl rfl rfl (p_fieldAddr_own rfl rfl fl29_1 ty25 (by decide)) ?_  -- t22 := fieldAddr t1
      refine sP rfl rfl rfl (p_fieldAddr_own rfl rfl fl25_2 ty3 (by decide)) ?_  -- t23 := fieldAddr t22
      refine sP rfl rfl rfl (pLdO1 0 rfl rfl rfl ty3 rfl) ?_  -- t24 := load t23
      refine sP rfl rfl rfl (p_icmp rfl rfl rfl rfl) ?_  -- t25 := binOp t21 t24
      refine lNil ?_
      refine wCond rfl (fun hc3 => ?_) (fun hc3 => ?_)  -- t25
      · refine wSeq ?_
        refine wReg ?_  -- region 8
        refine sP rfl rfl rfl (pA rfl rfl) ?_  -- t2 := assign c
        refine lNil ?_
        refine wRet ?_
        have h : d.1.1 ≠ d.2.1.2.2 := by simpa using hc3
        exact rgs1 (rg_tmp (gives_sub (Sub.of_eq (avI (deltaE_3 k1 k2 h).symm))))
      · have k3 : d.1.1 = d.2.1.2.2 := by simpa using hc3
        refine wSkip ?_
        refine wSeq ?_
        refine wSeq ?_
        refine wReg ?_  -- region 9
        refine sP rfl rfl rfl (pLdW 0 rfl rfl rfl ty29 rfl) ?_  -- t26 := load t1
        refine sP rfl rfl rfl (p_call rfl (rdfacts_p d ok) ⟨Sub.refl, trivial⟩) ?_  -- t27 := call   -- t26
        refine sP rfl rfl rfl (pA rfl rfl) ?_  -- t5 := assign t27
        refine lNil ?_
        refine wSeq ?_
        refine wReg ?_  -- region 10
        refine sP rfl rfl rfl (pM rfl rfl) ?_  -- t28 := move t5
        refine sP rfl rfl rfl (p_icmp rfl rfl rfl rfl) ?_  -- t29 := binOp t28 c
        refine lNil ?_
        refine wCond rfl (fun hc4 => ?_) (fun hc4 => ?_)  -- t29
        · refine wSeq ?_
          refine wReg ?_  -- region 11
          refine sP rfl rfl rfl (pM rfl rfl) ?_  -- t30 := move t5
          refine sP rfl rfl rfl (pA rfl rfl) ?_  -- t2 := assign t30
          refine lNil ?_
          refine wRet ?_
          have h : dfactsE d ≠ 0 := by simpa using hc4
          exact rgs1 (rg_tmp (gives_sub (Sub.of_eq (avI (deltaE_4 k1 k2 k3 h).symm))))
        · have k4 : dfactsE d = 0 := by simpa using hc4
          refine wSkip ?_
          refine wSeq ?_
          refine wSeq ?_
          refine wReg ?_  -- region 12
          refine sP rfl rfl rfl (p_fieldAddr_own rfl rfl fl29_3 ty27 (by decide)) ?_  -- t31 := fieldAddr t1
          refine sP rfl rfl rfl (pLdO1 0 rfl rfl rfl ty27 rfl) ?_  -- t32 := load t31
          refine sP rfl rfl rfl (p_call rfl (rdchecks_p d.2.2.2 ok.ng) ⟨Sub.refl, trivial⟩) ?_  -- t33 := call   -- t32
          refine sP rfl rfl rfl (pA rfl rfl) ?_  -- t6 := assign t33
          refine lNil ?_
          refine wSeq ?_
          refine wReg ?_  -- region 13
          refine sP rfl rfl rfl (pM rfl rfl) ?_  -- t34 := move t6
          refine sP rfl rfl rfl (p_icmp rfl rfl rfl rfl) ?_  -- t35 := binOp t34 c
          refine lNil ?_
          refine wCond rfl (fun hc5 => ?_) (fun hc5 => ?_)  -- t35
          · refine wSeq ?_
            refine wReg ?_  -- region 14
            refine sP rfl rfl rfl (pM rfl rfl) ?_  -- t36 := move t6
            refine sP rfl rfl rfl (pA rfl rfl) ?_  -- t2 := assign t36
            refine lNil ?_
            refine wRet ?_
            have h : mayG chk ltD d.2.2.2 ≠ 0 := by simpa using hc5
            have hg := dgone_1 h
            exact rgs1 (rg_tmp (gives_sub (Sub.of_eq (avI (by rw [deltaE_5 k1 k2 k3 k4 (by rw [hg]; exact h), hg])))))
          · have k5 : mayG chk ltD d.2.2.2 = 0 := by simpa using hc5
            refine wSkip ?_
            refine wSeq ?_
            refine wSeq ?_
            refine wReg ?_  -- region 15
            refine sP rfl rfl rfl (p_fieldAddr_own rfl rfl fl29_3 ty27 (by decide)) ?_  -- t37 := fieldAddr t1
            refine sP rfl rfl rfl (pLdO1 0 rfl rfl rfl ty27 rfl) ?_  -- t38 := load t37
            refine sP rfl rfl rfl (p_fieldAddr_own rfl rfl fl29_0 ty23 (by decide)) ?_  -- t39 := fieldAddr t1
            refine sP rfl rfl rfl (pLdO 0 rfl rfl rfl ty23 (Nat.le_of_ble_eq_true rfl) rfl) ?_  -- t40 := load t39
            refine sP rfl rfl rfl (p_call rfl (rdin_p d.2.2.2 d.1 ok.ng) ⟨Sub.refl, Sub.refl, trivial⟩) ?_  -- t41 := call   -- t38 t40
            refine lNil ?_
            refine wCond rfl (fun hc6 => ?_) (fun hc6 => ?_)  -- t41
            · refine wSeq ?_
              refine wReg ?_  -- region 16
              refine sP rfl rfl rfl (pA rfl rfl) ?_  -- t2 := assign c
              refine lNil ?_
              refine wRet ?_
              have h : d.1 ∈ d.2.2.2 := by simpa using hc6
              have hg := dgone_2 k5 h
              exact rgs1 (rg_tmp (gives_sub (Sub.of_eq (avI (by rw [deltaE_5 k1 k2 k3 k4 (by rw [hg]; decide), hg])))))
            · have k6 : d.1 ∉ d.2.2.2 := by simpa using hc6
              have k7 := dgone_3 k5 k6
              refine wSkip ?_
              refine wSeq ?_
              refine wCut (fun L h => ∃ b : Bool, b = (longD d) ∧ L = [(1, .x (.pointer (some ⟨g1, 0, none⟩))), (51, bA b)] ∧ h = [.cells g1 29 (encDl d)]) ?_ ?_
              · cases hb : (decide ((256 : Int) < (d.2.2.1.length : Nat))) with
                | true =>
                  refine wReg ?_  -- region 17
                  refine sP rfl rfl rfl (p_fieldAddr_own rfl rfl fl29_2 ty26 (by decide)) ?_  -- t42 := fieldAddr t1
                  refine sP rfl rfl rfl (pLdO1 0 rfl rfl rfl ty26 rfl) ?_  -- t43 := load t42
                  refine sP rfl rfl rfl (p_len_sl rfl rfl Try.underlying26) ?_  -- t44 := call   -- t43
                  refine sP rfl rfl rfl (p_icmp rfl rfl rfl (congrArg some hb)) ?_  -- t45 := binOp t44 c
                  refine sP rfl rfl rfl (pM rfl rfl) ?_  -- t46 := move t45
                  refine sU rfl rfl rfl (by decide) rfl rfl ?_  -- t47 := fieldAddr t1   GUARD ['4', 'false']
                  refine sU rfl rfl rfl (by decide) rfl rfl ?_  -- t48 := load t47   GUARD ['4', 'false']
                  refine sU rfl rfl rfl (by decide) rfl rfl ?_  -- t49 := call    GUARD ['4', 'false']  -- t48
                  refine sU rfl rfl rfl (by decide) rfl rfl ?_  -- t50 := binOp t49 c   GUARD ['4', 'false']
                  refine sP rfl rfl rfl (p_pick rfl rfl rfl) ?_  -- t51 := pick t46 c t50
                  refine lNil ?_
                  exact ⟨_, [.cells g1 29 (encDl d)], [], ⟨_, (by exact (by unfold longD; rw [hb]; rfl)), rfl, rfl⟩, ⟨rfl, rfl, trivial⟩, rfl⟩
                | false =>
                  refine wReg ?_  -- region 17
                  refine sP rfl rfl rfl (p_fieldAddr_own rfl rfl fl29_2 ty26 (by decide)) ?_  -- t42 := fieldAddr t1
                  refine sP rfl rfl rfl (pLdO1 0 rfl rfl rfl ty26 rfl) ?_  -- t43 := load t42
                  refine sP rfl rfl rfl (p_len_sl rfl rfl Try.underlying26) ?_  -- t44 := call   -- t43
                  refine sP rfl rfl rfl (p_icmp rfl rfl rfl (congrArg some hb)) ?_  -- t45 := binOp t44 c
                  refine sP rfl rfl rfl (pM rfl rfl) ?_  -- t46 := move t45
                  refine sG rfl rfl rfl rfl rfl (p_fieldAddr_own rfl rfl fl29_3 ty27 (by decide)) ?_  -- t47 := fieldAddr t1   GUARD ['4', 'false']
                  refine sG rfl rfl rfl rfl rfl (pLdO1 0 rfl rfl rfl ty27 rfl) ?_  -- t48 := load t47   GUARD ['4', 'false']
                  refine sG rfl rfl rfl rfl rfl (p_len_sl rfl rfl Try.underlying27) ?_  -- t49 := call    GUARD ['4', 'false']  -- t48
                  refine sG rfl rfl rfl rfl rfl (p_icmp rfl rfl rfl rfl) ?_  -- t50 := binOp t49 c   GUARD ['4', 'false']
                  refine sP rfl rfl rfl (p_pick rfl rfl rfl) ?_  -- t51 := pick t46 c t50
                  refine lNil ?_
                  exact ⟨_, [.cells g1 29 (encDl d)], [], ⟨_, (by exact (by unfold longD; rw [hb]; rfl)), rfl, rfl⟩, ⟨rfl, rfl, trivial⟩, rfl⟩
              · rintro L h ⟨b, hb, rfl, rfl⟩
                refine wCond rfl (fun hc7 => ?_) (fun hc7 => ?_)  -- t51
                · refine wSeq ?_
                  refine wReg ?_  -- region 18
                  refine sP rfl rfl rfl (pA rfl rfl) ?_  -- t2 := assign c
                  refine lNil ?_
                  refine wRet ?_
                  exact rgs1 (rg_tmp (gives_sub (Sub.of_eq (avI (by rw [deltaE_6 k1 k2 k3 k4 k7, if_pos (longD_yes (hb.symm.trans hc7))])))))
                · refine wSkip ?_
                  refine wSeq ?_
                  refine wReg ?_  -- region 19
                  refine sP rfl rfl rfl (pA rfl rfl) ?_  -- t2 := assign c
                  refine lNil ?_
                  refine wRet ?_
                  exact rgs1 (rg_tmp (gives_sub (Sub.of_eq (avI (by rw [deltaE_6 k1 k2 k3 k4 k7, if_neg (longD_no (hb.symm.trans hc7))])))))

def encN (n : Int) : List AV := [iA n]
def longP (d : DeltaT) : Bool := !decide (txE (fputS d.2.2.1) = 0) || !decide (txE (putS d.2.2.2) = 0)
theorem longP_yes {d : DeltaT} (hz : deltaE d = 0) (h : longP d = true) : dputE d = 3 := by
  unfold longP at h
  rw [Bool.or_eq_true] at h
  rcases h with h | h
  · exact dputE_long (k := 0) hz rfl (txE_yes (by simpa using h)).1
  · exact dputE_long (k := 1) hz rfl (txE_yes (by simpa using h)).1
theorem longP_no {d : DeltaT} (hz : deltaE d = 0) (h : longP d = false) : dputE d = 0 ∧ (fputS d.2.2.1).size ≤ 65536 ∧ (putS d.2.2.2).size ≤ 65536 := by
  unfold longP at h
  rw [Bool.or_eq_false_iff] at h
  have h1 : txE (fputS d.2.2.1) = 0 := by simpa using h.1
  have h2 : txE (putS d.2.2.2) = 0 := by simpa using h.2
  have g1 := txE_no h1
  have g2 := txE_no h2
  refine ⟨dputE_ok hz fun j t ht => ?_, g1, g2⟩
  have hm : t ∈ partsD d := List.mem_of_getElem? ht
  simp only [partsD, List.mem_cons, List.not_mem_nil, or_false] at hm
  rcases hm with rfl | rfl
  · exact g1
  · exact g2

set_option maxRecDepth 100000 in
theorem rdeput_p (d : DeltaT) (ok : OkD d) : PFn Try.prog False 16 [dlA d] (.tup [sA (dputS d), iA (dputE d)]) := by
  refine pfn Try.func16 rfl (by kernel_rfl) 86 rfl _ rfl (Nat.le_of_ble_eq_true rfl) (fun X w0 => ?_)
  refine wSeq ?_
  refine wReg ?_  -- region 0
  refine sBox rfl rfl rfl rfl rfl (fun g1 => ?_)  -- t1 := box t0
  refine sP rfl rfl rfl (pA rfl rfl) ?_  -- t2 := assign c
  refine sP rfl rfl rfl (pA rfl rfl) ?_  -- t3 := assign c
  refine lNil ?_
  refine wSeq ?_
  refine wSeq ?_
  refine wReg ?_  -- region 1
  refine sP rfl rfl rfl (pLdW 0 rfl rfl rfl ty29 rfl) ?_  -- t18 := load t1
  refine sP rfl rfl rfl (p_call rfl (rdelta_p d ok) ⟨Sub.refl, trivial⟩) ?_  -- t19 := call   -- t18
  refine sP rfl rfl rfl (pA rfl rfl) ?_  -- t4 := assign t19
  refine lNil ?_
  refine wSeq ?_
  refine wReg ?_  -- region 2
  refine sP rfl rfl rfl (pM rfl rfl) ?_  -- t20 := move t4
  refine sP rfl rfl rfl (p_icmp rfl rfl rfl rfl) ?_  -- t21 := binOp t20 c
  refine lNil ?_
  refine wCond rfl (fun hc1 => ?_) (fun hc1 => ?_)  -- t21
  · refine wSeq ?_
    refine wReg ?_  -- region 3
    refine sP rfl rfl rfl (pM rfl rfl) ?_  -- t22 := move t4
    refine sP rfl rfl rfl (pA rfl rfl) ?_  -- t2 := assign c
    refine sP rfl rfl rfl (pA rfl rfl) ?_  -- t3 := assign t22
    refine lNil ?_
    refine wRet ?_
    have h : deltaE d ≠ 0 := by simpa using hc1
    have he := dputE_err h
    exact rgs2 (rg_tmp (gives_sub (Sub.of_eq (avS (dputS_err (by rw [he]; exact h)).symm)))) (rg_tmp (gives_sub (Sub.of_eq (avI he.symm))))
  · have hz : deltaE d = 0 := by simpa using hc1
    refine wSkip ?_
    refine wSeq ?_
    refine wReg ?_  -- region 4
    refine sP rfl rfl rfl (pA rfl rfl) ?_  -- t5 := assign c
    refine lNil ?_
    refine wSeq ?_
    refine wReg ?_  -- region 5
    refine sP rfl rfl rfl (p_fieldAddr_own rfl rfl fl29_0 ty23 (by decide)) ?_  -- t23 := fieldAddr t1
    refine sP rfl rfl rfl (p_fieldAddr_own rfl rfl fl23_0 ty3 (by decide)) ?_  -- t24 := fieldAddr t23
    refine sP rfl rfl rfl (pLdO1 0 rfl rfl rfl ty3 rfl) ?_  -- t25 := load t24
    refine sP rfl rfl rfl (p_fieldAddr_own rfl rfl fl29_0 ty23 (by decide)) ?_  -- t26 := fieldAddr t1
    refine sP rfl rfl rfl (p_fieldAddr_own rfl rfl fl23_1 ty3 (by decide)) ?_  -- t27 := fieldAddr t26
    refine sP rfl rfl rfl (pLdO1 0 rfl rfl rfl ty3 rfl) ?_  -- t28 := load t27
    refine sP rfl rfl rfl (p_fieldAddr_own rfl rfl fl29_1 ty25 (by decide)) ?_  -- t29 := fieldAddr t1
    refine sP rfl rfl rfl (p_fieldAddr_own rfl rfl fl25_0 ty3 (by decide)) ?_  -- t30 := fieldAddr t29
    refine sP rfl rfl rfl (pLdO1 0 rfl rfl rfl ty3 rfl) ?_  -- t31 := load t30
    refine sP rfl rfl rfl (p_fieldAddr_own rfl rfl fl29_1 ty25 (by decide)) ?_  -- t32 := fieldAddr t1
    refine sP rfl rfl rfl (p_fieldAddr_own rfl rfl fl25_1 ty3 (by decide)) ?_  -- t33 := fieldAddr t32
    refine sP rfl rfl rfl (pLdO1 0 rfl rfl rfl ty3 rfl) ?_  -- t34 := load t33
    refine sP rfl rfl rfl (p_buildSlice (res := [iA d.1.1, iA d.1.2, iA d.2.1.1, iA d.2.1.2.1]) rfl ze3 Try.underlying105 ty3 (by decide) (by decide) rfl rfl rfl) ?_  -- t35 := buildSlice 
    refine sP rfl rfl rfl (pAs rfl rfl) ?_  -- t6 := assign t35
    refine lNil ?_
    refine wSeq ?_
    refine wSeq ?_
    refine wReg ?_  -- region 6
    refine sP rfl rfl rfl (pA rfl rfl) ?_  -- t7 := assign c
    refine lNil ?_
    refine wBlock ?_
    refine wLoop (fun mm L h => ∃ k s, mm = 4 - k ∧ k ≤ 4 ∧ s = cat (((numsD d).take k).map numS) ∧ L = [(1, .x (.pointer (some ⟨g1, 0, none⟩))), (5, sA s), (6, .sl 1 4 ((numsD d).flatMap encN)), (7, iA (k : Nat))] ∧ h = [.cells g1 29 (encDl d)]) ⟨_, _, _, _, ⟨0, _, rfl, Nat.zero_le _, rfl, rfl, rfl⟩, ⟨rfl, rfl, rfl, rfl, trivial⟩, rfl⟩ ?_
    rintro mm L h ⟨k, s, rfl, hk, hs, rfl, rfl⟩
    refine wSeq ?_
    refine wSeq ?_
    refine wReg ?_  -- region 7
    refine sP rfl rfl rfl (pM rfl rfl) ?_  -- t36 := move t7
    refine sP rfl rfl rfl (pMs rfl rfl) ?_  -- t37 := move t6
    refine sP rfl rfl rfl (p_len_sl rfl rfl Try.underlying105) ?_  -- t38 := call   -- t37
    refine sP rfl rfl rfl (p_icmp rfl rfl rfl rfl) ?_  -- t39 := binOp t36 t38
    refine lNil ?_
    refine wCond rfl (fun hc2 => ?_) (fun hc2 => ?_)  -- t39
    · have hk5 : k < 4 := by have h := hc2; simp at h; omega
      obtain ⟨n, hx⟩ : ∃ n, (numsD d)[k]? = some n := getL (l := numsD d) hk5
      have hsz : s.size ≤ 32 := by rw [hs]; exact numsD_size d k
      have hnz := numS_size n
      refine wSkip ?_
      refine wSeq ?_
      refine wBlock ?_
      refine wSeq ?_
      refine wReg ?_  -- region 9
      refine sP rfl rfl rfl (pMs rfl rfl) ?_  -- t43 := move t6
      refine sP rfl rfl rfl (pM rfl rfl) ?_  -- t44 := move t7
      refine sP rfl rfl rfl (pIdx k rfl rfl Try.underlying105 ty3 (by decide) rfl (fun _ => rfl) rfl rfl hx) ?_  -- t45 := indexAddr t43 t44
      refine sP rfl rfl rfl (pLd1 rfl rfl ty3) ?_  -- t46 := load t45
      refine sP rfl rfl rfl (p_call rfl (rnum_p n) ⟨Sub.refl, trivial⟩) ?_  -- t47 := call   -- t46
      refine sP rfl rfl rfl (pMt rfl rfl) ?_  -- t42 := move t47
      refine sP rfl rfl rfl (p_extract rfl rfl rfl) ?_  -- t48 := extract t42
      refine sP rfl rfl rfl (p_extract rfl rfl rfl) ?_  -- t49 := extract t42
      refine sP rfl rfl rfl (pA rfl rfl) ?_  -- t8 := assign t48
      refine sP rfl rfl rfl (pA rfl rfl) ?_  -- t9 := assign t49
      refine lNil ?_
      refine wReg ?_  -- region 10
      refine sP rfl rfl rfl (pM rfl rfl) ?_  -- t50 := move t5
      refine sP rfl rfl rfl (pM rfl rfl) ?_  -- t51 := move t8
      refine sP rfl rfl rfl (p_sadd rfl rfl rfl (by omega)) ?_  -- t52 := binOp t50 t51
      refine sP rfl rfl rfl (pA rfl rfl) ?_  -- t5 := assign t52
      refine lNil ?_
      refine wReg ?_  -- region 8
      refine sP rfl rfl rfl (pM rfl rfl) ?_  -- t40 := move t7
      refine sP rfl rfl rfl (p_iar rfl rfl rfl rfl) ?_  -- t41 := binOp t40 c
      refine sP rfl rfl rfl (pA rfl rfl) ?_  -- t7 := assign t41
      refine lNil ?_
      refine ⟨_, _, [.cells g1 29 (encDl d)], [], ?_, ⟨k + 1, _, rfl, hk5, ?_, rfl, rfl⟩, ⟨rfl, rfl, rfl, avI (wrapI (by omega) (by omega)), trivial⟩, rfl⟩
      · omega
      · rw [hs]; exact cat_take0 numS hx
    · have hk6 : k = 4 := by have h := hc2; simp at h; omega
      subst hk6
      have hs2 : s = cat ((numsD d).map numS) := hs
      have hsz : s.size ≤ 32 := by rw [hs]; exact numsD_size d 4
      refine wExit ?_
      refine wSeq ?_
      refine wReg ?_  -- region 11
      refine sP rfl rfl rfl (p_fieldAddr_own rfl rfl fl29_2 ty26 (by decide)) ?_  -- t54 := fieldAddr t1
      refine sP rfl rfl rfl (pLdO1 0 rfl rfl rfl ty26 rfl) ?_  -- t55 := load t54
      refine sP rfl rfl rfl (p_call rfl (rfput_p d.2.2.1 ok.nf ok.of) ⟨Sub.refl, trivial⟩) ?_  -- t56 := call   -- t55
      refine sP rfl rfl rfl (pMt rfl rfl) ?_  -- t53 := move t56
      refine sP rfl rfl rfl (p_extract rfl rfl rfl) ?_  -- t57 := extract t53
      refine sP rfl rfl rfl (p_extract rfl rfl rfl) ?_  -- t58 := extract t53
      refine sP rfl rfl rfl (pA rfl rfl) ?_  -- t10 := assign t57
      refine sP rfl rfl rfl (pA rfl rfl) ?_  -- t11 := assign t58
      refine lNil ?_
      refine wSeq ?_
      refine wReg ?_  -- region 12
      refine sP rfl rfl rfl (p_fieldAddr_own rfl rfl fl29_3 ty27 (by decide)) ?_  -- t60 := fieldAddr t1
      refine sP rfl rfl rfl (pLdO1 0 rfl rfl rfl ty27 rfl) ?_  -- t61 := load t60
      refine sP rfl rfl rfl (p_call rfl (rdput_p d.2.2.2 ok.ng) ⟨Sub.refl, trivial⟩) ?_  -- t62 := call   -- t61
      refine sP rfl rfl rfl (pMt rfl rfl) ?_  -- t59 := move t62
      refine sP rfl rfl rfl (p_extract rfl rfl rfl) ?_  -- t63 := extract t59
      refine sP rfl rfl rfl (p_extract rfl rfl rfl) ?_  -- t64 := extract t59
      refine sP rfl rfl rfl (pA rfl rfl) ?_  -- t12 := assign t63
      refine sP rfl rfl rfl (pA rfl rfl) ?_  -- t13 := assign t64
      refine lNil ?_
      refine wSeq ?_
      refine wReg ?_  -- region 13
      refine sP rfl rfl rfl (pM rfl rfl) ?_  -- t66 := move t10
      refine sP rfl rfl rfl (p_call rfl (rtext_p (fputS d.2.2.1) (fputS_size ok.of)) ⟨Sub.refl, trivial⟩) ?_  -- t67 := call   -- t66
      refine sP rfl rfl rfl (pMt rfl rfl) ?_  -- t65 := move t67
      refine sP rfl rfl rfl (p_extract rfl rfl rfl) ?_  -- t68 := extract t65
      refine sP rfl rfl rfl (p_extract rfl rfl rfl) ?_  -- t69 := extract t65
      refine sP rfl rfl rfl (pA rfl rfl) ?_  -- t14 := assign t68
      refine sP rfl rfl rfl (pA rfl rfl) ?_  -- t15 := assign t69
      refine lNil ?_
      refine wSeq ?_
      refine wReg ?_  -- region 14
      refine sP rfl rfl rfl (pM rfl rfl) ?_  -- t71 := move t12
      refine sP rfl rfl rfl (p_call rfl (rtext_p (putS d.2.2.2) (partD_size (k := 1) ok rfl)) ⟨Sub.refl, trivial⟩) ?_  -- t72 := call   -- t71
      refine sP rfl rfl rfl (pMt rfl rfl) ?_  -- t70 := move t72
      refine sP rfl rfl rfl (p_extract rfl rfl rfl) ?_  -- t73 := extract t70
      refine sP rfl rfl rfl (p_extract rfl rfl rfl) ?_  -- t74 := extract t70
      refine sP rfl rfl rfl (pA rfl rfl) ?_  -- t16 := assign t73
      refine sP rfl rfl rfl (pA rfl rfl) ?_  -- t17 := assign t74
      refine lNil ?_
      refine wSeq ?_
      refine wCut (fun L h => ∃ b : Bool, b = (longP d) ∧ L = [(1, .x (.pointer (some ⟨g1, 0, none⟩))), (5, sA s), (14, sA (txS (fputS d.2.2.1))), (15, iA (txE (fputS d.2.2.1))), (16, sA (txS (putS d.2.2.2))), (17, iA (txE (putS d.2.2.2))), (80, bA b)] ∧ h = [.cells g1 29 (encDl d)]) ?_ ?_
      · cases hb : (!decide (txE (fputS d.2.2.1) = 0)) with
        | true =>
          refine wReg ?_  -- region 15
          refine sP rfl rfl rfl (pM rfl rfl) ?_  -- t75 := move t15
          refine sP rfl rfl rfl (p_icmp rfl rfl rfl (congrArg some hb)) ?_  -- t76 := binOp t75 c
          refine sP rfl rfl rfl (pM rfl rfl) ?_  -- t77 := move t76
          refine sU rfl rfl rfl (by decide) rfl rfl ?_  -- t78 := move t17   GUARD ['2', 'false']
          refine sU rfl rfl rfl (by decide) rfl rfl ?_  -- t79 := binOp t78 c   GUARD ['2', 'false']
          refine sP rfl rfl rfl (p_pick rfl rfl rfl) ?_  -- t80 := pick t77 c t79
          refine lNil ?_
          exact ⟨_, [.cells g1 29 (encDl d)], [], ⟨_, (by exact (by unfold longP; rw [hb]; rfl)), rfl, rfl⟩, ⟨rfl, rfl, rfl, rfl, rfl, rfl, rfl, trivial⟩, rfl⟩
        | false =>
          refine wReg ?_  -- region 15
          refine sP rfl rfl rfl (pM rfl rfl) ?_  -- t75 := move t15
          refine sP rfl rfl rfl (p_icmp rfl rfl rfl (congrArg some hb)) ?_  -- t76 := binOp t75 c
          refine sP rfl rfl rfl (pM rfl rfl) ?_  -- t77 := move t76
          refine sG rfl rfl rfl rfl rfl (pM rfl rfl) ?_  -- t78 := move t17   GUARD ['2', 'false']
          refine sG rfl rfl rfl rfl rfl (p_icmp rfl rfl rfl rfl) ?_  -- t79 := binOp t78 c   GUARD ['2', 'false']
          refine sP rfl rfl rfl (p_pick rfl rfl rfl) ?_  -- t80 := pick t77 c t79
          refine lNil ?_
          exact ⟨_, [.cells g1 29 (encDl d)], [], ⟨_, (by exact (by unfold longP; rw [hb]; rfl)), rfl, rfl⟩, ⟨rfl, rfl, rfl, rfl, rfl, rfl, rfl, trivial⟩, rfl⟩
      · rintro L h ⟨b, hb, rfl, rfl⟩
        refine wCond rfl (fun hc3 => ?_) (fun hc3 => ?_)  -- t80
        · refine wSeq ?_
          refine wReg ?_  -- region 16
          refine sP rfl rfl rfl (pA rfl rfl) ?_  -- t2 := assign c
          refine sP rfl rfl rfl (pA rfl rfl) ?_  -- t3 := assign c
          refine lNil ?_
          refine wRet ?_
          have he := longP_yes hz (hb.symm.trans hc3)
          exact rgs2 (rg_tmp (gives_sub (Sub.of_eq (avS (dputS_err (by rw [he]; decide)).symm)))) (rg_tmp (gives_sub (Sub.of_eq (avI he.symm))))
        · obtain ⟨he, g1, g2⟩ := longP_no hz (hb.symm.trans hc3)
          have t1 := txS_size (fputS d.2.2.1)
          have t2 := txS_size (putS d.2.2.2)
          refine wSkip ?_
          refine wSeq ?_
          refine wReg ?_  -- region 17
          refine sP rfl rfl rfl (pM rfl rfl) ?_  -- t81 := move t5
          refine sP rfl rfl rfl (pM rfl rfl) ?_  -- t82 := move t14
          refine sP rfl rfl rfl (p_sadd rfl rfl rfl (by omega)) ?_  -- t83 := binOp t81 t82
          refine sP rfl rfl rfl (pM rfl rfl) ?_  -- t84 := move t16
          refine sP rfl rfl rfl (p_sadd rfl rfl rfl (by rw [ByteArray.size_append]; omega)) ?_  -- t85 := binOp t83 t84
          refine sP rfl rfl rfl (pA rfl rfl) ?_  -- t2 := assign t85
          refine sP rfl rfl rfl (pA rfl rfl) ?_  -- t3 := assign c
          refine lNil ?_
          refine wRet ?_
          have hS : s ++ txS (fputS d.2.2.1) ++ txS (putS d.2.2.2) = dputS d := by
            rw [dputS_ok he, hs]
            refine ba_ext ?_
            rw [app_data, app_data, app_data, List.append_assoc]
            exact congrArg _ (cat2 _ _).symm
          exact rgs2 (rg_tmp (gives_sub (Sub.of_eq (avS hS)))) (rg_tmp (gives_sub (Sub.of_eq (avI he.symm))))
set_option maxRecDepth 100000 in
theorem rderead_p (s : ByteArray) (hs : s.size < 9223372036854775807) : PFn Try.prog False 21 [sA s] (.tup [dlA (dreadT s), iA (dreadE s)]) := by
  refine pfn Try.func21 rfl (by kernel_rfl) 90 rfl _ rfl (Nat.le_of_ble_eq_true rfl) (fun X w0 => ?_)
  have z0 : s.size ≤ s.size := Nat.le_refl _
  obtain ⟨z1, z2, z3, z4, _, _, _⟩ := rF7_size (s, 0)
  have z5 := (dAt_size s).2
  refine wSeq ?_
  refine wReg ?_  -- region 0
  refine sAlloc rfl rfl rfl rfl ze29 (fun g2 => ?_)  -- t2 := alloc 
  refine sP rfl rfl rfl (pA rfl rfl) ?_  -- t3 := assign c
  refine lNil ?_
  refine wSeq ?_
  refine wReg ?_  -- region 1
  refine sP rfl rfl rfl (pM rfl rfl) ?_  -- t17 := move t0
  refine sP rfl rfl rfl (p_build (res := [sA s, iA 0]) rfl ze127 pl127 rfl rfl) ?_  -- t18 := build 
  refine sAlloc rfl rfl rfl rfl ze127 (fun g4 => ?_)  -- t4 := alloc 
  refine sStore 1 rfl rfl rfl rfl rfl ty127 rfl rfl rfl (Nat.le_of_ble_eq_true rfl) ?_  -- t := store t4 t18
  refine lNil ?_
  refine wKeep [(2, nP g2), (3, iA 0), (4, nP g4)] [.cells g2 29 [iA 0, iA 0, iA 0, iA 0, iA 0, .x (.slice none 0 0), .x (.slice none 0 0)], .cells g4 127 [sA ((s, 0)).1, iA ((s, 0)).2]] [] ⟨rfl, rfl, rfl, trivial⟩ rfl ?_
  refine wSeq ?_
  refine wReg ?_  -- region 2
  refine sP rfl rfl rfl (pLdW 1 rfl rfl rfl ty127 rfl) ?_  -- t20 := load t4
  refine sP rfl rfl rfl (p_call rfl (rrnum_p ((s, 0)) (Nat.lt_of_le_of_lt z0 hs)) ⟨Sub.refl, trivial⟩) ?_  -- t21 := call   -- t20
  refine sP rfl rfl rfl (pMt rfl rfl) ?_  -- t19 := move t21
  refine sP rfl rfl rfl (p_extract rfl rfl rfl) ?_  -- t22 := extract t19
  refine sP rfl rfl rfl (p_extract rfl rfl rfl) ?_  -- t23 := extract t19
  refine sStore 1 rfl rfl rfl rfl rfl ty127 rfl rfl rfl (Nat.le_of_ble_eq_true rfl) ?_  -- t := store t4 t22
  refine sP rfl rfl rfl (pA rfl rfl) ?_  -- t5 := assign t23
  refine lNil ?_
  refine wKeep [(2, nP g2), (3, iA 0), (4, nP g4), (5, iA ((rdN (s, 0)).1 : Nat))] [.cells g2 29 [iA 0, iA 0, iA 0, iA 0, iA 0, .x (.slice none 0 0), .x (.slice none 0 0)], .cells g4 127 [sA (rF1 (s, 0)).1, iA (rF1 (s, 0)).2]] [] ⟨rfl, rfl, rfl, rfl, trivial⟩ rfl ?_
  refine wSeq ?_
  refine wReg ?_  -- region 3
  refine sP rfl rfl rfl (pLdW 1 rfl rfl rfl ty127 rfl) ?_  -- t25 := load t4
  refine sP rfl rfl rfl (p_call rfl (rrnum_p (rF1 (s, 0)) (Nat.lt_of_le_of_lt z1 hs)) ⟨Sub.refl, trivial⟩) ?_  -- t26 := call   -- t25
  refine sP rfl rfl rfl (pMt rfl rfl) ?_  -- t24 := move t26
  refine sP rfl rfl rfl (p_extract rfl rfl rfl) ?_  -- t27 := extract t24
  refine sP rfl rfl rfl (p_extract rfl rfl rfl) ?_  -- t28 := extract t24
  refine sStore 1 rfl rfl rfl rfl rfl ty127 rfl rfl rfl (Nat.le_of_ble_eq_true rfl) ?_  -- t := store t4 t27
  refine sP rfl rfl rfl (pA rfl rfl) ?_  -- t6 := assign t28
  refine lNil ?_
  refine wKeep [(2, nP g2), (3, iA 0), (4, nP g4), (5, iA ((rdN (s, 0)).1 : Nat)), (6, iA ((rdN (rF1 (s, 0))).1 : Nat))] [.cells g2 29 [iA 0, iA 0, iA 0, iA 0, iA 0, .x (.slice none 0 0), .x (.slice none 0 0)], .cells g4 127 [sA (rF2 (s, 0)).1, iA (rF2 (s, 0)).2]] [] ⟨rfl, rfl, rfl, rfl, rfl, trivial⟩ rfl ?_
  refine wSeq ?_
  refine wReg ?_  -- region 4
  refine sP rfl rfl rfl (pLdW 1 rfl rfl rfl ty127 rfl) ?_  -- t30 := load t4
  refine sP rfl rfl rfl (p_call rfl (rrnum_p (rF2 (s, 0)) (Nat.lt_of_le_of_lt z2 hs)) ⟨Sub.refl, trivial⟩) ?_  -- t31 := call   -- t30
  refine sP rfl rfl rfl (pMt rfl rfl) ?_  -- t29 := move t31
  refine sP rfl rfl rfl (p_extract rfl rfl rfl) ?_  -- t32 := extract t29
  refine sP rfl rfl rfl (p_extract rfl rfl rfl) ?_  -- t33 := extract t29
  refine sStore 1 rfl rfl rfl rfl rfl ty127 rfl rfl rfl (Nat.le_of_ble_eq_true rfl) ?_  -- t := store t4 t32
  refine sP rfl rfl rfl (pA rfl rfl) ?_  -- t7 := assign t33
  refine lNil ?_
  refine wKeep [(2, nP g2), (3, iA 0), (4, nP g4), (5, iA ((rdN (s, 0)).1 : Nat)), (6, iA ((rdN (rF1 (s, 0))).1 : Nat)), (7, iA ((rdN (rF2 (s, 0))).1 : Nat))] [.cells g2 29 [iA 0, iA 0, iA 0, iA 0, iA 0, .x (.slice none 0 0), .x (.slice none 0 0)], .cells g4 127 [sA (rF3 (s, 0)).1, iA (rF3 (s, 0)).2]] [] ⟨rfl, rfl, rfl, rfl, rfl, rfl, trivial⟩ rfl ?_
  refine wSeq ?_
  refine wReg ?_  -- region 5
  refine sP rfl rfl rfl (pLdW 1 rfl rfl rfl ty127 rfl) ?_  -- t35 := load t4
  refine sP rfl rfl rfl (p_call rfl (rrnum_p (rF3 (s, 0)) (Nat.lt_of_le_of_lt z3 hs)) ⟨Sub.refl, trivial⟩) ?_  -- t36 := call   -- t35
  refine sP rfl rfl rfl (pMt rfl rfl) ?_  -- t34 := move t36
  refine sP rfl rfl rfl (p_extract rfl rfl rfl) ?_  -- t37 := extract t34
  refine sP rfl rfl rfl (p_extract rfl rfl rfl) ?_  -- t38 := extract t34
  refine sStore 1 rfl rfl rfl rfl rfl ty127 rfl rfl rfl (Nat.le_of_ble_eq_true rfl) ?_  -- t := store t4 t37
  refine sP rfl rfl rfl (pA rfl rfl) ?_  -- t8 := assign t38
  refine lNil ?_
  refine wKeep [(2, nP g2), (3, iA 0), (4, nP g4), (5, iA ((rdN (s, 0)).1 : Nat)), (6, iA ((rdN (rF1 (s, 0))).1 : Nat)), (7, iA ((rdN (rF2 (s, 0))).1 : Nat)), (8, iA ((rdN (rF3 (s, 0))).1 : Nat))] [.cells g2 29 [iA 0, iA 0, iA 0, iA 0, iA 0, .x (.slice none 0 0), .x (.slice none 0 0)], .cells g4 127 [sA (rF4 (s, 0)).1, iA (rF4 (s, 0)).2]] [] ⟨rfl, rfl, rfl, rfl, rfl, rfl, rfl, trivial⟩ rfl ?_
  refine wSeq ?_
  refine wReg ?_  -- region 6
  refine sP rfl rfl rfl (pLdW 1 rfl rfl rfl ty127 rfl) ?_  -- t40 := load t4
  refine sP rfl rfl rfl (p_call rfl (rrtext_p (rF4 (s, 0)) (Nat.lt_of_le_of_lt z4 hs)) ⟨Sub.refl, trivial⟩) ?_  -- t41 := call   -- t40
  refine sP rfl rfl rfl (pMt rfl rfl) ?_  -- t39 := move t41
  refine sP rfl rfl rfl (p_extract rfl rfl rfl) ?_  -- t42 := extract t39
  refine sP rfl rfl rfl (p_extract rfl rfl rfl) ?_  -- t43 := extract t39
  refine sStore 1 rfl rfl rfl rfl rfl ty127 rfl rfl rfl (Nat.le_of_ble_eq_true rfl) ?_  -- t := store t4 t42
  refine sP rfl rfl rfl (pA rfl rfl) ?_  -- t9 := assign t43
  refine lNil ?_
  refine wKeep [(2, nP g2), (3, iA 0), (4, nP g4), (5, iA ((rdN (s, 0)).1 : Nat)), (6, iA ((rdN (rF1 (s, 0))).1 : Nat)), (7, iA ((rdN (rF2 (s, 0))).1 : Nat)), (8, iA ((rdN (rF3 (s, 0))).1 : Nat)), (9, sA (dAt s).1)] [.cells g2 29 [iA 0, iA 0, iA 0, iA 0, iA 0, .x (.slice none 0 0), .x (.slice none 0 0)], .cells g4 127 [sA ((dAt s).2).1, iA ((dAt s).2).2]] [] ⟨rfl, rfl, rfl, rfl, rfl, rfl, rfl, rfl, trivial⟩ rfl ?_
  refine wSeq ?_
  refine wReg ?_  -- region 7
  refine sP rfl rfl rfl (pLdW 1 rfl rfl rfl ty127 rfl) ?_  -- t45 := load t4
  refine sP rfl rfl rfl (p_call rfl (rrtext_p ((dAt s).2) (Nat.lt_of_le_of_lt z5 hs)) ⟨Sub.refl, trivial⟩) ?_  -- t46 := call   -- t45
  refine sP rfl rfl rfl (pMt rfl rfl) ?_  -- t44 := move t46
  refine sP rfl rfl rfl (p_extract rfl rfl rfl) ?_  -- t47 := extract t44
  refine sP rfl rfl rfl (p_extract rfl rfl rfl) ?_  -- t48 := extract t44
  refine sStore 1 rfl rfl rfl rfl rfl ty127 rfl rfl rfl (Nat.le_of_ble_eq_true rfl) ?_  -- t := store t4 t47
  refine sP rfl rfl rfl (pA rfl rfl) ?_  -- t10 := assign t48
  refine lNil ?_
  refine wKeep [(2, nP g2), (3, iA 0), (4, nP g4), (5, iA ((rdN (s, 0)).1 : Nat)), (6, iA ((rdN (rF1 (s, 0))).1 : Nat)), (7, iA ((rdN (rF2 (s, 0))).1 : Nat)), (8, iA ((rdN (rF3 (s, 0))).1 : Nat)), (9, sA (dAt s).1), (10, sA (dBt s).1)] [.cells g2 29 [iA 0, iA 0, iA 0, iA 0, iA 0, .x (.slice none 0 0), .x (.slice none 0 0)], .cells g4 127 [sA ((dBt s).2).1, iA ((dBt s).2).2]] [] ⟨rfl, rfl, rfl, rfl, rfl, rfl, rfl, rfl, rfl, trivial⟩ rfl ?_
  refine wSeq ?_
  refine wSeq ?_
  refine wReg ?_  -- region 8
  refine sP rfl rfl rfl (pLdW 1 rfl rfl rfl ty127 rfl) ?_  -- t49 := load t4
  refine sP rfl rfl rfl (p_call rfl (rrdone_p (dBt s).2) ⟨Sub.refl, trivial⟩) ?_  -- t50 := call   -- t49
  refine sP rfl rfl rfl (pA rfl rfl) ?_  -- t11 := assign t50
  refine lNil ?_
  refine wSeq ?_
  refine wReg ?_  -- region 9
  refine sP rfl rfl rfl (pM rfl rfl) ?_  -- t51 := move t11
  refine sP rfl rfl rfl (p_icmp rfl rfl rfl rfl) ?_  -- t52 := binOp t51 c
  refine lNil ?_
  refine wCond rfl (fun hc1 => ?_) (fun hc1 => ?_)  -- t52
  · refine wSeq ?_
    refine wReg ?_  -- region 10
    refine sP rfl rfl rfl (p_build (res := [iA 0, iA 0, iA 0, iA 0, iA 0, .x (.slice none 0 0), .x (.slice none 0 0)]) rfl ze29 pl29 rfl rfl) ?_  -- t53 := build 
    refine sP rfl rfl rfl (pM rfl rfl) ?_  -- t54 := move t11
    refine sStore 0 rfl rfl rfl rfl rfl ty29 rfl rfl rfl (Nat.le_of_ble_eq_true rfl) ?_  -- t := store t2 t53
    refine sP rfl rfl rfl (pA rfl rfl) ?_  -- t3 := assign t54
    refine lNil ?_
    refine wRet ?_
    have hk : doneE (dBt s).2 ≠ 0 := by simpa using hc1
    have he : dreadE s = doneE (dBt s).2 := if_pos hk
    have k3 : dreadE s ≠ 0 := by rw [he]; exact hk
    have hT : dreadT s = zeroD := if_pos k3
    rw [hT]
    exact rgs2 (rg_cell rfl (List.mem_of_getElem? (i := 0) rfl) ty29 (.inl ⟨rfl, Nat.le_refl _, rfl⟩) (gives_sub (Sub.agg ⟨Sub.refl, Sub.refl, Sub.refl, Sub.refl, Sub.refl, Sub.nil_, Sub.nil_, trivial⟩))) (rg_tmp (gives_sub (Sub.of_eq (avI he.symm))))
  · have k0 : doneE (dBt s).2 = 0 := by simpa using hc1
    refine wSkip ?_
    refine wSeq ?_
    refine wReg ?_  -- region 11
    refine sP rfl rfl rfl (pM rfl rfl) ?_  -- t56 := move t9
    refine sP rfl rfl rfl (p_call rfl (rfread_p (dAt s).1 (by have := (dAt_size s).1; omega)) ⟨Sub.refl, trivial⟩) ?_  -- t57 := call   -- t56
    refine sP rfl rfl rfl (pMt rfl rfl) ?_  -- t55 := move t57
    refine sP rfl rfl rfl (p_extract rfl rfl rfl) ?_  -- t58 := extract t55
    refine sP rfl rfl rfl (p_extract rfl rfl rfl) ?_  -- t59 := extract t55
    refine sP rfl rfl rfl (pAs rfl rfl) ?_  -- t12 := assign t58
    refine sP rfl rfl rfl (pA rfl rfl) ?_  -- t13 := assign t59
    refine lNil ?_
    refine wSeq ?_
    refine wSeq ?_
    refine wReg ?_  -- region 12
    refine sP rfl rfl rfl (pM rfl rfl) ?_  -- t60 := move t13
    refine sP rfl rfl rfl (p_icmp rfl rfl rfl rfl) ?_  -- t61 := binOp t60 c
    refine lNil ?_
    refine wCond rfl (fun hc2 => ?_) (fun hc2 => ?_)  -- t61
    · refine wSeq ?_
      refine wReg ?_  -- region 13
      refine sP rfl rfl rfl (p_build (res := [iA 0, iA 0, iA 0, iA 0, iA 0, .x (.slice none 0 0), .x (.slice none 0 0)]) rfl ze29 pl29 rfl rfl) ?_  -- t62 := build 
      refine sP rfl rfl rfl (pM rfl rfl) ?_  -- t63 := move t13
      refine sStore 0 rfl rfl rfl rfl rfl ty29 rfl rfl rfl (Nat.le_of_ble_eq_true rfl) ?_  -- t := store t2 t62
      refine sP rfl rfl rfl (pA rfl rfl) ?_  -- t3 := assign t63
      refine lNil ?_
      refine wRet ?_
      have hk : freadE (dAt s).1 ≠ 0 := by simpa using hc2
      have he : dreadE s = freadE (dAt s).1 := by unfold dreadE; rw [if_neg (by simpa using k0), if_pos hk]
      have k3 : dreadE s ≠ 0 := by rw [he]; exact hk
      have hT : dreadT s = zeroD := if_pos k3
      rw [hT]
      exact rgs2 (rg_cell rfl (List.mem_of_getElem? (i := 0) rfl) ty29 (.inl ⟨rfl, Nat.le_refl _, rfl⟩) (gives_sub (Sub.agg ⟨Sub.refl, Sub.refl, Sub.refl, Sub.refl, Sub.refl, Sub.nil_, Sub.nil_, trivial⟩))) (rg_tmp (gives_sub (Sub.of_eq (avI he.symm))))
    · have k1 : freadE (dAt s).1 = 0 := by simpa using hc2
      refine wSkip ?_
      refine wSeq ?_
      refine wReg ?_  -- region 14
      refine sP rfl rfl rfl (pM rfl rfl) ?_  -- t65 := move t10
      refine sP rfl rfl rfl (p_call rfl (rdread_p (dBt s).1 (by have := (dBt_size s).1; omega)) ⟨Sub.refl, trivial⟩) ?_  -- t66 := call   -- t65
      refine sP rfl rfl rfl (pMt rfl rfl) ?_  -- t64 := move t66
      refine sP rfl rfl rfl (p_extract rfl rfl rfl) ?_  -- t67 := extract t64
      refine sP rfl rfl rfl (p_extract rfl rfl rfl) ?_  -- t68 := extract t64
      refine sP rfl rfl rfl (pAs rfl rfl) ?_  -- t14 := assign t67
      refine sP rfl rfl rfl (pA rfl rfl) ?_  -- t13 := assign t68
      refine lNil ?_
      refine wSeq ?_
      refine wSeq ?_
      refine wReg ?_  -- region 15
      refine sP rfl rfl rfl (pM rfl rfl) ?_  -- t69 := move t13
      refine sP rfl rfl rfl (p_icmp rfl rfl rfl rfl) ?_  -- t70 := binOp t69 c
      refine lNil ?_
      refine wCond rfl (fun hc3 => ?_) (fun hc3 => ?_)  -- t70
      · refine wSeq ?_
        refine wReg ?_  -- region 16
        refine sP rfl rfl rfl (p_build (res := [iA 0, iA 0, iA 0, iA 0, iA 0, .x (.slice none 0 0), .x (.slice none 0 0)]) rfl ze29 pl29 rfl rfl) ?_  -- t71 := build 
        refine sP rfl rfl rfl (pM rfl rfl) ?_  -- t72 := move t13
        refine sStore 0 rfl rfl rfl rfl rfl ty29 rfl rfl rfl (Nat.le_of_ble_eq_true rfl) ?_  -- t := store t2 t71
        refine sP rfl rfl rfl (pA rfl rfl) ?_  -- t3 := assign t72
        refine lNil ?_
        refine wRet ?_
        have hk : (readD (dBt s).1).2 ≠ 0 := by simpa using hc3
        have he : dreadE s = (readD (dBt s).1).2 := by unfold dreadE; rw [if_neg (by simpa using k0), if_neg (by simpa using k1), if_pos hk]
        have k3 : dreadE s ≠ 0 := by rw [he]; exact hk
        have hT : dreadT s = zeroD := if_pos k3
        rw [hT]
        exact rgs2 (rg_cell rfl (List.mem_of_getElem? (i := 0) rfl) ty29 (.inl ⟨rfl, Nat.le_refl _, rfl⟩) (gives_sub (Sub.agg ⟨Sub.refl, Sub.refl, Sub.refl, Sub.refl, Sub.refl, Sub.nil_, Sub.nil_, trivial⟩))) (rg_tmp (gives_sub (Sub.of_eq (avI he.symm))))
      · have k2 : (readD (dBt s).1).2 = 0 := by simpa using hc3
        refine wSkip ?_
        refine wSeq ?_
        refine wReg ?_  -- region 17
        refine sP rfl rfl rfl (pM rfl rfl) ?_  -- t73 := move t5
        refine sP rfl rfl rfl (pM rfl rfl) ?_  -- t74 := move t6
        refine sP rfl rfl rfl (p_build (res := [iA ((rdN (s, 0)).1 : Nat), iA ((rdN (rF1 (s, 0))).1 : Nat)]) rfl ze23 pl23 rfl rfl) ?_  -- t75 := build 
        refine sP rfl rfl rfl (pM rfl rfl) ?_  -- t76 := move t7
        refine sP rfl rfl rfl (pM rfl rfl) ?_  -- t77 := move t8
        refine sP rfl rfl rfl (pM rfl rfl) ?_  -- t78 := move t5
        refine sP rfl rfl rfl (p_build (res := [iA ((rdN (rF2 (s, 0))).1 : Nat), iA ((rdN (rF3 (s, 0))).1 : Nat), iA ((rdN (s, 0)).1 : Nat)]) rfl ze25 pl25 rfl rfl) ?_  -- t79 := build 
        refine sP rfl rfl rfl (pMs rfl rfl) ?_  -- t80 := move t12
        refine sP rfl rfl rfl (pMs rfl rfl) ?_  -- t81 := move t14
        refine sP rfl rfl rfl (p_build (res := encDl (dreadD s)) rfl ze29 pl29 rfl rfl) ?_  -- t82 := build 
        refine sAlloc rfl rfl rfl rfl ze29 (fun g15 => ?_)  -- t15 := alloc 
        refine sStore 2 rfl rfl rfl rfl rfl ty29 rfl rfl rfl (Nat.le_of_ble_eq_true rfl) ?_  -- t := store t15 t82
        refine lNil ?_
        refine wSeq ?_
        refine wSeq ?_
        refine wReg ?_  -- region 18
        refine sP rfl rfl rfl (pLdW 2 rfl rfl rfl ty29 rfl) ?_  -- t83 := load t15
        refine sP rfl rfl rfl (p_call rfl (rdelta_p (dreadD s) ⟨freadL_len _, by have := readD_len (dBt s).1; show (readD (dBt s).1).1.length < 1000000; omega, freadL_ok_all _⟩) ⟨Sub.refl, trivial⟩) ?_  -- t84 := call   -- t83
        refine sP rfl rfl rfl (pA rfl rfl) ?_  -- t16 := assign t84
        refine lNil ?_
        refine wSeq ?_
        refine wReg ?_  -- region 19
        refine sP rfl rfl rfl (pM rfl rfl) ?_  -- t85 := move t16
        refine sP rfl rfl rfl (p_icmp rfl rfl rfl rfl) ?_  -- t86 := binOp t85 c
        refine lNil ?_
        refine wCond rfl (fun hc4 => ?_) (fun hc4 => ?_)  -- t86
        · refine wSeq ?_
          refine wReg ?_  -- region 20
          refine sP rfl rfl rfl (p_build (res := [iA 0, iA 0, iA 0, iA 0, iA 0, .x (.slice none 0 0), .x (.slice none 0 0)]) rfl ze29 pl29 rfl rfl) ?_  -- t87 := build 
          refine sP rfl rfl rfl (pM rfl rfl) ?_  -- t88 := move t16
          refine sStore 0 rfl rfl rfl rfl rfl ty29 rfl rfl rfl (Nat.le_of_ble_eq_true rfl) ?_  -- t := store t2 t87
          refine sP rfl rfl rfl (pA rfl rfl) ?_  -- t3 := assign t88
          refine lNil ?_
          refine wRet ?_
          have hk : deltaE (dreadD s) ≠ 0 := by simpa using hc4
          have he : dreadE s = deltaE (dreadD s) := by unfold dreadE; rw [if_neg (by simpa using k0), if_neg (by simpa using k1), if_neg (by simpa using k2)]
          have k3 : dreadE s ≠ 0 := by rw [he]; exact hk
          have hT : dreadT s = zeroD := if_pos k3
          rw [hT]
          exact rgs2 (rg_cell rfl (List.mem_of_getElem? (i := 0) rfl) ty29 (.inl ⟨rfl, Nat.le_refl _, rfl⟩) (gives_sub (Sub.agg ⟨Sub.refl, Sub.refl, Sub.refl, Sub.refl, Sub.refl, Sub.nil_, Sub.nil_, trivial⟩))) (rg_tmp (gives_sub (Sub.of_eq (avI he.symm))))
        · refine wSkip ?_
          refine wSeq ?_
          refine wReg ?_  -- region 21
          refine sP rfl rfl rfl (pLdW 2 rfl rfl rfl ty29 rfl) ?_  -- t89 := load t15
          refine sStore 0 rfl rfl rfl rfl rfl ty29 rfl rfl rfl (Nat.le_of_ble_eq_true rfl) ?_  -- t := store t2 t89
          refine sP rfl rfl rfl (pA rfl rfl) ?_  -- t3 := assign c
          refine lNil ?_
          refine wRet ?_
          have k3 : deltaE (dreadD s) = 0 := by simpa using hc4
          have he : dreadE s = 0 := by unfold dreadE; rw [if_neg (by simpa using k0), if_neg (by simpa using k1), if_neg (by simpa using k2), k3]
          have hT : dreadD s = dreadT s := by unfold dreadT; rw [if_neg (by simpa using he)]
          exact rgs2 (rg_cell rfl (List.mem_of_getElem? (i := 0) rfl) ty29 (.inl ⟨rfl, Nat.le_refl _, rfl⟩) (gives_sub (Sub.of_eq (avDl hT)))) (rg_tmp (gives_sub (Sub.of_eq (avI he.symm))))

instance : DecidableEq DeltaT := fun a b => decidable_of_iff (a.1 = b.1 ∧ a.2.1 = b.2.1 ∧ a.2.2.1 = b.2.2.1 ∧ a.2.2.2 = b.2.2.2) ⟨fun ⟨h1, h2, h3, h4⟩ => Prod.ext h1 (Prod.ext h2 (Prod.ext h3 h4)), fun e => by rw [e]; exact ⟨rfl, rfl, rfl, rfl⟩⟩
theorem eqDl_cases (a b : DeltaT) : (a.1 ≠ b.1 ∧ decide (a = b) = false) ∨ (a.1 = b.1 ∧ a.2.1 ≠ b.2.1 ∧ decide (a = b) = false) ∨ (a.1 = b.1 ∧ a.2.1 = b.2.1 ∧ a.2.2.1 ≠ b.2.2.1 ∧ decide (a = b) = false) ∨
    (a.1 = b.1 ∧ a.2.1 = b.2.1 ∧ a.2.2.1 = b.2.2.1 ∧ a.2.2.2 ≠ b.2.2.2 ∧ decide (a = b) = false) ∨ (a.1 = b.1 ∧ a.2.1 = b.2.1 ∧ a.2.2.1 = b.2.2.1 ∧ a.2.2.2 = b.2.2.2 ∧ decide (a = b) = true) := by
  by_cases h1 : a.1 = b.1
  · by_cases h2 : a.2.1 = b.2.1
    · by_cases h3 : a.2.2.1 = b.2.2.1
      · by_cases h4 : a.2.2.2 = b.2.2.2
        · exact .inr (.inr (.inr (.inr ⟨h1, h2, h3, h4, decide_eq_true (Prod.ext h1 (Prod.ext h2 (Prod.ext h3 h4)))⟩)))
        · exact .inr (.inr (.inr (.inl ⟨h1, h2, h3, h4, decide_eq_false fun e => h4 (by rw [e])⟩)))
      · exact .inr (.inr (.inl ⟨h1, h2, h3, decide_eq_false fun e => h3 (by rw [e])⟩))
    · exact .inr (.inl ⟨h1, h2, decide_eq_false fun e => h2 (by rw [e])⟩)
  · exact .inl ⟨h1, decide_eq_false fun e => h1 (by rw [e])⟩
theorem rfsame_is {a b : List FactT} {r : Bool} (h : decide (a = b) = r) (h1 : a.length < 1000000) (h2 : b.length < 1000000) : PFn Try.prog False 47 [slF a, slF b] (bA r) := h ▸ rfsame_p a b h1 h2
theorem rdsame_is {a b : List (Int × Int)} {r : Bool} (h : decide (a = b) = r) (h1 : a.length < 1000000) (h2 : b.length < 1000000) : PFn Try.prog False 57 [slD a, slD b] (bA r) := h ▸ rdsame_p a b h1 h2

set_option maxRecDepth 100000 in
theorem rdesame_p (x y : DeltaT) (ox : OkD x) (oy : OkD y) : PFn Try.prog False 22 [dlA x, dlA y] (bA (decide (x = y))) := by
  refine pfn Try.func22 rfl (by kernel_rfl) 31 rfl _ rfl (Nat.le_of_ble_eq_true rfl) (fun X w0 => ?_)
  refine wSeq ?_
  refine wReg ?_  -- region 0
  refine sBox rfl rfl rfl rfl rfl (fun g2 => ?_)  -- t2 := box t0
  refine sBox rfl rfl rfl rfl rfl (fun g3 => ?_)  -- t3 := box t1
  refine sP rfl rfl rfl (pA rfl rfl) ?_  -- t4 := assign c
  refine lNil ?_
  refine wCut (fun L h => ∃ b : Bool, b = (decide (x = y)) ∧ L = [(2, nP g2), (4, bA b)] ∧ h = []) ?_ ?_
  · rcases eqDl_cases x y with ⟨e1, hbv⟩ | ⟨e1, e2, hbv⟩ | ⟨e1, e2, e3, hbv⟩ | ⟨e1, e2, e3, e4, hbv⟩ | ⟨e1, e2, e3, e4, hbv⟩
    · refine wReg ?_  -- region 1
      refine sP rfl rfl rfl (p_fieldAddr_own rfl rfl fl29_0 ty23 (by decide)) ?_  -- t5 := fieldAddr t2
      refine sP rfl rfl rfl (pLdO 0 rfl rfl rfl ty23 (Nat.le_of_ble_eq_true rfl) rfl) ?_  -- t6 := load t5
      refine sP rfl rfl rfl (p_fieldAddr_own rfl rfl fl29_0 ty23 (by decide)) ?_  -- t7 := fieldAddr t3
      refine sP rfl rfl rfl (pLdO 1 rfl rfl rfl ty23 (Nat.le_of_ble_eq_true rfl) rfl) ?_  -- t8 := load t7
      refine sP rfl rfl rfl (p_eqs (r := false) rfl rfl rfl rfl rfl guardD (fun w => eqD_f (d := 9998) (a := x.1) (b := y.1) e1)) ?_  -- t9 := binOp t6 t8
      refine sP rfl rfl rfl (pM rfl rfl) ?_  -- t10 := move t9
      refine sUx rfl rfl rfl (by decide) rfl rfl ?_  -- t11
      refine sUx rfl rfl rfl (by decide) rfl rfl ?_  -- t12
      refine sUx rfl rfl rfl (by decide) rfl rfl ?_  -- t13
      refine sUx rfl rfl rfl (by decide) rfl rfl ?_  -- t14
      refine sUx rfl rfl rfl (by decide) rfl rfl ?_  -- t15
      refine sP rfl rfl rfl (p_pick rfl rfl rfl) ?_  -- t16 := pick t10 t15 c
      refine sP rfl rfl rfl (pM rfl rfl) ?_  -- t17 := move t16
      refine sUx rfl rfl rfl (by decide) rfl rfl ?_  -- t18
      refine sUx rfl rfl rfl (by decide) rfl rfl ?_  -- t19
      refine sUx rfl rfl rfl (by decide) rfl rfl ?_  -- t20
      refine sUx rfl rfl rfl (by decide) rfl rfl ?_  -- t21
      refine sUx rfl rfl rfl (by decide) rfl rfl ?_  -- t22
      refine sP rfl rfl rfl (p_pick rfl rfl rfl) ?_  -- t23 := pick t17 t22 c
      refine sP rfl rfl rfl (pM rfl rfl) ?_  -- t24 := move t23
      refine sUx rfl rfl rfl (by decide) rfl rfl ?_  -- t25
      refine sUx rfl rfl rfl (by decide) rfl rfl ?_  -- t26
      refine sUx rfl rfl rfl (by decide) rfl rfl ?_  -- t27
      refine sUx rfl rfl rfl (by decide) rfl rfl ?_  -- t28
      refine sUx rfl rfl rfl (by decide) rfl rfl ?_  -- t29
      refine sP rfl rfl rfl (p_pick rfl rfl rfl) ?_  -- t30 := pick t24 t29 c
      refine sP rfl rfl rfl (pA rfl rfl) ?_  -- t4 := assign t30
      refine lNil ?_
      exact ⟨_, [], _, ⟨_, (by exact hbv.symm), rfl, rfl⟩, ⟨rfl, rfl, trivial⟩, rfl⟩
    · refine wReg ?_  -- region 1
      refine sP rfl rfl rfl (p_fieldAddr_own rfl rfl fl29_0 ty23 (by decide)) ?_  -- t5 := fieldAddr t2
      refine sP rfl rfl rfl (pLdO 0 rfl rfl rfl ty23 (Nat.le_of_ble_eq_true rfl) rfl) ?_  -- t6 := load t5
      refine sP rfl rfl rfl (p_fieldAddr_own rfl rfl fl29_0 ty23 (by decide)) ?_  -- t7 := fieldAddr t3
      refine sP rfl rfl rfl (pLdO 1 rfl rfl rfl ty23 (Nat.le_of_ble_eq_true rfl) rfl) ?_  -- t8 := load t7
      refine sP rfl rfl rfl (p_eqs (r := true) rfl rfl rfl rfl rfl guardD (fun w => eqD_t (d := 9998) (a := x.1) (b := y.1) e1)) ?_  -- t9 := binOp t6 t8
      refine sP rfl rfl rfl (pM rfl rfl) ?_  -- t10 := move t9
      refine sG rfl rfl rfl rfl rfl (p_fieldAddr_own rfl rfl fl29_1 ty25 (by decide)) ?_  -- t11 := fieldAddr t2   GUARD ['5', 'true']
      refine sG rfl rfl rfl rfl rfl (pLdO 0 rfl rfl rfl ty25 (Nat.le_of_ble_eq_true rfl) rfl) ?_  -- t12 := load t11   GUARD ['5', 'true']
      refine sG rfl rfl rfl rfl rfl (p_fieldAddr_own rfl rfl fl29_1 ty25 (by decide)) ?_  -- t13 := fieldAddr t3   GUARD ['5', 'true']
      refine sG rfl rfl rfl rfl rfl (pLdO 1 rfl rfl rfl ty25 (Nat.le_of_ble_eq_true rfl) rfl) ?_  -- t14 := load t13   GUARD ['5', 'true']
      refine sG rfl rfl rfl rfl rfl (p_eqs (r := false) rfl rfl rfl rfl rfl guardW (fun w => eqW_f (d := 9998) (a := x.2.1) (b := y.2.1) e2)) ?_  -- t15 := binOp t12 t14   GUARD ['5', 'true']
      refine sP rfl rfl rfl (p_pick rfl rfl rfl) ?_  -- t16 := pick t10 t15 c
      refine sP rfl rfl rfl (pM rfl rfl) ?_  -- t17 := move t16
      refine sUx rfl rfl rfl (by decide) rfl rfl ?_  -- t18
      refine sUx rfl rfl rfl (by decide) rfl rfl ?_  -- t19
      refine sUx rfl rfl rfl (by decide) rfl rfl ?_  -- t20
      refine sUx rfl rfl rfl (by decide) rfl rfl ?_  -- t21
      refine sUx rfl rfl rfl (by decide) rfl rfl ?_  -- t22
      refine sP rfl rfl rfl (p_pick rfl rfl rfl) ?_  -- t23 := pick t17 t22 c
      refine sP rfl rfl rfl (pM rfl rfl) ?_  -- t24 := move t23
      refine sUx rfl rfl rfl (by decide) rfl rfl ?_  -- t25
      refine sUx rfl rfl rfl (by decide) rfl rfl ?_  -- t26
      refine sUx rfl rfl rfl (by decide) rfl rfl ?_  -- t27
      refine sUx rfl rfl rfl (by decide) rfl rfl ?_  -- t28
      refine sUx rfl rfl rfl (by decide) rfl rfl ?_  -- t29
      refine sP rfl rfl rfl (p_pick rfl rfl rfl) ?_  -- t30 := pick t24 t29 c
      refine sP rfl rfl rfl (pA rfl rfl) ?_  -- t4 := assign t30
      refine lNil ?_
      exact ⟨_, [], _, ⟨_, (by exact hbv.symm), rfl, rfl⟩, ⟨rfl, rfl, trivial⟩, rfl⟩
    · refine wReg ?_  -- region 1
      refine sP rfl rfl rfl (p_fieldAddr_own rfl rfl fl29_0 ty23 (by decide)) ?_  -- t5 := fieldAddr t2
      refine sP rfl rfl rfl (pLdO 0 rfl rfl rfl ty23 (Nat.le_of_ble_eq_true rfl) rfl) ?_  -- t6 := load t5
      refine sP rfl rfl rfl (p_fieldAddr_own rfl rfl fl29_0 ty23 (by decide)) ?_  -- t7 := fieldAddr t3
      refine sP rfl rfl rfl (pLdO 1 rfl rfl rfl ty23 (Nat.le_of_ble_eq_true rfl) rfl) ?_  -- t8 := load t7
      refine sP rfl rfl rfl (p_eqs (r := true) rfl rfl rfl rfl rfl guardD (fun w => eqD_t (d := 9998) (a := x.1) (b := y.1) e1)) ?_  -- t9 := binOp t6 t8
      refine sP rfl rfl rfl (pM rfl rfl) ?_  -- t10 := move t9
      refine sG rfl rfl rfl rfl rfl (p_fieldAddr_own rfl rfl fl29_1 ty25 (by decide)) ?_  -- t11 := fieldAddr t2   GUARD ['5', 'true']
      refine sG rfl rfl rfl rfl rfl (pLdO 0 rfl rfl rfl ty25 (Nat.le_of_ble_eq_true rfl) rfl) ?_  -- t12 := load t11   GUARD ['5', 'true']
      refine sG rfl rfl rfl rfl rfl (p_fieldAddr_own rfl rfl fl29_1 ty25 (by decide)) ?_  -- t13 := fieldAddr t3   GUARD ['5', 'true']
      refine sG rfl rfl rfl rfl rfl (pLdO 1 rfl rfl rfl ty25 (Nat.le_of_ble_eq_true rfl) rfl) ?_  -- t14 := load t13   GUARD ['5', 'true']
      refine sG rfl rfl rfl rfl rfl (p_eqs (r := true) rfl rfl rfl rfl rfl guardW (fun w => eqW_t (d := 9998) (a := x.2.1) (b := y.2.1) e2)) ?_  -- t15 := binOp t12 t14   GUARD ['5', 'true']
      refine sP rfl rfl rfl (p_pick rfl rfl rfl) ?_  -- t16 := pick t10 t15 c
      refine sP rfl rfl rfl (pM rfl rfl) ?_  -- t17 := move t16
      refine sG rfl rfl rfl rfl rfl (p_fieldAddr_own rfl rfl fl29_2 ty26 (by decide)) ?_  -- t18 := fieldAddr t2   GUARD ['12', 'true']
      refine sG rfl rfl rfl rfl rfl (pLdO1 0 rfl rfl rfl ty26 rfl) ?_  -- t19 := load t18   GUARD ['12', 'true']
      refine sG rfl rfl rfl rfl rfl (p_fieldAddr_own rfl rfl fl29_2 ty26 (by decide)) ?_  -- t20 := fieldAddr t3   GUARD ['12', 'true']
      refine sG rfl rfl rfl rfl rfl (pLdO1 1 rfl rfl rfl ty26 rfl) ?_  -- t21 := load t20   GUARD ['12', 'true']
      refine sG rfl rfl rfl rfl rfl (p_call rfl (rfsame_is (decide_eq_false e3) ox.nf oy.nf) ⟨Sub.refl, Sub.refl, trivial⟩) ?_  -- t22 := call    GUARD ['12', 'true']  -- t19 t21
      refine sP rfl rfl rfl (p_pick rfl rfl rfl) ?_  -- t23 := pick t17 t22 c
      refine sP rfl rfl rfl (pM rfl rfl) ?_  -- t24 := move t23
      refine sUx rfl rfl rfl (by decide) rfl rfl ?_  -- t25
      refine sUx rfl rfl rfl (by decide) rfl rfl ?_  -- t26
      refine sUx rfl rfl rfl (by decide) rfl rfl ?_  -- t27
      refine sUx rfl rfl rfl (by decide) rfl rfl ?_  -- t28
      refine sUx rfl rfl rfl (by decide) rfl rfl ?_  -- t29
      refine sP rfl rfl rfl (p_pick rfl rfl rfl) ?_  -- t30 := pick t24 t29 c
      refine sP rfl rfl rfl (pA rfl rfl) ?_  -- t4 := assign t30
      refine lNil ?_
      exact ⟨_, [], _, ⟨_, (by exact hbv.symm), rfl, rfl⟩, ⟨rfl, rfl, trivial⟩, rfl⟩
    · refine wReg ?_  -- region 1
      refine sP rfl rfl rfl (p_fieldAddr_own rfl rfl fl29_0 ty23 (by decide)) ?_  -- t5 := fieldAddr t2
      refine sP rfl rfl rfl (pLdO 0 rfl rfl rfl ty23 (Nat.le_of_ble_eq_true rfl) rfl) ?_  -- t6 := load t5
      refine sP rfl rfl rfl (p_fieldAddr_own rfl rfl fl29_0 ty23 (by decide)) ?_  -- t7 := fieldAddr t3
      refine sP rfl rfl rfl (pLdO 1 rfl rfl rfl ty23 (Nat.le_of_ble_eq_true rfl) rfl) ?_  -- t8 := load t7
      refine sP rfl rfl rfl (p_eqs (r := true) rfl rfl rfl rfl rfl guardD (fun w => eqD_t (d := 9998) (a := x.1) (b := y.1) e1)) ?_  -- t9 := binOp t6 t8
      refine sP rfl rfl rfl (pM rfl rfl) ?_  -- t10 := move t9
      refine sG rfl rfl rfl rfl rfl (p_fieldAddr_own rfl rfl fl29_1 ty25 (by decide)) ?_  -- t11 := fieldAddr t2   GUARD ['5', 'true']
      refine sG rfl rfl rfl rfl rfl (pLdO 0 rfl rfl rfl ty25 (Nat.le_of_ble_eq_true rfl) rfl) ?_  -- t12 := load t11   GUARD ['5', 'true']
      refine sG rfl rfl rfl rfl rfl (p_fieldAddr_own rfl rfl fl29_1 ty25 (by decide)) ?_  -- t13 := fieldAddr t3   GUARD ['5', 'true']
      refine sG rfl rfl rfl rfl rfl (pLdO 1 rfl rfl rfl ty25 (Nat.le_of_ble_eq_true rfl) rfl) ?_  -- t14 := load t13   GUARD ['5', 'true']
      refine sG rfl rfl rfl rfl rfl (p_eqs (r := true) rfl rfl rfl rfl rfl guardW (fun w => eqW_t (d := 9998) (a := x.2.1) (b := y.2.1) e2)) ?_  -- t15 := binOp t12 t14   GUARD ['5', 'true']
      refine sP rfl rfl rfl (p_pick rfl rfl rfl) ?_  -- t16 := pick t10 t15 c
      refine sP rfl rfl rfl (pM rfl rfl) ?_  -- t17 := move t16
      refine sG rfl rfl rfl rfl rfl (p_fieldAddr_own rfl rfl fl29_2 ty26 (by decide)) ?_  -- t18 := fieldAddr t2   GUARD ['12', 'true']
      refine sG rfl rfl rfl rfl rfl (pLdO1 0 rfl rfl rfl ty26 rfl) ?_  -- t19 := load t18   GUARD ['12', 'true']
      refine sG rfl rfl rfl rfl rfl (p_fieldAddr_own rfl rfl fl29_2 ty26 (by decide)) ?_  -- t20 := fieldAddr t3   GUARD ['12', 'true']
      refine sG rfl rfl rfl rfl rfl (pLdO1 1 rfl rfl rfl ty26 rfl) ?_  -- t21 := load t20   GUARD ['12', 'true']
      refine sG rfl rfl rfl rfl rfl (p_call rfl (rfsame_is (decide_eq_true e3) ox.nf oy.nf) ⟨Sub.refl, Sub.refl, trivial⟩) ?_  -- t22 := call    GUARD ['12', 'true']  -- t19 t21
      refine sP rfl rfl rfl (p_pick rfl rfl rfl) ?_  -- t23 := pick t17 t22 c
      refine sP rfl rfl rfl (pM rfl rfl) ?_  -- t24 := move t23
      refine sG rfl rfl rfl rfl rfl (p_fieldAddr_own rfl rfl fl29_3 ty27 (by decide)) ?_  -- t25 := fieldAddr t2   GUARD ['19', 'true']
      refine sG rfl rfl rfl rfl rfl (pLdO1 0 rfl rfl rfl ty27 rfl) ?_  -- t26 := load t25   GUARD ['19', 'true']
      refine sG rfl rfl rfl rfl rfl (p_fieldAddr_own rfl rfl fl29_3 ty27 (by decide)) ?_  -- t27 := fieldAddr t3   GUARD ['19', 'true']
      refine sG rfl rfl rfl rfl rfl (pLdO1 1 rfl rfl rfl ty27 rfl) ?_  -- t28 := load t27   GUARD ['19', 'true']
      refine sG rfl rfl rfl rfl rfl (p_call rfl (rdsame_is (decide_eq_false e4) ox.ng oy.ng) ⟨Sub.refl, Sub.refl, trivial⟩) ?_  -- t29 := call    GUARD ['19', 'true']  -- t26 t28
      refine sP rfl rfl rfl (p_pick rfl rfl rfl) ?_  -- t30 := pick t24 t29 c
      refine sP rfl rfl rfl (pA rfl rfl) ?_  -- t4 := assign t30
      refine lNil ?_
      exact ⟨_, [], _, ⟨_, (by exact hbv.symm), rfl, rfl⟩, ⟨rfl, rfl, trivial⟩, rfl⟩
    · refine wReg ?_  -- region 1
      refine sP rfl rfl rfl (p_fieldAddr_own rfl rfl fl29_0 ty23 (by decide)) ?_  -- t5 := fieldAddr t2
      refine sP rfl rfl rfl (pLdO 0 rfl rfl rfl ty23 (Nat.le_of_ble_eq_true rfl) rfl) ?_  -- t6 := load t5
      refine sP rfl rfl rfl (p_fieldAddr_own rfl rfl fl29_0 ty23 (by decide)) ?_  -- t7 := fieldAddr t3
      refine sP rfl rfl rfl (pLdO 1 rfl rfl rfl ty23 (Nat.le_of_ble_eq_true rfl) rfl) ?_  -- t8 := load t7
      refine sP rfl rfl rfl (p_eqs (r := true) rfl rfl rfl rfl rfl guardD (fun w => eqD_t (d := 9998) (a := x.1) (b := y.1) e1)) ?_  -- t9 := binOp t6 t8
      refine sP rfl rfl rfl (pM rfl rfl) ?_  -- t10 := move t9
      refine sG rfl rfl rfl rfl rfl (p_fieldAddr_own rfl rfl fl29_1 ty25 (by decide)) ?_  -- t11 := fieldAddr t2   GUARD ['5', 'true']
      refine sG rfl rfl rfl rfl rfl (pLdO 0 rfl rfl rfl ty25 (Nat.le_of_ble_eq_true rfl) rfl) ?_  -- t12 := load t11   GUARD ['5', 'true']
      refine sG rfl rfl rfl rfl rfl (p_fieldAddr_own rfl rfl fl29_1 ty25 (by decide)) ?_  -- t13 := fieldAddr t3   GUARD ['5', 'true']
      refine sG rfl rfl rfl rfl rfl (pLdO 1 rfl rfl rfl ty25 (Nat.le_of_ble_eq_true rfl) rfl) ?_  -- t14 := load t13   GUARD ['5', 'true']
      refine sG rfl rfl rfl rfl rfl (p_eqs (r := true) rfl rfl rfl rfl rfl guardW (fun w => eqW_t (d := 9998) (a := x.2.1) (b := y.2.1) e2)) ?_  -- t15 := binOp t12 t14   GUARD ['5', 'true']
      refine sP rfl rfl rfl (p_pick rfl rfl rfl) ?_  -- t16 := pick t10 t15 c
      refine sP rfl rfl rfl (pM rfl rfl) ?_  -- t17 := move t16
      refine sG rfl rfl rfl rfl rfl (p_fieldAddr_own rfl rfl fl29_2 ty26 (by decide)) ?_  -- t18 := fieldAddr t2   GUARD ['12', 'true']
      refine sG rfl rfl rfl rfl rfl (pLdO1 0 rfl rfl rfl ty26 rfl) ?_  -- t19 := load t18   GUARD ['12', 'true']
      refine sG rfl rfl rfl rfl rfl (p_fieldAddr_own rfl rfl fl29_2 ty26 (by decide)) ?_  -- t20 := fieldAddr t3   GUARD ['12', 'true']
      refine sG rfl rfl rfl rfl rfl (pLdO1 1 rfl rfl rfl ty26 rfl) ?_  -- t21 := load t20   GUARD ['12', 'true']
      refine sG rfl rfl rfl rfl rfl (p_call rfl (rfsame_is (decide_eq_true e3) ox.nf oy.nf) ⟨Sub.refl, Sub.refl, trivial⟩) ?_  -- t22 := call    GUARD ['12', 'true']  -- t19 t21
      refine sP rfl rfl rfl (p_pick rfl rfl rfl) ?_  -- t23 := pick t17 t22 c
      refine sP rfl rfl rfl (pM rfl rfl) ?_  -- t24 := move t23
      refine sG rfl rfl rfl rfl rfl (p_fieldAddr_own rfl rfl fl29_3 ty27 (by decide)) ?_  -- t25 := fieldAddr t2   GUARD ['19', 'true']
      refine sG rfl rfl rfl rfl rfl (pLdO1 0 rfl rfl rfl ty27 rfl) ?_  -- t26 := load t25   GUARD ['19', 'true']
      refine sG rfl rfl rfl rfl rfl (p_fieldAddr_own rfl rfl fl29_3 ty27 (by decide)) ?_  -- t27 := fieldAddr t3   GUARD ['19', 'true']
      refine sG rfl rfl rfl rfl rfl (pLdO1 1 rfl rfl rfl ty27 rfl) ?_  -- t28 := load t27   GUARD ['19', 'true']
      refine sG rfl rfl rfl rfl rfl (p_call rfl (rdsame_is (decide_eq_true e4) ox.ng oy.ng) ⟨Sub.refl, Sub.refl, trivial⟩) ?_  -- t29 := call    GUARD ['19', 'true']  -- t26 t28
      refine sP rfl rfl rfl (p_pick rfl rfl rfl) ?_  -- t30 := pick t24 t29 c
      refine sP rfl rfl rfl (pA rfl rfl) ?_  -- t4 := assign t30
      refine lNil ?_
      exact ⟨_, [], _, ⟨_, (by exact hbv.symm), rfl, rfl⟩, ⟨rfl, rfl, trivial⟩, rfl⟩
  · rintro L h ⟨b, hb, rfl, rfl⟩
    refine wRet ?_
    exact rgs1 (rg_tmp (gives_sub (Sub.of_eq (avB hb))))
end Go.Proofs.Ytmhkalalcmkpbaa
