/-
  Eq Fr
-/
import Derived.Test.YtmhkalalcmkpbaaZFacB
import Derived.Test.YtmhkalalcmkpbaaZFo2
import Derived.Laws.StructEq
namespace Go.Proofs.Ytmhkalalcmkpbaa
open Go Go.RowKit
set_option linter.unusedVariables false
set_option linter.unusedSimpArgs false

section
variable {P : Program} {K : Prop} {N : Nat} {X : Nat → Prop} {h : List HObj} {f : Nat → AV} {o : Oper}
theorem p_eqs {t t' : TypeId} {x y : Operand} {cs ds : List AV} {r : Bool} (ho : o.op = .binOp .eql t x y t') (hx : evalT f x = .agg cs) (hy : evalT f y = .agg ds) (h1 : AV.exL cs = true) (h2 : AV.exL ds = true) (hg : P.eqGuardType P.depth t = false)
    (heq : ∀ w, (Op.equalIn 10000 t (.agg (AV.vals cs).toArray) (.agg (AV.vals ds).toArray)).run P w = .ok r w) : PureOp P K N X h f o (.x (.bool r)) := pure_run fun ac w w0 env H => by
  rw [ho] at H
  have g1 := H x (by simp [Op.operands])
  have g2 := H y (by simp [Op.operands])
  rw [hx, AV.rep_val _ (by simpa only [AV.ex] using h1)] at g1
  rw [hy, AV.rep_val _ (by simpa only [AV.ex] using h2)] at g2
  simp only [AV.val] at g1 g2
  refine ⟨.bool r, ?_, rep_x.2 rfl⟩
  simp [execOp, ho, g1, g2, eqGuard, hg, binOp, Op.equal, Op.maxDepth, heq]
theorem p_nes {t t' : TypeId} {x y : Operand} {cs ds : List AV} {r : Bool} (ho : o.op = .binOp .neq t x y t') (hx : evalT f x = .agg cs) (hy : evalT f y = .agg ds) (h1 : AV.exL cs = true) (h2 : AV.exL ds = true) (hg : P.eqGuardType P.depth t = false)
    (heq : ∀ w, (Op.equalIn 10000 t (.agg (AV.vals cs).toArray) (.agg (AV.vals ds).toArray)).run P w = .ok r w) : PureOp P K N X h f o (.x (.bool !r)) := pure_run fun ac w w0 env H => by
  rw [ho] at H
  have g1 := H x (by simp [Op.operands])
  have g2 := H y (by simp [Op.operands])
  rw [hx, AV.rep_val _ (by simpa only [AV.ex] using h1)] at g1
  rw [hy, AV.rep_val _ (by simpa only [AV.ex] using h2)] at g2
  simp only [AV.val] at g1 g2
  refine ⟨.bool !r, ?_, rep_x.2 rfl⟩
  simp [execOp, ho, g1, g2, eqGuard, hg, binOp, Op.equal, Op.maxDepth, heq]
end

theorem eqD (d : Nat) (w : World) (a b : Int × Int) : (Op.equalIn (d + 2) 23 (.agg #[.int .i64 a.1, .int .i64 a.2]) (.agg #[.int .i64 b.1, .int .i64 b.2])).run Try.prog w = .ok (decide (a = b)) w := by
  obtain ⟨a1, a2⟩ := a
  obtain ⟨b1, b2⟩ := b
  rw [run_equalIn_struct w (d + 1) _ _ _ (by kernel_rfl) (by kernel_rfl)]
  go_simp
  by_cases h1 : a1 = b1 <;> by_cases h2 : a2 = b2 <;> simp [h1, h2]
theorem eqW (d : Nat) (w : World) (a b : Int × Int × Int) : (Op.equalIn (d + 2) 25 (.agg #[.int .i64 a.1, .int .i64 a.2.1, .int .i64 a.2.2]) (.agg #[.int .i64 b.1, .int .i64 b.2.1, .int .i64 b.2.2])).run Try.prog w = .ok (decide (a = b)) w := by
  obtain ⟨a1, a2, a3⟩ := a
  obtain ⟨b1, b2, b3⟩ := b
  rw [run_equalIn_struct w (d + 1) _ _ _ (by kernel_rfl) (by kernel_rfl)]
  go_simp
  by_cases h1 : a1 = b1 <;> by_cases h2 : a2 = b2 <;> by_cases h3 : a3 = b3 <;> simp [h1, h2, h3]
theorem guardD : Try.prog.eqGuardType Try.prog.depth 23 = false := by kernel_rfl
theorem guardW : Try.prog.eqGuardType Try.prog.depth 25 = false := by kernel_rfl
theorem guardF : Try.prog.eqGuardType Try.prog.depth 87 = false := by kernel_rfl
theorem strEq (a b : ByteArray) : (a.toList == b.toList) = decide (a = b) := by
  rw [Bool.eq_iff_iff]; simp only [beq_iff_eq, decide_eq_true_eq]
  exact ⟨ba_toList_inj, fun e => by rw [e]⟩
theorem eqF (w : World) (x y : FactT) : (Op.equalIn 10000 87 (.agg (AV.vals (encF x)).toArray) (.agg (AV.vals (encF y)).toArray)).run Try.prog w = .ok (decide (x = y)) w := by
  obtain ⟨⟨x1, x2⟩, ⟨x3, x4, x5⟩, x6, x7, x8⟩ := x
  obtain ⟨⟨y1, y2⟩, ⟨y3, y4, y5⟩, y6, y7, y8⟩ := y
  show (Op.equalIn 10000 87 (.agg #[.int .i64 x1, .int .i64 x2, .int .i64 x3, .int .i64 x4, .int .i64 x5, .int .i64 x6, .string x7, .string x8]) (.agg #[.int .i64 y1, .int .i64 y2, .int .i64 y3, .int .i64 y4, .int .i64 y5, .int .i64 y6, .string y7, .string y8])).run Try.prog w = _
  have e1 := eqD 9997 w (x1, x2) (y1, y2)
  have e2 := eqW 9997 w (x3, x4, x5) (y3, y4, y5)
  rw [run_equalIn_struct w 9999 _ _ _ (by kernel_rfl) (by kernel_rfl)]
  go_simp
  have ts : ∀ a b : ByteArray, (a.toList = b.toList) = (a = b) := fun a b => propext ⟨ba_toList_inj, fun e => by rw [e]⟩
  simp only [ts]
  by_cases h1 : x1 = y1
  · by_cases h2 : x2 = y2
    · by_cases h3 : x3 = y3
      · by_cases h4 : x4 = y4
        · by_cases h5 : x5 = y5
          · by_cases h6 : x6 = y6
            · by_cases h7 : x7 = y7
              · by_cases h8 : x8 = y8 <;> simp [h1, h2, h3, h4, h5, h6, h7, h8]
              · simp [h1, h2, h3, h4, h5, h6, h7]
            · simp [h1, h2, h3, h4, h5, h6]
          · simp [h1, h2, h3, h4, h5]
        · simp [h1, h2, h3, h4]
      · simp [h1, h2, h3]
    · simp [h1, h2]
  · simp [h1]

theorem byL_neg {p q : Bool} : decide (byL p q < 0) = p := by cases p <;> cases q <;> rfl
theorem cmp_zero_iff {α : Type} {c : α → α → Int} (h : Cmps c) {a b : α} : c a b ≠ 0 ↔ a ≠ b := not_congr (h.zero a b)
theorem cmpsD : Cmps byD := cmps_of_sto stoD
theorem cmpsW : Cmps byW := cmps_of_sto stoS
theorem lt_name {x y : FactT} (h : x.2.2.2.1 ≠ y.2.2.2.1) : ltF x y = ltStr x.2.2.2.1 y.2.2.2.1 := by
  unfold ltF ordF orI
  rw [if_neg ((cmp_zero_iff cmpsS).2 h)]
  exact byL_neg
theorem lt_kind {x y : FactT} (h : x.2.2.2.1 = y.2.2.2.1) (h2 : x.2.2.1 ≠ y.2.2.1) : ltF x y = decide (x.2.2.1 < y.2.2.1) := by
  unfold ltF ordF orI
  rw [if_pos ((cmpsS.zero _ _).2 h), if_neg ((cmp_zero_iff cmpsI).2 h2)]
  unfold cmpI
  rcases Int.lt_trichotomy x.2.2.1 y.2.2.1 with h | h | h
  · simp [h]
  · exact absurd h h2
  · simp [h, show ¬ x.2.2.1 < y.2.2.1 by omega]
theorem lt_dot {x y : FactT} (h : x.2.2.2.1 = y.2.2.2.1) (h2 : x.2.2.1 = y.2.2.1) (h3 : x.1 ≠ y.1) : ltF x y = ltD x.1 y.1 := by
  unfold ltF ordF orI
  rw [if_pos ((cmpsS.zero _ _).2 h), if_pos ((cmpsI.zero _ _).2 h2), if_neg ((cmp_zero_iff cmpsD).2 h3)]
  exact byL_neg
theorem lt_stamp {x y : FactT} (h : x.2.2.2.1 = y.2.2.2.1) (h2 : x.2.2.1 = y.2.2.1) (h3 : x.1 = y.1) (h4 : x.2.1 ≠ y.2.1) : ltF x y = ltS x.2.1 y.2.1 := by
  unfold ltF ordF orI
  rw [if_pos ((cmpsS.zero _ _).2 h), if_pos ((cmpsI.zero _ _).2 h2), if_pos (cmpsD.zero _ _ |>.2 h3), if_neg ((cmp_zero_iff cmpsW).2 h4)]
  exact byL_neg
theorem lt_val {x y : FactT} (h : x.2.2.2.1 = y.2.2.2.1) (h2 : x.2.2.1 = y.2.2.1) (h3 : x.1 = y.1) (h4 : x.2.1 = y.2.1) : ltF x y = ltStr x.2.2.2.2 y.2.2.2.2 := by
  unfold ltF ordF orI
  rw [if_pos ((cmpsS.zero _ _).2 h), if_pos ((cmpsI.zero _ _).2 h2), if_pos (cmpsD.zero _ _ |>.2 h3), if_pos (cmpsW.zero _ _ |>.2 h4)]
  exact byL_neg
end Go.Proofs.Ytmhkalalcmkpbaa

namespace Go.Proofs.Ytmhkalalcmkpbaa
open Go Go.RowKit
set_option linter.unusedVariables false
set_option linter.unusedSimpArgs false

theorem rdless_p (a b : Int × Int) : PFn Try.prog False 129 [dA a, dA b] (bA (ltD a b)) := pfn_ex rfl rfl (enter_of Try.func129 (by kernel_rfl) rfl) fun w => (rless_c a b w).mono fun e w' ⟨h1, h2⟩ => ⟨h1, bl_weak h2⟩
theorem rsless_p (a b : Int × Int × Int) : PFn Try.prog False 149 [wA a, wA b] (bA (ltS a b)) := pfn_ex rfl rfl (enter_of Try.func149 (by kernel_rfl) rfl) fun w => (rsless_c a b w).mono fun e w' ⟨h1, h2⟩ => ⟨h1, bl_weak h2⟩


theorem fcheck_p (f : FactT) (h : okF f) : PFn Try.prog False 102 [fA f] (iA (chkF f)) := pfn_ex rfl rfl (enter_of Try.func102 (by kernel_rfl) rfl) fun w => (fcheck_c f (by have := h.1; omega) h.2 w).mono fun e w' ⟨h1, h2⟩ => ⟨h1, bl_weak h2⟩
theorem rfcheck_p (f : FactT) (h : okF f) : PFn Try.prog False 128 [fA f] (iA (chkF f)) := pfn_ex rfl rfl (enter_of Try.func128 (by kernel_rfl) rfl) fun w => (rfcheck_c f (by have := h.1; omega) h.2 w).mono fun e w' ⟨h1, h2⟩ => ⟨h1, bl_weak h2⟩
def inF (l : List FactT) (x : FactT) : Bool := l.any fun y => decide (y = x)
theorem inF_yes {l : List FactT} {i : Nat} {d x : FactT} (hd : l[i]? = some d) (h : d = x) : inF l x = true := List.any_eq_true.2 ⟨d, List.mem_of_getElem? hd, by simp [h]⟩
theorem inF_no {l : List FactT} {x : FactT} (h : ∀ (j : Nat) y, l[j]? = some y → y ≠ x) : inF l x = false := by
  rw [inF, List.any_eq_false]
  intro y hy
  obtain ⟨j, hj⟩ := List.mem_iff_getElem?.1 hy
  simpa using h j y hj

set_option maxRecDepth 100000 in
theorem rfless_p (x y : FactT) : PFn Try.prog False 116 [fA x, fA y] (bA (ltF x y)) := by
  refine pfn Try.func116 rfl (by kernel_rfl) 54 rfl _ rfl (Nat.le_of_ble_eq_true rfl) (fun X w0 => ?_)
  refine wSeq ?_
  refine wReg ?_
  refine sBox rfl rfl rfl rfl rfl (fun g2 => ?_)
  refine sBox rfl rfl rfl rfl rfl (fun g3 => ?_)
  refine sP rfl rfl rfl (pA rfl rfl) ?_
  refine lNil ?_
  refine wSeq ?_
  refine wBlock ?_
  refine wSeq ?_
  refine wReg ?_
  refine sP rfl rfl rfl (p_fieldAddr_own rfl rfl fl87_3 ty9 (by decide)) ?_
  refine sP rfl rfl rfl (pLdO1 0 rfl rfl rfl ty9 rfl) ?_
  refine sP rfl rfl rfl (p_fieldAddr_own rfl rfl fl87_3 ty9 (by decide)) ?_
  refine sP rfl rfl rfl (pLdO1 1 rfl rfl rfl ty9 rfl) ?_
  refine sP rfl rfl rfl (p_scmp rfl rfl rfl rfl) ?_
  refine sP rfl rfl rfl (pA rfl rfl) ?_
  refine lNil ?_
  refine wCond rfl (fun hc1 => ?_) (fun hc1 => ?_)
  · refine wSeq ?_
    refine wReg ?_
    refine sP rfl rfl rfl (p_fieldAddr_own rfl rfl fl87_3 ty9 (by decide)) ?_
    refine sP rfl rfl rfl (pLdO1 0 rfl rfl rfl ty9 rfl) ?_
    refine sP rfl rfl rfl (p_fieldAddr_own rfl rfl fl87_3 ty9 (by decide)) ?_
    refine sP rfl rfl rfl (pLdO1 1 rfl rfl rfl ty9 rfl) ?_
    refine sP rfl rfl rfl (p_scmp rfl rfl rfl rfl) ?_
    refine sP rfl rfl rfl (pA rfl rfl) ?_
    refine lNil ?_
    refine wRet ?_
    exact rgs1 (rg_tmp (gives_sub (Sub.of_eq (avB (lt_name (by simpa using hc1)).symm))))
  · have h1 : x.2.2.2.1 = y.2.2.2.1 := by simpa using hc1
    refine wSeq ?_
    refine wReg ?_
    refine sP rfl rfl rfl (p_fieldAddr_own rfl rfl fl87_2 ty3 (by decide)) ?_
    refine sP rfl rfl rfl (pLdO1 0 rfl rfl rfl ty3 rfl) ?_
    refine sP rfl rfl rfl (p_fieldAddr_own rfl rfl fl87_2 ty3 (by decide)) ?_
    refine sP rfl rfl rfl (pLdO1 1 rfl rfl rfl ty3 rfl) ?_
    refine sP rfl rfl rfl (p_icmp rfl rfl rfl rfl) ?_
    refine sP rfl rfl rfl (pA rfl rfl) ?_
    refine lNil ?_
    refine wCond rfl (fun hc2 => ?_) (fun hc2 => ?_)
    · refine wSeq ?_
      refine wReg ?_
      refine sP rfl rfl rfl (p_fieldAddr_own rfl rfl fl87_2 ty3 (by decide)) ?_
      refine sP rfl rfl rfl (pLdO1 0 rfl rfl rfl ty3 rfl) ?_
      refine sP rfl rfl rfl (p_fieldAddr_own rfl rfl fl87_2 ty3 (by decide)) ?_
      refine sP rfl rfl rfl (pLdO1 1 rfl rfl rfl ty3 rfl) ?_
      refine sP rfl rfl rfl (p_icmp rfl rfl rfl rfl) ?_
      refine sP rfl rfl rfl (pA rfl rfl) ?_
      refine lNil ?_
      refine wRet ?_
      exact rgs1 (rg_tmp (gives_sub (Sub.of_eq (avB (lt_kind h1 (by simpa using hc2)).symm))))
    · have h2 : x.2.2.1 = y.2.2.1 := by simpa using hc2
      refine wSeq ?_
      refine wReg ?_
      refine sP rfl rfl rfl (p_fieldAddr_own rfl rfl fl87_0 ty23 (by decide)) ?_
      refine sP rfl rfl rfl (pLdO 0 rfl rfl rfl ty23 (Nat.le_of_ble_eq_true rfl) rfl) ?_
      refine sP rfl rfl rfl (p_fieldAddr_own rfl rfl fl87_0 ty23 (by decide)) ?_
      refine sP rfl rfl rfl (pLdO 1 rfl rfl rfl ty23 (Nat.le_of_ble_eq_true rfl) rfl) ?_
      refine sP rfl rfl rfl (p_nes rfl rfl rfl rfl rfl guardD (fun w => eqD 9998 w x.1 y.1)) ?_
      refine sP rfl rfl rfl (pA rfl rfl) ?_
      refine lNil ?_
      refine wCond rfl (fun hc3 => ?_) (fun hc3 => ?_)
      · refine wSeq ?_
        refine wReg ?_
        refine sP rfl rfl rfl (p_fieldAddr_own rfl rfl fl87_0 ty23 (by decide)) ?_
        refine sP rfl rfl rfl (pLdO 0 rfl rfl rfl ty23 (Nat.le_of_ble_eq_true rfl) rfl) ?_
        refine sP rfl rfl rfl (p_fieldAddr_own rfl rfl fl87_0 ty23 (by decide)) ?_
        refine sP rfl rfl rfl (pLdO 1 rfl rfl rfl ty23 (Nat.le_of_ble_eq_true rfl) rfl) ?_
        refine sP rfl rfl rfl (p_call rfl (rdless_p x.1 y.1) ⟨Sub.refl, Sub.refl, trivial⟩) ?_
        refine sP rfl rfl rfl (pA rfl rfl) ?_
        refine lNil ?_
        refine wRet ?_
        exact rgs1 (rg_tmp (gives_sub (Sub.of_eq (avB (lt_dot h1 h2 (by simpa using hc3)).symm))))
      · have h3 : x.1 = y.1 := by simpa using hc3
        refine wSeq ?_
        refine wReg ?_
        refine sP rfl rfl rfl (p_fieldAddr_own rfl rfl fl87_1 ty25 (by decide)) ?_
        refine sP rfl rfl rfl (pLdO 0 rfl rfl rfl ty25 (Nat.le_of_ble_eq_true rfl) rfl) ?_
        refine sP rfl rfl rfl (p_fieldAddr_own rfl rfl fl87_1 ty25 (by decide)) ?_
        refine sP rfl rfl rfl (pLdO 1 rfl rfl rfl ty25 (Nat.le_of_ble_eq_true rfl) rfl) ?_
        refine sP rfl rfl rfl (p_nes rfl rfl rfl rfl rfl guardW (fun w => eqW 9998 w x.2.1 y.2.1)) ?_
        refine sP rfl rfl rfl (pA rfl rfl) ?_
        refine lNil ?_
        refine wCond rfl (fun hc4 => ?_) (fun hc4 => ?_)
        · refine wSeq ?_
          refine wReg ?_
          refine sP rfl rfl rfl (p_fieldAddr_own rfl rfl fl87_1 ty25 (by decide)) ?_
          refine sP rfl rfl rfl (pLdO 0 rfl rfl rfl ty25 (Nat.le_of_ble_eq_true rfl) rfl) ?_
          refine sP rfl rfl rfl (p_fieldAddr_own rfl rfl fl87_1 ty25 (by decide)) ?_
          refine sP rfl rfl rfl (pLdO 1 rfl rfl rfl ty25 (Nat.le_of_ble_eq_true rfl) rfl) ?_
          refine sP rfl rfl rfl (p_call rfl (rsless_p x.2.1 y.2.1) ⟨Sub.refl, Sub.refl, trivial⟩) ?_
          refine sP rfl rfl rfl (pA rfl rfl) ?_
          refine lNil ?_
          refine wRet ?_
          exact rgs1 (rg_tmp (gives_sub (Sub.of_eq (avB (lt_stamp h1 h2 h3 (by simpa using hc4)).symm))))
        · have h4 : x.2.1 = y.2.1 := by simpa using hc4
          refine wSkip ?_
          refine wSeq ?_
          refine wReg ?_
          refine sP rfl rfl rfl (p_fieldAddr_own rfl rfl fl87_4 ty9 (by decide)) ?_
          refine sP rfl rfl rfl (pLdO1 0 rfl rfl rfl ty9 rfl) ?_
          refine sP rfl rfl rfl (p_fieldAddr_own rfl rfl fl87_4 ty9 (by decide)) ?_
          refine sP rfl rfl rfl (pLdO1 1 rfl rfl rfl ty9 rfl) ?_
          refine sP rfl rfl rfl (p_scmp rfl rfl rfl rfl) ?_
          refine sP rfl rfl rfl (pA rfl rfl) ?_
          refine lNil ?_
          refine wRet ?_
          exact rgs1 (rg_tmp (gives_sub (Sub.of_eq (avB (lt_val h1 h2 h3 h4).symm))))
set_option maxRecDepth 100000 in
theorem rfin_p (l : List FactT) (x : FactT) (hn : l.length < 1000000) : PFn Try.prog False 115 [slF l, fA x] (bA (inF l x)) := by
  refine pfn Try.func115 rfl (by kernel_rfl) 18 rfl _ rfl (Nat.le_of_ble_eq_true rfl) (fun X w0 => ?_)
  refine wSeq ?_
  refine wReg ?_
  refine sBox rfl rfl rfl rfl rfl (fun g3 => ?_)
  refine sP rfl rfl rfl (pA rfl rfl) ?_
  refine lNil ?_
  refine wSeq ?_
  refine wSeq ?_
  refine wReg ?_
  refine sP rfl rfl rfl (pA rfl rfl) ?_
  refine lNil ?_
  refine wBlock ?_
  refine wLoop (fun mm L h => ∃ i, mm = l.length - i ∧ i ≤ l.length ∧ (∀ (j : Nat) y, j < i → l[j]? = some y → y ≠ x) ∧ L = [(0, slF l), (3, .x (.pointer (some ⟨g3, 0, none⟩))), (5, iA (i : Nat))] ∧ h = [.cells g3 87 (encF x)]) ⟨_, _, _, _, ⟨0, rfl, Nat.zero_le _, fun j y hj => absurd hj (by omega), rfl, rfl⟩, ⟨rfl, rfl, rfl, trivial⟩, rfl⟩ ?_
  rintro mm L h ⟨i, rfl, hi, h0, rfl, rfl⟩
  refine wSeq ?_
  refine wSeq ?_
  refine wReg ?_
  refine sP rfl rfl rfl (pM rfl rfl) ?_
  refine sP rfl rfl rfl (pMs rfl rfl) ?_
  refine sP rfl rfl rfl (p_len_sl rfl rfl Try.underlying26) ?_
  refine sP rfl rfl rfl (p_icmp rfl rfl rfl rfl) ?_
  refine lNil ?_
  refine wCond rfl (fun hc1 => ?_) (fun hc1 => ?_)
  · have hlt : i < l.length := by simpa using hc1
    obtain ⟨d, hd⟩ := getL hlt
    refine wSkip ?_
    refine wSeq ?_
    refine wBlock ?_
    refine wSeq ?_
    refine wDraw 6 (by kernel_rfl) (by kernel_rfl) ?_
    refine sP rfl rfl rfl (pMs rfl rfl) ?_
    refine sP rfl rfl rfl (pM rfl rfl) ?_
    refine sP rfl rfl rfl (pIdx i rfl rfl Try.underlying26 ty87 (by decide) rfl (fun _ => rfl) rfl rfl hd) ?_
    refine sP rfl rfl rfl (pLdE rfl rfl ty87 rfl) ?_
    refine sP rfl rfl rfl (pLdW 0 rfl rfl rfl ty87 rfl) ?_
    refine sP rfl rfl rfl (p_eqs rfl rfl rfl rfl rfl guardF (fun w => eqF w d x)) ?_
    refine lTail ?_
    refine lNil ?_
    refine wCond rfl (fun hc2 => ?_) (fun hc2 => ?_)
    · refine wSeq ?_
      refine wReg ?_
      refine sP rfl rfl rfl (pA rfl rfl) ?_
      refine lNil ?_
      refine wRet ?_
      exact rgs1 (rg_tmp (gives_sub (Sub.of_eq (avB (inF_yes hd (by simpa using hc2)).symm))))
    · refine wSkip ?_
      refine wReg ?_
      refine sP rfl rfl rfl (pM rfl rfl) ?_
      refine sP rfl rfl rfl (p_iar rfl rfl rfl rfl) ?_
      refine sP rfl rfl rfl (pA rfl rfl) ?_
      refine lNil ?_
      refine ⟨_, _, [.cells g3 87 (encF x)], [], ?_, ⟨i + 1, rfl, hlt, fun j y hj hy => ?_, rfl, rfl⟩, ⟨rfl, rfl, avI (wrapI (by omega) (by omega)), trivial⟩, rfl⟩
      · omega
      · rcases Nat.lt_or_ge j i with h | h
        · exact h0 j y h hy
        · obtain rfl : j = i := by omega
          rw [hd] at hy; injection hy with hy; rw [← hy]; simpa using hc2
  · have hge : ¬ i < l.length := by simpa using hc1
    refine wExit ?_
    refine wSeq ?_
    refine wReg ?_
    refine sP rfl rfl rfl (pA rfl rfl) ?_
    refine lNil ?_
    refine wRet ?_
    exact rgs1 (rg_tmp (gives_sub (Sub.of_eq (avB (inF_no fun j y hy => h0 j y (by have := (List.getElem?_eq_some_iff.1 hy).1; omega) hy).symm))))
set_option maxRecDepth 100000 in
theorem rfsame_p (l m : List FactT) (hn : l.length < 1000000) (hm : m.length < 1000000) : PFn Try.prog False 47 [slF l, slF m] (bA (decide (l = m))) := by
  refine pfn Try.func47 rfl (by kernel_rfl) 26 rfl _ rfl (Nat.le_of_ble_eq_true rfl) (fun X w0 => ?_)
  refine wSeq ?_
  refine wReg ?_
  refine sP rfl rfl rfl (pA rfl rfl) ?_
  refine lNil ?_
  refine wSeq ?_
  refine wSeq ?_
  refine wReg ?_
  refine sP rfl rfl rfl (pMs rfl rfl) ?_
  refine sP rfl rfl rfl (p_len_sl rfl rfl Try.underlying26) ?_
  refine sP rfl rfl rfl (pMs rfl rfl) ?_
  refine sP rfl rfl rfl (p_len_sl rfl rfl Try.underlying26) ?_
  refine sP rfl rfl rfl (p_icmp rfl rfl rfl rfl) ?_
  refine lNil ?_
  refine wCond rfl (fun hc1 => ?_) (fun hc1 => ?_)
  · refine wSeq ?_
    refine wReg ?_
    refine sP rfl rfl rfl (pA rfl rfl) ?_
    refine lNil ?_
    refine wRet ?_
    have h : l.length ≠ m.length := by have h := hc1; simp at h; omega
    have hne : l ≠ m := fun e => h (by rw [e])
    exact rgs1 (rg_tmp (gives_sub (Sub.of_eq (avB (by simp [hne])))))
  · have hlen : l.length = m.length := by have h := hc1; simp at h; omega
    refine wSkip ?_
    refine wSeq ?_
    refine wSeq ?_
    refine wReg ?_
    refine sP rfl rfl rfl (pA rfl rfl) ?_
    refine lNil ?_
    refine wBlock ?_
    refine wLoop (fun mm L h => ∃ i, mm = l.length - i ∧ i ≤ l.length ∧ (∀ (j : Nat), j < i → l[j]? = m[j]?) ∧ L = [(0, slF l), (1, slF m), (5, iA (i : Nat))] ∧ h = []) ⟨_, _, _, _, ⟨0, rfl, Nat.zero_le _, fun j hj => absurd hj (by omega), rfl, rfl⟩, ⟨rfl, rfl, rfl, trivial⟩, rfl⟩ ?_
    rintro mm L h ⟨i, rfl, hi, h0, rfl, rfl⟩
    refine wSeq ?_
    refine wSeq ?_
    refine wReg ?_
    refine sP rfl rfl rfl (pM rfl rfl) ?_
    refine sP rfl rfl rfl (pMs rfl rfl) ?_
    refine sP rfl rfl rfl (p_len_sl rfl rfl Try.underlying26) ?_
    refine sP rfl rfl rfl (p_icmp rfl rfl rfl rfl) ?_
    refine lNil ?_
    refine wCond rfl (fun hc2 => ?_) (fun hc2 => ?_)
    · have hlt : i < l.length := by simpa using hc2
      obtain ⟨d, hd⟩ := getL hlt
      obtain ⟨c, hcc⟩ := getL (l := m) (i := i) (by omega)
      refine wSkip ?_
      refine wSeq ?_
      refine wBlock ?_
      refine wSeq ?_
      refine wDraw 9 (by kernel_rfl) (by kernel_rfl) ?_
      refine sP rfl rfl rfl (pMs rfl rfl) ?_
      refine sP rfl rfl rfl (pM rfl rfl) ?_
      refine sP rfl rfl rfl (pIdx i rfl rfl Try.underlying26 ty87 (by decide) rfl (fun _ => rfl) rfl rfl hd) ?_
      refine sP rfl rfl rfl (pLdE rfl rfl ty87 rfl) ?_
      refine sP rfl rfl rfl (pMs rfl rfl) ?_
      refine sP rfl rfl rfl (pM rfl rfl) ?_
      refine sP rfl rfl rfl (pIdx i rfl rfl Try.underlying26 ty87 (by decide) rfl (fun _ => rfl) rfl rfl hcc) ?_
      refine sP rfl rfl rfl (pLdE rfl rfl ty87 rfl) ?_
      refine sP rfl rfl rfl (p_nes rfl rfl rfl rfl rfl guardF (fun w => eqF w d c)) ?_
      refine lTail ?_
      refine lNil ?_
      refine wCond rfl (fun hc3 => ?_) (fun hc3 => ?_)
      · refine wSeq ?_
        refine wReg ?_
        refine sP rfl rfl rfl (pA rfl rfl) ?_
        refine lNil ?_
        refine wRet ?_
        have h : d ≠ c := by simpa using hc3
        have hne : l ≠ m := fun e => by rw [e, hcc] at hd; injection hd with hd; exact h hd.symm
        exact rgs1 (rg_tmp (gives_sub (Sub.of_eq (avB (by simp [hne])))))
      · refine wSkip ?_
        refine wReg ?_
        refine sP rfl rfl rfl (pM rfl rfl) ?_
        refine sP rfl rfl rfl (p_iar rfl rfl rfl rfl) ?_
        refine sP rfl rfl rfl (pA rfl rfl) ?_
        refine lNil ?_
        have he : d = c := by simpa using hc3
        refine ⟨_, _, [], [], ?_, ⟨i + 1, rfl, hlt, fun j hj => ?_, rfl, rfl⟩, ⟨rfl, rfl, avI (wrapI (by omega) (by omega)), trivial⟩, rfl⟩
        · omega
        · rcases Nat.lt_or_ge j i with h | h
          · exact h0 j h
          · obtain rfl : j = i := by omega
            rw [hd, hcc, he]
    · have hge : ¬ i < l.length := by simpa using hc2
      refine wExit ?_
      refine wSeq ?_
      refine wReg ?_
      refine sP rfl rfl rfl (pA rfl rfl) ?_
      refine lNil ?_
      refine wRet ?_
      have he : l = m := List.ext_getElem? fun j => by
        rcases Nat.lt_or_ge j l.length with hj | hj
        · exact h0 j (by omega)
        · rw [List.getElem?_eq_none hj, List.getElem?_eq_none (by omega)]
      exact rgs1 (rg_tmp (gives_sub (Sub.of_eq (avB (by simp [he])))))
set_option maxRecDepth 100000 in
theorem rfchecks_p (l : List FactT) (hn : l.length < 1000000) (ho : ∀ f ∈ l, okF f) : PFn Try.prog False 107 [slF l] (iA (mayG chkF ltF l)) := by
  refine pfn Try.func107 rfl (by kernel_rfl) 37 rfl _ rfl (Nat.le_of_ble_eq_true rfl) (fun X w0 => ?_)
  refine wSeq ?_
  refine wReg ?_
  refine sP rfl rfl rfl (pA rfl rfl) ?_
  refine lNil ?_
  refine wSeq ?_
  refine wSeq ?_
  refine wReg ?_
  refine sP rfl rfl rfl (pA rfl rfl) ?_
  refine lNil ?_
  refine wBlock ?_
  refine wLoop (fun mm L h => ∃ i, mm = l.length - i ∧ i ≤ l.length ∧ (∀ j y, j < i → l[j]? = some y → chkF y = 0) ∧ L = [(0, slF l), (3, iA (i : Nat))] ∧ h = []) ⟨_, _, _, _, ⟨0, rfl, Nat.zero_le _, fun j y hj => absurd hj (by omega), rfl, rfl⟩, ⟨rfl, rfl, trivial⟩, rfl⟩ ?_
  rintro mm L h ⟨i, rfl, hi, h0, rfl, rfl⟩
  refine wSeq ?_
  refine wSeq ?_
  refine wReg ?_
  refine sP rfl rfl rfl (pM rfl rfl) ?_
  refine sP rfl rfl rfl (pMs rfl rfl) ?_
  refine sP rfl rfl rfl (p_len_sl rfl rfl Try.underlying26) ?_
  refine sP rfl rfl rfl (p_icmp rfl rfl rfl rfl) ?_
  refine lNil ?_
  refine wCond rfl (fun hc1 => ?_) (fun hc1 => ?_)
  · have hlt : i < l.length := by simpa using hc1
    obtain ⟨d, hd⟩ := getL hlt
    refine wSkip ?_
    refine wSeq ?_
    refine wBlock ?_
    refine wSeq ?_
    refine wReg ?_
    refine sP rfl rfl rfl (pMs rfl rfl) ?_
    refine sP rfl rfl rfl (pM rfl rfl) ?_
    refine sP rfl rfl rfl (pIdx i rfl rfl Try.underlying26 ty87 (by decide) rfl (fun _ => rfl) rfl rfl hd) ?_
    refine sP rfl rfl rfl (pLdE rfl rfl ty87 rfl) ?_
    refine sP rfl rfl rfl (p_call rfl (rfcheck_p d (ho d (List.mem_of_getElem? hd))) ⟨Sub.refl, trivial⟩) ?_
    refine sP rfl rfl rfl (pA rfl rfl) ?_
    refine lNil ?_
    refine wSeq ?_
    refine wReg ?_
    refine sP rfl rfl rfl (pM rfl rfl) ?_
    refine sP rfl rfl rfl (p_icmp rfl rfl rfl rfl) ?_
    refine lNil ?_
    refine wCond rfl (fun hc2 => ?_) (fun hc2 => ?_)
    · refine wSeq ?_
      refine wReg ?_
      refine sP rfl rfl rfl (pM rfl rfl) ?_
      refine sP rfl rfl rfl (pA rfl rfl) ?_
      refine lNil ?_
      refine wRet ?_
      have hne : chkF d ≠ 0 := by simpa using hc2
      exact rgs1 (rg_tmp (gives_sub (Sub.of_eq (avI (may_chk h0 hd hne).symm))))
    · refine wSkip ?_
      refine wReg ?_
      refine sP rfl rfl rfl (pM rfl rfl) ?_
      refine sP rfl rfl rfl (p_iar rfl rfl rfl rfl) ?_
      refine sP rfl rfl rfl (pA rfl rfl) ?_
      refine lNil ?_
      have he : chkF d = 0 := by simpa using hc2
      refine ⟨_, _, [], _, ?_, ⟨i + 1, rfl, hlt, fun j y hj hy => ?_, rfl, rfl⟩, ⟨rfl, avI (wrapI (by omega) (by omega)), trivial⟩, rfl⟩
      · omega
      · rcases Nat.lt_or_ge j i with h | h
        · exact h0 j y h hy
        · obtain rfl : j = i := by omega
          rw [hd] at hy; injection hy with hy; rw [← hy]; exact he
  · have hge : i = l.length := by
      have h : ¬ i < l.length := by simpa using hc1
      omega
    subst hge
    replace h0 : ∀ (j : Nat) y, l[j]? = some y → chkF y = 0 := fun j y hy => h0 j y (List.getElem?_eq_some_iff.1 hy).1 hy
    refine wExit ?_
    refine wSeq ?_
    refine wSeq ?_
    refine wReg ?_
    refine sP rfl rfl rfl (pA rfl rfl) ?_
    refine lNil ?_
    refine wBlock ?_
    refine wLoop (fun mm L h => ∃ i, mm = l.length - i ∧ 1 ≤ i ∧ i ≤ l.length + 1 ∧ (∀ j x y, j + 1 < i → l[j]? = some x → l[j + 1]? = some y → ltF x y = true) ∧ L = [(0, slF l), (5, iA (i : Nat))] ∧ h = []) ⟨_, _, _, _, ⟨1, rfl, Nat.le_refl _, by omega, fun j x y hj => absurd hj (by omega), rfl, rfl⟩, ⟨rfl, rfl, trivial⟩, rfl⟩ ?_
    rintro mm L h ⟨i, rfl, h1, hi, hr, rfl, rfl⟩
    refine wSeq ?_
    refine wSeq ?_
    refine wReg ?_
    refine sP rfl rfl rfl (pM rfl rfl) ?_
    refine sP rfl rfl rfl (pMs rfl rfl) ?_
    refine sP rfl rfl rfl (p_len_sl rfl rfl Try.underlying26) ?_
    refine sP rfl rfl rfl (p_icmp rfl rfl rfl rfl) ?_
    refine lNil ?_
    refine wCond rfl (fun hc3 => ?_) (fun hc3 => ?_)
    · have hlt : i < l.length := by simpa using hc3
      obtain ⟨d, hd⟩ := getL hlt
      obtain ⟨c, hcc⟩ := getL (l := l) (i := i - 1) (by omega)
      have hz : IntKind.i64.wrap ((i : Int) - 1) = ((i - 1 : Nat) : Int) := by rw [wrapI (by omega) (by omega)]; omega
      refine wSkip ?_
      refine wSeq ?_
      refine wBlock ?_
      refine wSeq ?_
      refine wDraw 11 (by kernel_rfl) (by kernel_rfl) ?_
      refine sP rfl rfl rfl (pMs rfl rfl) ?_
      refine sP rfl rfl rfl (pM rfl rfl) ?_
      refine sP rfl rfl rfl (p_iar rfl rfl rfl rfl) ?_
      refine sP rfl rfl rfl (pIdx (i - 1) rfl rfl Try.underlying26 ty87 (by decide) rfl (fun _ => rfl) rfl hz hcc) ?_
      refine sP rfl rfl rfl (pLdE rfl rfl ty87 rfl) ?_
      refine sP rfl rfl rfl (pMs rfl rfl) ?_
      refine sP rfl rfl rfl (pM rfl rfl) ?_
      refine sP rfl rfl rfl (pIdx i rfl rfl Try.underlying26 ty87 (by decide) rfl (fun _ => rfl) rfl rfl hd) ?_
      refine sP rfl rfl rfl (pLdE rfl rfl ty87 rfl) ?_
      refine sP rfl rfl rfl (p_call rfl (rfless_p c d) ⟨Sub.refl, Sub.refl, trivial⟩) ?_
      refine sP rfl rfl rfl (p_not rfl rfl) ?_
      refine lTail ?_
      refine lNil ?_
      refine wCond rfl (fun hc4 => ?_) (fun hc4 => ?_)
      · refine wSeq ?_
        refine wReg ?_
        refine sP rfl rfl rfl (pA rfl rfl) ?_
        refine lNil ?_
        refine wRet ?_
        have hf : ltF c d = false := by simpa using hc4
        exact rgs1 (rg_tmp (gives_sub (Sub.of_eq (avI (may_form (i := i - 1) h0 hcc (by rw [show i - 1 + 1 = i by omega]; exact hd) hf).symm))))
      · refine wSkip ?_
        refine wReg ?_
        refine sP rfl rfl rfl (pM rfl rfl) ?_
        refine sP rfl rfl rfl (p_iar rfl rfl rfl rfl) ?_
        refine sP rfl rfl rfl (pA rfl rfl) ?_
        refine lNil ?_
        have ht : ltF c d = true := by simpa using hc4
        refine ⟨_, _, [], _, ?_, ⟨i + 1, rfl, by omega, by omega, fun j x y hj hx hy => ?_, rfl, rfl⟩, ⟨rfl, avI (wrapI (by omega) (by omega)), trivial⟩, rfl⟩
        · omega
        · rcases Nat.lt_or_ge (j + 1) i with h | h
          · exact hr j x y h hx hy
          · obtain rfl : j = i - 1 := by omega
            rw [hcc] at hx; injection hx with hx
            rw [show i - 1 + 1 = i by omega, hd] at hy; injection hy with hy
            rw [← hx, ← hy]; exact ht
    · have hge : ¬ i < l.length := by simpa using hc3
      refine wExit ?_
      refine wSeq ?_
      refine wReg ?_
      refine sP rfl rfl rfl (pA rfl rfl) ?_
      refine lNil ?_
      refine wRet ?_
      exact rgs1 (rg_tmp (gives_sub (Sub.of_eq (avI (may_ok h0 (fun j x y hx hy => hr j x y (by have := (List.getElem?_eq_some_iff.1 hy).1; omega) hx hy)).symm))))
set_option maxRecDepth 100000 in
theorem fmay_p (l : List FactT) (hn : l.length < 1000000) (ho : ∀ f ∈ l, okF f) : PFn Try.prog False 105 [slF l] (iA (mayG chkF ltF l)) := by
  refine pfn Try.func105 rfl (by kernel_rfl) 36 rfl _ rfl (Nat.le_of_ble_eq_true rfl) (fun X w0 => ?_)
  refine wSeq ?_
  refine wReg ?_
  refine sP rfl rfl rfl (pA rfl rfl) ?_
  refine lNil ?_
  refine wSeq ?_
  refine wSeq ?_
  refine wReg ?_
  refine sP rfl rfl rfl (pMs rfl rfl) ?_
  refine sP rfl rfl rfl (p_len_sl rfl rfl Try.underlying26) ?_
  refine sP rfl rfl rfl (pM rfl rfl) ?_
  refine lNil ?_
  refine wBlock ?_
  refine wLoop (fun mm L h => ∃ i, mm = l.length - i ∧ i ≤ l.length ∧ (∀ j y, j < i → l[j]? = some y → chkF y = 0) ∧ L = [(0, slF l), (7, slF l), (8, iA l.length), (9, iA (i : Nat))] ∧ h = []) ⟨_, _, _, _, ⟨0, rfl, Nat.zero_le _, fun j y hj => absurd hj (by omega), rfl, rfl⟩, ⟨rfl, rfl, rfl, rfl, trivial⟩, rfl⟩ ?_
  rintro mm L h ⟨i, rfl, hi, h0, rfl, rfl⟩
  refine wSeq ?_
  refine wReg ?_
  refine sP rfl rfl rfl (p_icmp rfl rfl rfl rfl) ?_
  refine lNil ?_
  refine wSeq ?_
  refine wCond rfl (fun hc1 => ?_) (fun hc1 => ?_)
  · have hlt : i < l.length := by simpa using hc1
    obtain ⟨d, hd⟩ := getL hlt
    refine wSkip ?_
    refine wSeq ?_
    refine wBlock ?_
    refine wSeq ?_
    refine wReg ?_
    refine sP rfl rfl rfl (pIdx i rfl rfl Try.underlying26 ty87 (by decide) rfl (fun _ => rfl) rfl rfl hd) ?_
    refine sP rfl rfl rfl (pLdE rfl rfl ty87 rfl) ?_
    refine sAlloc rfl rfl rfl rfl ze87 (fun g4 => ?_)
    refine sStore 0 rfl rfl rfl rfl rfl ty87 rfl rfl rfl (Nat.le_of_ble_eq_true rfl) ?_
    refine lNil ?_
    refine wSeq ?_
    refine wReg ?_
    refine sP rfl rfl rfl (pLdW 0 rfl rfl rfl ty87 rfl) ?_
    refine sP rfl rfl rfl (p_call rfl (fcheck_p d (ho d (List.mem_of_getElem? hd))) ⟨Sub.refl, trivial⟩) ?_
    refine sP rfl rfl rfl (pA rfl rfl) ?_
    refine lNil ?_
    refine wSeq ?_
    refine wReg ?_
    refine sP rfl rfl rfl (pM rfl rfl) ?_
    refine sP rfl rfl rfl (p_icmp rfl rfl rfl rfl) ?_
    refine lNil ?_
    refine wCond rfl (fun hc2 => ?_) (fun hc2 => ?_)
    · refine wSeq ?_
      refine wReg ?_
      refine sP rfl rfl rfl (pM rfl rfl) ?_
      refine sP rfl rfl rfl (pA rfl rfl) ?_
      refine lNil ?_
      refine wRet ?_
      have hne : chkF d ≠ 0 := by simpa using hc2
      exact rgs1 (rg_tmp (gives_sub (Sub.of_eq (avI (may_chk h0 hd hne).symm))))
    · refine wSkip ?_
      refine wReg ?_
      refine sP rfl rfl rfl (p_iar rfl rfl rfl rfl) ?_
      refine sP rfl rfl rfl (pM rfl rfl) ?_
      refine lNil ?_
      have he : chkF d = 0 := by simpa using hc2
      refine ⟨_, _, [], _, ?_, ⟨i + 1, rfl, hlt, fun j y hj hy => ?_, rfl, rfl⟩, ⟨rfl, rfl, rfl, avI (wrapI (by omega) (by omega)), trivial⟩, rfl⟩
      · omega
      · rcases Nat.lt_or_ge j i with h | h
        · exact h0 j y h hy
        · obtain rfl : j = i := by omega
          rw [hd] at hy; injection hy with hy; rw [← hy]; exact he
  · have hge : i = l.length := by
      have h : ¬ i < l.length := by simpa using hc1
      omega
    subst hge
    replace h0 : ∀ (j : Nat) y, l[j]? = some y → chkF y = 0 := fun j y hy => h0 j y (List.getElem?_eq_some_iff.1 hy).1 hy
    refine wExit ?_
    refine wSeq ?_
    refine wSeq ?_
    refine wReg ?_
    refine sP rfl rfl rfl (pA rfl rfl) ?_
    refine lNil ?_
    refine wBlock ?_
    refine wLoop (fun mm L h => ∃ i, mm = l.length - i ∧ 1 ≤ i ∧ i ≤ l.length + 1 ∧ (∀ j x y, j + 1 < i → l[j]? = some x → l[j + 1]? = some y → ltF x y = true) ∧ L = [(0, slF l), (6, iA (i : Nat))] ∧ h = []) ⟨_, _, _, _, ⟨1, rfl, Nat.le_refl _, by omega, fun j x y hj => absurd hj (by omega), rfl, rfl⟩, ⟨rfl, rfl, trivial⟩, rfl⟩ ?_
    rintro mm L h ⟨i, rfl, h1, hi, hr, rfl, rfl⟩
    refine wSeq ?_
    refine wSeq ?_
    refine wReg ?_
    refine sP rfl rfl rfl (pM rfl rfl) ?_
    refine sP rfl rfl rfl (pMs rfl rfl) ?_
    refine sP rfl rfl rfl (p_len_sl rfl rfl Try.underlying26) ?_
    refine sP rfl rfl rfl (p_icmp rfl rfl rfl rfl) ?_
    refine lNil ?_
    refine wCond rfl (fun hc3 => ?_) (fun hc3 => ?_)
    · have hlt : i < l.length := by simpa using hc3
      obtain ⟨d, hd⟩ := getL hlt
      obtain ⟨c, hcc⟩ := getL (l := l) (i := i - 1) (by omega)
      have hz : IntKind.i64.wrap ((i : Int) - 1) = ((i - 1 : Nat) : Int) := by rw [wrapI (by omega) (by omega)]; omega
      refine wSkip ?_
      refine wSeq ?_
      refine wBlock ?_
      refine wSeq ?_
      refine wDraw 11 (by kernel_rfl) (by kernel_rfl) ?_
      refine sP rfl rfl rfl (pMs rfl rfl) ?_
      refine sP rfl rfl rfl (pM rfl rfl) ?_
      refine sP rfl rfl rfl (p_iar rfl rfl rfl rfl) ?_
      refine sP rfl rfl rfl (pIdx (i - 1) rfl rfl Try.underlying26 ty87 (by decide) rfl (fun _ => rfl) rfl hz hcc) ?_
      refine sP rfl rfl rfl (pLdE rfl rfl ty87 rfl) ?_
      refine sP rfl rfl rfl (pMs rfl rfl) ?_
      refine sP rfl rfl rfl (pM rfl rfl) ?_
      refine sP rfl rfl rfl (pIdx i rfl rfl Try.underlying26 ty87 (by decide) rfl (fun _ => rfl) rfl rfl hd) ?_
      refine sP rfl rfl rfl (pLdE rfl rfl ty87 rfl) ?_
      refine sP rfl rfl rfl (p_call rfl (fless_p c d) ⟨Sub.refl, Sub.refl, trivial⟩) ?_
      refine sP rfl rfl rfl (p_not rfl rfl) ?_
      refine lTail ?_
      refine lNil ?_
      refine wCond rfl (fun hc4 => ?_) (fun hc4 => ?_)
      · refine wSeq ?_
        refine wReg ?_
        refine sP rfl rfl rfl (pA rfl rfl) ?_
        refine lNil ?_
        refine wRet ?_
        have hf : ltF c d = false := by simpa using hc4
        exact rgs1 (rg_tmp (gives_sub (Sub.of_eq (avI (may_form (i := i - 1) h0 hcc (by rw [show i - 1 + 1 = i by omega]; exact hd) hf).symm))))
      · refine wSkip ?_
        refine wReg ?_
        refine sP rfl rfl rfl (pM rfl rfl) ?_
        refine sP rfl rfl rfl (p_iar rfl rfl rfl rfl) ?_
        refine sP rfl rfl rfl (pA rfl rfl) ?_
        refine lNil ?_
        have ht : ltF c d = true := by simpa using hc4
        refine ⟨_, _, [], _, ?_, ⟨i + 1, rfl, by omega, by omega, fun j x y hj hx hy => ?_, rfl, rfl⟩, ⟨rfl, avI (wrapI (by omega) (by omega)), trivial⟩, rfl⟩
        · omega
        · rcases Nat.lt_or_ge (j + 1) i with h | h
          · exact hr j x y h hx hy
          · obtain rfl : j = i - 1 := by omega
            rw [hcc] at hx; injection hx with hx
            rw [show i - 1 + 1 = i by omega, hd] at hy; injection hy with hy
            rw [← hx, ← hy]; exact ht
    · have hge : ¬ i < l.length := by simpa using hc3
      refine wExit ?_
      refine wSeq ?_
      refine wReg ?_
      refine sP rfl rfl rfl (pA rfl rfl) ?_
      refine lNil ?_
      refine wRet ?_
      exact rgs1 (rg_tmp (gives_sub (Sub.of_eq (avI (may_ok h0 (fun j x y hx hy => hr j x y (by have := (List.getElem?_eq_some_iff.1 hy).1; omega) hx hy)).symm))))
end Go.Proofs.Ytmhkalalcmkpbaa
