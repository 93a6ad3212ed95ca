/-
  Lfo
-/
import Derived.Test.YtmhkalalcmkpbaaZAw15
import Derived.Laws.Small
namespace Go.Proofs.Ytmhkalalcmkpbaa
open Go Go.RowKit
set_option linter.unusedVariables false
set_option linter.unusedSimpArgs false

def fewOne (f : FactT) : Bool := decide (f.2.2.2.1.size ≤ 100) && decide (f.2.2.2.2.size ≤ 1000)
def fewF (l : List FactT) : Bool := decide (l.length ≤ 30) && l.all fewOne
theorem fewOne_no {d : FactT} (h : (decide ((100 : Int) < (d.2.2.2.1.size : Nat)) || decide ((1000 : Int) < (d.2.2.2.2.size : Nat))) = true) : fewOne d = false := by
  unfold fewOne
  rw [Bool.or_eq_true, decide_eq_true_eq, decide_eq_true_eq] at h
  rw [Bool.and_eq_false_iff, decide_eq_false_iff_not, decide_eq_false_iff_not]
  omega
theorem fewOne_yes {d : FactT} (h : (decide ((100 : Int) < (d.2.2.2.1.size : Nat)) || decide ((1000 : Int) < (d.2.2.2.2.size : Nat))) = false) : fewOne d = true := by
  unfold fewOne
  rw [Bool.or_eq_false_iff, decide_eq_false_iff_not, decide_eq_false_iff_not] at h
  rw [Bool.and_eq_true, decide_eq_true_eq, decide_eq_true_eq]
  omega
theorem fewF_long {l : List FactT} (h : 30 < l.length) : fewF l = false := by
  unfold fewF; rw [decide_eq_false (by omega)]; rfl
theorem fewF_no {l : List FactT} {i : Nat} {d : FactT} (hd : l[i]? = some d) (h : fewOne d = false) : fewF l = false := by
  unfold fewF
  rw [Bool.and_eq_false_iff]
  exact .inr (List.all_eq_false.2 ⟨d, List.mem_of_getElem? hd, by rw [h]; decide⟩)
theorem fewF_yes {l : List FactT} (hl : ¬ 30 < l.length) (h : ∀ (j : Nat) y, l[j]? = some y → fewOne y = true) : fewF l = true := by
  unfold fewF
  rw [Bool.and_eq_true, decide_eq_true_eq]
  refine ⟨by omega, List.all_eq_true.2 fun y hy => ?_⟩
  obtain ⟨j, hj⟩ := List.mem_iff_getElem?.1 hy
  exact h j y hj
theorem fewF_ok {l : List FactT} (h : fewF l = true) : l.length ≤ 30 ∧ ∀ f ∈ l, okF f := by
  unfold fewF at h
  rw [Bool.and_eq_true, decide_eq_true_eq] at h
  refine ⟨h.1, fun f hf => ?_⟩
  have h2 := List.all_eq_true.1 h.2 f hf
  unfold fewOne at h2
  rw [Bool.and_eq_true, decide_eq_true_eq, decide_eq_true_eq] at h2
  exact ⟨by omega, by omega⟩
section
variable {P : Program} {K : Prop} {N : Nat} {X : Nat → Prop} {h : List HObj} {f : Nat → AV} {o : Oper}
theorem p_beq {t t' : TypeId} {x y : Operand} {a b : Bool} {r : Bool} (ho : o.op = .binOp .eql t x y t') (hx : evalT f x = .x (.bool a)) (hy : evalT f y = .x (.bool b)) (ht : P.underlying t = some .bool) (hr : (a == b) = r) : PureOp P K N X h f o (.x (.bool r)) := pure_run fun ac w w0 env H => by
  rw [ho] at H
  have g1 := H x (by simp [Op.operands])
  have g2 := H y (by simp [Op.operands])
  rw [hx, rep_x] at g1
  rw [hy, rep_x] at g2
  refine ⟨.bool r, ?_, rep_x.2 rfl⟩
  subst hr
  have := run_eql_bool (P := P) w t a b ht
  simp [execOp, ho, g1, g2, eqGuard, this]
end
theorem lt3 (x y : FactT) : (ltF x y = true ∧ ltF y x = false ∧ decide (x = y) = false) ∨ (ltF x y = false ∧ ltF y x = true ∧ decide (x = y) = false) ∨ (ltF x y = false ∧ ltF y x = false ∧ decide (x = y) = true) := by
  cases h1 : ltF x y with
  | true =>
    refine .inl ⟨rfl, stoF.asymm h1, decide_eq_false fun e => ?_⟩
    subst e; rw [stoF.irrefl] at h1; cases h1
  | false =>
    cases h2 : ltF y x with
    | true =>
      refine .inr (.inl ⟨rfl, rfl, decide_eq_false fun e => ?_⟩)
      subst e; rw [stoF.irrefl] at h2; cases h2
    | false => exact .inr (.inr ⟨rfl, rfl, decide_eq_true (stoF.total x y h1 h2)⟩)
theorem less_is {x y : FactT} {b : Bool} (h : ltF x y = b) : PFn Try.prog False 49 [fA x, fA y] (bA b) := by
  have h2 := fless_p (K := False) x y
  rw [h] at h2; exact h2

set_option maxRecDepth 100000 in
theorem few_p (l : List FactT) : PFn Try.prog False 41 [slF l] (bA (fewF l)) := by
  refine pfn Try.func41 rfl (by kernel_rfl) 29 rfl _ rfl (Nat.le_of_ble_eq_true rfl) (fun X w0 => ?_)
  refine wSeq ?_
  refine wReg ?_  -- region 0
  refine sP rfl rfl rfl (pA rfl rfl) ?_  -- t2 := assign c
  refine lNil ?_
  refine wSeq ?_
  refine wSeq ?_
  refine wReg ?_  -- region 1
  refine sP rfl rfl rfl (pMs rfl rfl) ?_  -- t4 := move t0
  refine sP rfl rfl rfl (p_len_sl rfl rfl Try.underlying26) ?_  -- t5 := call   -- t4
  refine sP rfl rfl rfl (p_icmp rfl rfl rfl rfl) ?_  -- t6 := binOp t5 c
  refine lNil ?_
  refine wCond rfl (fun hc1 => ?_) (fun hc1 => ?_)  -- t6
  · refine wSeq ?_
    refine wReg ?_  -- region 2
    refine sP rfl rfl rfl (pA rfl rfl) ?_  -- t2 := assign c
    refine lNil ?_
    refine wRet ?_
    have h : 30 < l.length := by have h := hc1; simp at h; omega
    exact rgs1 (rg_tmp (gives_sub (Sub.of_eq (avB (fewF_long h).symm))))
  · have hlen : ¬ 30 < l.length := by have h := hc1; simp at h; omega
    refine wSkip ?_
    refine wSeq ?_
    refine wSeq ?_
    refine wReg ?_  -- region 3
    refine sP rfl rfl rfl (pA rfl rfl) ?_  -- t3 := assign c
    refine lNil ?_
    refine wBlock ?_
    refine wLoop (fun mm L h => ∃ i, mm = l.length - i ∧ i ≤ l.length ∧ (∀ (j : Nat) y, j < i → l[j]? = some y → fewOne y = true) ∧ L = [(0, slF l), (3, iA (i : Nat))] ∧ h = []) ⟨_, _, _, _, ⟨0, rfl, Nat.zero_le _, fun j y hj => absurd hj (by omega), rfl, rfl⟩, ⟨rfl, rfl, trivial⟩, rfl⟩ ?_
    rintro mm L h ⟨i, rfl, hi, h0, rfl, rfl⟩
    refine wSeq ?_
    refine wSeq ?_
    refine wReg ?_  -- region 4
    refine sP rfl rfl rfl (pM rfl rfl) ?_  -- t7 := move t3
    refine sP rfl rfl rfl (pMs rfl rfl) ?_  -- t8 := move t0
    refine sP rfl rfl rfl (p_len_sl rfl rfl Try.underlying26) ?_  -- t9 := call   -- t8
    refine sP rfl rfl rfl (p_icmp rfl rfl rfl rfl) ?_  -- t10 := binOp t7 t9
    refine lNil ?_
    refine wCond rfl (fun hc2 => ?_) (fun hc2 => ?_)  -- t10
    · have hlt : i < l.length := by simpa using hc2
      obtain ⟨d, hd⟩ := getL hlt
      refine wSkip ?_
      refine wSeq ?_
      refine wBlock ?_
      refine wCut (fun L h => ∃ b : Bool, b = (decide ((100 : Int) < (d.2.2.2.1.size : Nat)) || decide ((1000 : Int) < (d.2.2.2.2.size : Nat))) ∧ L = [(0, slF l), (3, iA (i : Nat)), (28, bA b)] ∧ h = []) ?_ ?_
      · cases hb : (decide ((100 : Int) < (d.2.2.2.1.size : Nat))) with
        | true =>
          refine wReg ?_  -- region 6
          refine sP rfl rfl rfl (pMs rfl rfl) ?_  -- t13 := move t0
          refine sP rfl rfl rfl (pM rfl rfl) ?_  -- t14 := move t3
          refine sP rfl rfl rfl (pIdx i rfl rfl Try.underlying26 ty87 (by decide) rfl (fun _ => rfl) rfl rfl hd) ?_  -- t15 := indexAddr t13 t14
          refine sP rfl rfl rfl (p_fieldAddr_ip rfl rfl fl87_3 ty9 (by decide)) ?_  -- t16 := fieldAddr t15
          refine sP rfl rfl rfl (pLd1 rfl rfl ty9) ?_  -- t17 := load t16
          refine sP rfl rfl rfl (p_len_str rfl rfl Try.underlying9) ?_  -- t18 := call   -- t17
          refine sP rfl rfl rfl (p_icmp rfl rfl rfl (congrArg some hb)) ?_  -- t19 := binOp t18 c
          refine sP rfl rfl rfl (pM rfl rfl) ?_  -- t20 := move t19
          refine sU rfl rfl rfl (by decide) rfl rfl ?_  -- t21 := move t0   GUARD ['7', 'false']
          refine sU rfl rfl rfl (by decide) rfl rfl ?_  -- t22 := move t3   GUARD ['7', 'false']
          refine sU rfl rfl rfl (by decide) rfl rfl ?_  -- t23 := indexAddr t21 t22   GUARD ['7', 'false']
          refine sU rfl rfl rfl (by decide) rfl rfl ?_  -- t24 := fieldAddr t23   GUARD ['7', 'false']
          refine sU rfl rfl rfl (by decide) rfl rfl ?_  -- t25 := load t24   GUARD ['7', 'false']
          refine sU rfl rfl rfl (by decide) rfl rfl ?_  -- t26 := call    GUARD ['7', 'false']  -- t25
          refine sU rfl rfl rfl (by decide) rfl rfl ?_  -- t27 := binOp t26 c   GUARD ['7', 'false']
          refine sP rfl rfl rfl (p_pick rfl rfl rfl) ?_  -- t28 := pick t20 c t27
          refine lNil ?_
          exact ⟨_, [], [], ⟨_, (by exact rfl), rfl, rfl⟩, ⟨rfl, rfl, rfl, trivial⟩, rfl⟩
        | false =>
          refine wReg ?_  -- region 6
          refine sP rfl rfl rfl (pMs rfl rfl) ?_  -- t13 := move t0
          refine sP rfl rfl rfl (pM rfl rfl) ?_  -- t14 := move t3
          refine sP rfl rfl rfl (pIdx i rfl rfl Try.underlying26 ty87 (by decide) rfl (fun _ => rfl) rfl rfl hd) ?_  -- t15 := indexAddr t13 t14
          refine sP rfl rfl rfl (p_fieldAddr_ip rfl rfl fl87_3 ty9 (by decide)) ?_  -- t16 := fieldAddr t15
          refine sP rfl rfl rfl (pLd1 rfl rfl ty9) ?_  -- t17 := load t16
          refine sP rfl rfl rfl (p_len_str rfl rfl Try.underlying9) ?_  -- t18 := call   -- t17
          refine sP rfl rfl rfl (p_icmp rfl rfl rfl (congrArg some hb)) ?_  -- t19 := binOp t18 c
          refine sP rfl rfl rfl (pM rfl rfl) ?_  -- t20 := move t19
          refine sG rfl rfl rfl rfl rfl (pMs rfl rfl) ?_  -- t21 := move t0   GUARD ['7', 'false']
          refine sG rfl rfl rfl rfl rfl (pM rfl rfl) ?_  -- t22 := move t3   GUARD ['7', 'false']
          refine sG rfl rfl rfl rfl rfl (pIdx i rfl rfl Try.underlying26 ty87 (by decide) rfl (fun _ => rfl) rfl rfl hd) ?_  -- t23 := indexAddr t21 t22   GUARD ['7', 'false']
          refine sG rfl rfl rfl rfl rfl (p_fieldAddr_ip rfl rfl fl87_4 ty9 (by decide)) ?_  -- t24 := fieldAddr t23   GUARD ['7', 'false']
          refine sG rfl rfl rfl rfl rfl (pLd1 rfl rfl ty9) ?_  -- t25 := load t24   GUARD ['7', 'false']
          refine sG rfl rfl rfl rfl rfl (p_len_str rfl rfl Try.underlying9) ?_  -- t26 := call    GUARD ['7', 'false']  -- t25
          refine sG rfl rfl rfl rfl rfl (p_icmp rfl rfl rfl rfl) ?_  -- t27 := binOp t26 c   GUARD ['7', 'false']
          refine sP rfl rfl rfl (p_pick rfl rfl rfl) ?_  -- t28 := pick t20 c t27
          refine lNil ?_
          exact ⟨_, [], [], ⟨_, (by exact rfl), rfl, rfl⟩, ⟨rfl, rfl, rfl, trivial⟩, rfl⟩
      · rintro L h ⟨b, hb, rfl, rfl⟩
        refine wCond rfl (fun hc3 => ?_) (fun hc3 => ?_)  -- t28
        · refine wSeq ?_
          refine wReg ?_  -- region 7
          refine sP rfl rfl rfl (pA rfl rfl) ?_  -- t2 := assign c
          refine lNil ?_
          refine wRet ?_
          exact rgs1 (rg_tmp (gives_sub (Sub.of_eq (avB (fewF_no hd (fewOne_no (hb.symm.trans hc3))).symm))))
        · refine wSkip ?_
          refine wReg ?_  -- region 5
          refine sP rfl rfl rfl (pM rfl rfl) ?_  -- t11 := move t3
          refine sP rfl rfl rfl (p_iar rfl rfl rfl rfl) ?_  -- t12 := binOp t11 c
          refine sP rfl rfl rfl (pA rfl rfl) ?_  -- t3 := assign t12
          refine lNil ?_
          refine ⟨_, _, [], [], ?_, ⟨i + 1, rfl, hlt, fun j y hj hy => ?_, rfl, rfl⟩, ⟨rfl, avI (wrapI (by omega) (by omega)), trivial⟩, rfl⟩
          · omega
          · rcases Nat.lt_or_ge j i with h | h
            · exact h0 j y h hy
            · obtain rfl : j = i := by omega
              rw [hd] at hy; injection hy with hy; rw [← hy]; exact fewOne_yes (hb.symm.trans hc3)
    · have hge : ¬ i < l.length := by simpa using hc2
      refine wExit ?_
      refine wSeq ?_
      refine wReg ?_  -- region 8
      refine sP rfl rfl rfl (pA rfl rfl) ?_  -- t2 := assign c
      refine lNil ?_
      refine wRet ?_
      exact rgs1 (rg_tmp (gives_sub (Sub.of_eq (avB (fewF_yes hlen (fun j y hy => h0 j y (by have := (List.getElem?_eq_some_iff.1 hy).1; omega) hy)).symm))))
theorem lt4 (x y z : FactT) : ltF x y = false ∨ (ltF x y = true ∧ ltF y z = false) ∨ (ltF x y = true ∧ ltF y z = true ∧ ltF x z = true) := by
  cases h1 : ltF x y with
  | false => exact .inl rfl
  | true =>
    cases h2 : ltF y z with
    | false => exact .inr (.inl ⟨rfl, rfl⟩)
    | true => exact .inr (.inr ⟨rfl, rfl, stoF.trans x y z h1 h2⟩)

set_option maxHeartbeats 1000000 in
set_option maxRecDepth 100000 in
theorem forder_w (x y z : FactT) : PFn Try.prog False 10 [fA x, fA y, fA z] (bA true) := by
  refine pfn Try.func10 rfl (by kernel_rfl) 54 rfl _ rfl (Nat.le_of_ble_eq_true rfl) (fun X w0 => ?_)
  refine wSeq ?_
  refine wReg ?_  -- region 0
  refine sBox rfl rfl rfl rfl rfl (fun g3 => ?_)  -- t3 := box t0
  refine sBox rfl rfl rfl rfl rfl (fun g4 => ?_)  -- t4 := box t1
  refine sBox rfl rfl rfl rfl rfl (fun g5 => ?_)  -- t5 := box t2
  refine sP rfl rfl rfl (pA rfl rfl) ?_  -- t6 := assign c
  refine lNil ?_
  refine wSeq ?_
  refine wSeq ?_
  refine wReg ?_  -- region 1
  refine sP rfl rfl rfl (pLdW 0 rfl rfl rfl ty87 rfl) ?_  -- t7 := load t3
  refine sP rfl rfl rfl (pLdW 1 rfl rfl rfl ty87 rfl) ?_  -- t8 := load t4
  refine sP rfl rfl rfl (pLdW 2 rfl rfl rfl ty87 rfl) ?_  -- t9 := load t5
  refine sP rfl rfl rfl (p_buildSlice (res := [x, y, z].flatMap encF) rfl ze87 Try.underlying26 ty87 (by decide) (by decide) rfl rfl rfl) ?_  -- t10 := buildSlice 
  refine sP rfl rfl rfl (p_call rfl (few_p [x, y, z]) ⟨Sub.refl, trivial⟩) ?_  -- t11 := call   -- t10
  refine sP rfl rfl rfl (p_not rfl rfl) ?_  -- t12 := unOp t11
  refine lNil ?_
  refine wCond rfl (fun hc1 => ?_) (fun hc1 => ?_)  -- t12
  · refine wSeq ?_
    refine wReg ?_  -- region 2
    refine sP rfl rfl rfl (p_call rfl (awake15_p) trivial) ?_  -- t13 := call   -- 
    refine sP rfl rfl rfl (pA rfl rfl) ?_  -- t6 := assign t13
    refine lNil ?_
    refine wRet ?_
    exact rgs1 (rg_tmp (gives_sub (Sub.of_eq (rfl))))
  · refine wSkip ?_
    refine wSeq ?_
    refine wCut (fun L h => L = [(3, .x (.pointer (some ⟨g3, 0, none⟩))), (4, .x (.pointer (some ⟨g4, 0, none⟩))), (5, .x (.pointer (some ⟨g5, 0, none⟩))), (35, bA false)] ∧ h = [.cells g3 87 (encF x), .cells g4 87 (encF y), .cells g5 87 (encF z)]) ?_ ?_
    · rcases lt3 x y with ⟨h1, h2, hxy⟩ | ⟨h1, h2, hxy⟩ | ⟨h1, h2, hxy⟩
      · refine wDraw 22 (by kernel_rfl) (by kernel_rfl) ?_  -- region 3
        refine sP rfl rfl rfl (pLdW 0 rfl rfl rfl ty87 rfl) ?_  -- t14 := load t3
        refine sP rfl rfl rfl (pLdW 1 rfl rfl rfl ty87 rfl) ?_  -- t15 := load t4
        refine sP rfl rfl rfl (p_call rfl (less_is h1) ⟨Sub.refl, Sub.refl, trivial⟩) ?_  -- t16 := call   -- t14 t15
        refine sP rfl rfl rfl (pM rfl rfl) ?_  -- t17 := move t16
        refine sG rfl rfl rfl rfl rfl (pLdW 1 rfl rfl rfl ty87 rfl) ?_  -- t18 := load t4   GUARD ['3', 'true']
        refine sG rfl rfl rfl rfl rfl (pLdW 0 rfl rfl rfl ty87 rfl) ?_  -- t19 := load t3   GUARD ['3', 'true']
        refine sG rfl rfl rfl rfl rfl (p_call rfl (less_is h2) ⟨Sub.refl, Sub.refl, trivial⟩) ?_  -- t20 := call    GUARD ['3', 'true']  -- t18 t19
        refine sP rfl rfl rfl (p_pick rfl rfl rfl) ?_  -- t21 := pick t17 t20 c
        refine sP rfl rfl rfl (pM rfl rfl) ?_  -- t22 := move t21
        refine sG rfl rfl rfl rfl rfl (pLdW 0 rfl rfl rfl ty87 rfl) ?_  -- t23 := load t3   GUARD ['8', 'false']
        refine sG rfl rfl rfl rfl rfl (pLdW 1 rfl rfl rfl ty87 rfl) ?_  -- t24 := load t4   GUARD ['8', 'false']
        refine sG rfl rfl rfl rfl rfl (p_call rfl (less_is h1) ⟨Sub.refl, Sub.refl, trivial⟩) ?_  -- t25 := call    GUARD ['8', 'false']  -- t23 t24
        refine sG rfl rfl rfl rfl rfl (pM rfl rfl) ?_  -- t26 := move t25   GUARD ['8', 'false']
        refine sU rfl rfl rfl (by decide) rfl rfl ?_  -- t27
        refine sU rfl rfl rfl (by decide) rfl rfl ?_  -- t28
        refine sU rfl rfl rfl (by decide) rfl rfl ?_  -- t29
        refine sG rfl rfl rfl rfl rfl (p_pick rfl rfl rfl) ?_  -- t30 := pick t26 c t29   GUARD ['8', 'false']
        refine sG rfl rfl rfl rfl rfl (pLdW 0 rfl rfl rfl ty87 rfl) ?_  -- t31 := load t3   GUARD ['8', 'false']
        refine sG rfl rfl rfl rfl rfl (pLdW 1 rfl rfl rfl ty87 rfl) ?_  -- t32 := load t4   GUARD ['8', 'false']
        refine sG rfl rfl rfl rfl rfl (p_eqs (r := false) rfl rfl rfl rfl rfl guardF (fun w => by have h := eqF w x y; rw [hxy] at h; exact h)) ?_  -- t33 := binOp t31 t32   GUARD ['8', 'false']
        refine sG rfl rfl rfl rfl rfl (p_beq rfl rfl rfl Try.underlying4 rfl) ?_  -- t34 := binOp t30 t33   GUARD ['8', 'false']
        refine sP rfl rfl rfl (p_pick rfl rfl rfl) ?_  -- t35 := pick t22 c t34
        refine lTail ?_
        refine lNil ?_
        exact ⟨_, [.cells g3 87 (encF x), .cells g4 87 (encF y), .cells g5 87 (encF z)], [], ⟨rfl, rfl⟩, ⟨rfl, rfl, rfl, rfl, trivial⟩, rfl⟩
      · refine wDraw 22 (by kernel_rfl) (by kernel_rfl) ?_  -- region 3
        refine sP rfl rfl rfl (pLdW 0 rfl rfl rfl ty87 rfl) ?_  -- t14 := load t3
        refine sP rfl rfl rfl (pLdW 1 rfl rfl rfl ty87 rfl) ?_  -- t15 := load t4
        refine sP rfl rfl rfl (p_call rfl (less_is h1) ⟨Sub.refl, Sub.refl, trivial⟩) ?_  -- t16 := call   -- t14 t15
        refine sP rfl rfl rfl (pM rfl rfl) ?_  -- t17 := move t16
        refine sU rfl rfl rfl (by decide) rfl rfl ?_  -- t18
        refine sU rfl rfl rfl (by decide) rfl rfl ?_  -- t19
        refine sU rfl rfl rfl (by decide) rfl rfl ?_  -- t20
        refine sP rfl rfl rfl (p_pick rfl rfl rfl) ?_  -- t21 := pick t17 t20 c
        refine sP rfl rfl rfl (pM rfl rfl) ?_  -- t22 := move t21
        refine sG rfl rfl rfl rfl rfl (pLdW 0 rfl rfl rfl ty87 rfl) ?_  -- t23 := load t3   GUARD ['8', 'false']
        refine sG rfl rfl rfl rfl rfl (pLdW 1 rfl rfl rfl ty87 rfl) ?_  -- t24 := load t4   GUARD ['8', 'false']
        refine sG rfl rfl rfl rfl rfl (p_call rfl (less_is h1) ⟨Sub.refl, Sub.refl, trivial⟩) ?_  -- t25 := call    GUARD ['8', 'false']  -- t23 t24
        refine sG rfl rfl rfl rfl rfl (pM rfl rfl) ?_  -- t26 := move t25   GUARD ['8', 'false']
        refine sG rfl rfl rfl rfl rfl (pLdW 1 rfl rfl rfl ty87 rfl) ?_  -- t27 := load t4   GUARD ['12', 'false']
        refine sG rfl rfl rfl rfl rfl (pLdW 0 rfl rfl rfl ty87 rfl) ?_  -- t28 := load t3   GUARD ['12', 'false']
        refine sG rfl rfl rfl rfl rfl (p_call rfl (less_is h2) ⟨Sub.refl, Sub.refl, trivial⟩) ?_  -- t29 := call    GUARD ['12', 'false']  -- t27 t28
        refine sG rfl rfl rfl rfl rfl (p_pick rfl rfl rfl) ?_  -- t30 := pick t26 c t29   GUARD ['8', 'false']
        refine sG rfl rfl rfl rfl rfl (pLdW 0 rfl rfl rfl ty87 rfl) ?_  -- t31 := load t3   GUARD ['8', 'false']
        refine sG rfl rfl rfl rfl rfl (pLdW 1 rfl rfl rfl ty87 rfl) ?_  -- t32 := load t4   GUARD ['8', 'false']
        refine sG rfl rfl rfl rfl rfl (p_eqs (r := false) rfl rfl rfl rfl rfl guardF (fun w => by have h := eqF w x y; rw [hxy] at h; exact h)) ?_  -- t33 := binOp t31 t32   GUARD ['8', 'false']
        refine sG rfl rfl rfl rfl rfl (p_beq rfl rfl rfl Try.underlying4 rfl) ?_  -- t34 := binOp t30 t33   GUARD ['8', 'false']
        refine sP rfl rfl rfl (p_pick rfl rfl rfl) ?_  -- t35 := pick t22 c t34
        refine lTail ?_
        refine lNil ?_
        exact ⟨_, [.cells g3 87 (encF x), .cells g4 87 (encF y), .cells g5 87 (encF z)], [], ⟨rfl, rfl⟩, ⟨rfl, rfl, rfl, rfl, trivial⟩, rfl⟩
      · refine wDraw 22 (by kernel_rfl) (by kernel_rfl) ?_  -- region 3
        refine sP rfl rfl rfl (pLdW 0 rfl rfl rfl ty87 rfl) ?_  -- t14 := load t3
        refine sP rfl rfl rfl (pLdW 1 rfl rfl rfl ty87 rfl) ?_  -- t15 := load t4
        refine sP rfl rfl rfl (p_call rfl (less_is h1) ⟨Sub.refl, Sub.refl, trivial⟩) ?_  -- t16 := call   -- t14 t15
        refine sP rfl rfl rfl (pM rfl rfl) ?_  -- t17 := move t16
        refine sU rfl rfl rfl (by decide) rfl rfl ?_  -- t18
        refine sU rfl rfl rfl (by decide) rfl rfl ?_  -- t19
        refine sU rfl rfl rfl (by decide) rfl rfl ?_  -- t20
        refine sP rfl rfl rfl (p_pick rfl rfl rfl) ?_  -- t21 := pick t17 t20 c
        refine sP rfl rfl rfl (pM rfl rfl) ?_  -- t22 := move t21
        refine sG rfl rfl rfl rfl rfl (pLdW 0 rfl rfl rfl ty87 rfl) ?_  -- t23 := load t3   GUARD ['8', 'false']
        refine sG rfl rfl rfl rfl rfl (pLdW 1 rfl rfl rfl ty87 rfl) ?_  -- t24 := load t4   GUARD ['8', 'false']
        refine sG rfl rfl rfl rfl rfl (p_call rfl (less_is h1) ⟨Sub.refl, Sub.refl, trivial⟩) ?_  -- t25 := call    GUARD ['8', 'false']  -- t23 t24
        refine sG rfl rfl rfl rfl rfl (pM rfl rfl) ?_  -- t26 := move t25   GUARD ['8', 'false']
        refine sG rfl rfl rfl rfl rfl (pLdW 1 rfl rfl rfl ty87 rfl) ?_  -- t27 := load t4   GUARD ['12', 'false']
        refine sG rfl rfl rfl rfl rfl (pLdW 0 rfl rfl rfl ty87 rfl) ?_  -- t28 := load t3   GUARD ['12', 'false']
        refine sG rfl rfl rfl rfl rfl (p_call rfl (less_is h2) ⟨Sub.refl, Sub.refl, trivial⟩) ?_  -- t29 := call    GUARD ['12', 'false']  -- t27 t28
        refine sG rfl rfl rfl rfl rfl (p_pick rfl rfl rfl) ?_  -- t30 := pick t26 c t29   GUARD ['8', 'false']
        refine sG rfl rfl rfl rfl rfl (pLdW 0 rfl rfl rfl ty87 rfl) ?_  -- t31 := load t3   GUARD ['8', 'false']
        refine sG rfl rfl rfl rfl rfl (pLdW 1 rfl rfl rfl ty87 rfl) ?_  -- t32 := load t4   GUARD ['8', 'false']
        refine sG rfl rfl rfl rfl rfl (p_eqs (r := true) rfl rfl rfl rfl rfl guardF (fun w => by have h := eqF w x y; rw [hxy] at h; exact h)) ?_  -- t33 := binOp t31 t32   GUARD ['8', 'false']
        refine sG rfl rfl rfl rfl rfl (p_beq rfl rfl rfl Try.underlying4 rfl) ?_  -- t34 := binOp t30 t33   GUARD ['8', 'false']
        refine sP rfl rfl rfl (p_pick rfl rfl rfl) ?_  -- t35 := pick t22 c t34
        refine lTail ?_
        refine lNil ?_
        exact ⟨_, [.cells g3 87 (encF x), .cells g4 87 (encF y), .cells g5 87 (encF z)], [], ⟨rfl, rfl⟩, ⟨rfl, rfl, rfl, rfl, trivial⟩, rfl⟩
    · rintro L h ⟨rfl, rfl⟩
      refine wCond rfl (fun hc2 => ?_) (fun hc2 => ?_)  -- t35
      · refine wSeq ?_
        refine wReg ?_  -- region 4
        refine sP rfl rfl rfl (pA rfl rfl) ?_  -- t6 := assign c
        refine lNil ?_
        refine wRet ?_
        cases hc2
      · refine wSkip ?_
        refine wCut (fun L h => L = [(3, .x (.pointer (some ⟨g3, 0, none⟩))), (4, .x (.pointer (some ⟨g4, 0, none⟩))), (5, .x (.pointer (some ⟨g5, 0, none⟩))), (6, bA true)] ∧ h = [.cells g3 87 (encF x), .cells g4 87 (encF y), .cells g5 87 (encF z)]) ?_ ?_
        · rcases lt4 x y z with h1 | ⟨h1, h2⟩ | ⟨h1, h2, h3⟩
          · refine wReg ?_  -- region 5
            refine sP rfl rfl rfl (pLdW 0 rfl rfl rfl ty87 rfl) ?_  -- t36 := load t3
            refine sP rfl rfl rfl (pLdW 1 rfl rfl rfl ty87 rfl) ?_  -- t37 := load t4
            refine sP rfl rfl rfl (p_call rfl (less_is h1) ⟨Sub.refl, Sub.refl, trivial⟩) ?_  -- t38 := call   -- t36 t37
            refine sP rfl rfl rfl (p_not rfl rfl) ?_  -- t39 := unOp t38
            refine sP rfl rfl rfl (pM rfl rfl) ?_  -- t40 := move t39
            refine sU rfl rfl rfl (by decide) rfl rfl ?_  -- t41
            refine sU rfl rfl rfl (by decide) rfl rfl ?_  -- t42
            refine sU rfl rfl rfl (by decide) rfl rfl ?_  -- t43
            refine sU rfl rfl rfl (by decide) rfl rfl ?_  -- t44
            refine sP rfl rfl rfl (p_pick rfl rfl rfl) ?_  -- t45 := pick t40 c t44
            refine sP rfl rfl rfl (pM rfl rfl) ?_  -- t46 := move t45
            refine sU rfl rfl rfl (by decide) rfl rfl ?_  -- t47
            refine sU rfl rfl rfl (by decide) rfl rfl ?_  -- t48
            refine sU rfl rfl rfl (by decide) rfl rfl ?_  -- t49
            refine sP rfl rfl rfl (p_pick rfl rfl rfl) ?_  -- t50 := pick t46 c t49
            refine sP rfl rfl rfl (pM rfl rfl) ?_  -- t51 := move t50
            refine sG rfl rfl rfl rfl rfl (p_call rfl (awake15_p) trivial) ?_  -- t52 := call    GUARD ['15', 'true']  --
            refine sP rfl rfl rfl (p_pick rfl rfl rfl) ?_  -- t53 := pick t51 t52 c
            refine sP rfl rfl rfl (pA rfl rfl) ?_  -- t6 := assign t53
            refine lNil ?_
            exact ⟨_, [.cells g3 87 (encF x), .cells g4 87 (encF y), .cells g5 87 (encF z)], [], ⟨rfl, rfl⟩, ⟨rfl, rfl, rfl, rfl, trivial⟩, rfl⟩
          · refine wReg ?_  -- region 5
            refine sP rfl rfl rfl (pLdW 0 rfl rfl rfl ty87 rfl) ?_  -- t36 := load t3
            refine sP rfl rfl rfl (pLdW 1 rfl rfl rfl ty87 rfl) ?_  -- t37 := load t4
            refine sP rfl rfl rfl (p_call rfl (less_is h1) ⟨Sub.refl, Sub.refl, trivial⟩) ?_  -- t38 := call   -- t36 t37
            refine sP rfl rfl rfl (p_not rfl rfl) ?_  -- t39 := unOp t38
            refine sP rfl rfl rfl (pM rfl rfl) ?_  -- t40 := move t39
            refine sG rfl rfl rfl rfl rfl (pLdW 1 rfl rfl rfl ty87 rfl) ?_  -- t41 := load t4   GUARD ['4', 'false']
            refine sG rfl rfl rfl rfl rfl (pLdW 2 rfl rfl rfl ty87 rfl) ?_  -- t42 := load t5   GUARD ['4', 'false']
            refine sG rfl rfl rfl rfl rfl (p_call rfl (less_is h2) ⟨Sub.refl, Sub.refl, trivial⟩) ?_  -- t43 := call    GUARD ['4', 'false']  -- t41 t42
            refine sG rfl rfl rfl rfl rfl (p_not rfl rfl) ?_  -- t44 := unOp t43   GUARD ['4', 'false']
            refine sP rfl rfl rfl (p_pick rfl rfl rfl) ?_  -- t45 := pick t40 c t44
            refine sP rfl rfl rfl (pM rfl rfl) ?_  -- t46 := move t45
            refine sU rfl rfl rfl (by decide) rfl rfl ?_  -- t47
            refine sU rfl rfl rfl (by decide) rfl rfl ?_  -- t48
            refine sU rfl rfl rfl (by decide) rfl rfl ?_  -- t49
            refine sP rfl rfl rfl (p_pick rfl rfl rfl) ?_  -- t50 := pick t46 c t49
            refine sP rfl rfl rfl (pM rfl rfl) ?_  -- t51 := move t50
            refine sG rfl rfl rfl rfl rfl (p_call rfl (awake15_p) trivial) ?_  -- t52 := call    GUARD ['15', 'true']  --
            refine sP rfl rfl rfl (p_pick rfl rfl rfl) ?_  -- t53 := pick t51 t52 c
            refine sP rfl rfl rfl (pA rfl rfl) ?_  -- t6 := assign t53
            refine lNil ?_
            exact ⟨_, [.cells g3 87 (encF x), .cells g4 87 (encF y), .cells g5 87 (encF z)], [], ⟨rfl, rfl⟩, ⟨rfl, rfl, rfl, rfl, trivial⟩, rfl⟩
          · refine wReg ?_  -- region 5
            refine sP rfl rfl rfl (pLdW 0 rfl rfl rfl ty87 rfl) ?_  -- t36 := load t3
            refine sP rfl rfl rfl (pLdW 1 rfl rfl rfl ty87 rfl) ?_  -- t37 := load t4
            refine sP rfl rfl rfl (p_call rfl (less_is h1) ⟨Sub.refl, Sub.refl, trivial⟩) ?_  -- t38 := call   -- t36 t37
            refine sP rfl rfl rfl (p_not rfl rfl) ?_  -- t39 := unOp t38
            refine sP rfl rfl rfl (pM rfl rfl) ?_  -- t40 := move t39
            refine sG rfl rfl rfl rfl rfl (pLdW 1 rfl rfl rfl ty87 rfl) ?_  -- t41 := load t4   GUARD ['4', 'false']
            refine sG rfl rfl rfl rfl rfl (pLdW 2 rfl rfl rfl ty87 rfl) ?_  -- t42 := load t5   GUARD ['4', 'false']
            refine sG rfl rfl rfl rfl rfl (p_call rfl (less_is h2) ⟨Sub.refl, Sub.refl, trivial⟩) ?_  -- t43 := call    GUARD ['4', 'false']  -- t41 t42
            refine sG rfl rfl rfl rfl rfl (p_not rfl rfl) ?_  -- t44 := unOp t43   GUARD ['4', 'false']
            refine sP rfl rfl rfl (p_pick rfl rfl rfl) ?_  -- t45 := pick t40 c t44
            refine sP rfl rfl rfl (pM rfl rfl) ?_  -- t46 := move t45
            refine sG rfl rfl rfl rfl rfl (pLdW 0 rfl rfl rfl ty87 rfl) ?_  -- t47 := load t3   GUARD ['10', 'false']
            refine sG rfl rfl rfl rfl rfl (pLdW 2 rfl rfl rfl ty87 rfl) ?_  -- t48 := load t5   GUARD ['10', 'false']
            refine sG rfl rfl rfl rfl rfl (p_call rfl (less_is h3) ⟨Sub.refl, Sub.refl, trivial⟩) ?_  -- t49 := call    GUARD ['10', 'false']  -- t47 t48
            refine sP rfl rfl rfl (p_pick rfl rfl rfl) ?_  -- t50 := pick t46 c t49
            refine sP rfl rfl rfl (pM rfl rfl) ?_  -- t51 := move t50
            refine sG rfl rfl rfl rfl rfl (p_call rfl (awake15_p) trivial) ?_  -- t52 := call    GUARD ['15', 'true']  --
            refine sP rfl rfl rfl (p_pick rfl rfl rfl) ?_  -- t53 := pick t51 t52 c
            refine sP rfl rfl rfl (pA rfl rfl) ?_  -- t6 := assign t53
            refine lNil ?_
            exact ⟨_, [.cells g3 87 (encF x), .cells g4 87 (encF y), .cells g5 87 (encF z)], [], ⟨rfl, rfl⟩, ⟨rfl, rfl, rfl, rfl, trivial⟩, rfl⟩
        · rintro L h ⟨rfl, rfl⟩
          refine wRet ?_
          exact rgs1 (rg_tmp (gives_sub Sub.refl))
end Go.Proofs.Ytmhkalalcmkpbaa
