/-
  Lfo ReadArg ReadD ReadF LfoW
-/
import Derived.Test.YtmhkalalcmkpbaaZAw15
import Derived.Test.YtmhkalalcmkpbaaZDotSame
import Derived.Test.YtmhkalalcmkpbaaZDotSmall
import Derived.Test.YtmhkalalcmkpbaaZFlay
import Derived.Test.YtmhkalalcmkpbaaZMem2
import Derived.Laws.Small
import Derived.WalkKit
import Derived.ProofKit
import Derived.OpenShut
import Derived.Deep.Slices
import Derived.Lib.SmallJoins
namespace Go.Proofs.Ytmhkalalcmkpbaa
open Go Go.RowKit
set_option linter.unusedVariables false
set_option linter.unusedSimpArgs false

def fewOne (f : FactT) : Bool := decide (f.2.2.2.1.size ≤ 100) && decide (f.2.2.2.2.size ≤ 1000)
def fewF (l : List FactT) : Bool := decide (l.length ≤ 30) && l.all fewOne
theorem fewOne_no {d : FactT} (h : (decide ((100 : Int) < (d.2.2.2.1.size : Nat)) || decide ((1000 : Int) < (d.2.2.2.2.size : Nat))) = true) : fewOne d = false := by
  unfold fewOne
  rw [Bool.or_eq_true, decide_eq_true_eq, decide_eq_true_eq] at h
  rw [Bool.and_eq_false_iff, decide_eq_false_iff_not, decide_eq_false_iff_not]
  omega
theorem fewOne_yes {d : FactT} (h : (decide ((100 : Int) < (d.2.2.2.1.size : Nat)) || decide ((1000 : Int) < (d.2.2.2.2.size : Nat))) = false) : fewOne d = true := by
  unfold fewOne
  rw [Bool.or_eq_false_iff, decide_eq_false_iff_not, decide_eq_false_iff_not] at h
  rw [Bool.and_eq_true, decide_eq_true_eq, decide_eq_true_eq]
  omega
theorem fewF_long {l : List FactT} (h : 30 < l.length) : fewF l = false := by
  unfold fewF; rw [decide_eq_false (by omega)]; rfl
theorem fewF_no {l : List FactT} {i : Nat} {d : FactT} (hd : l[i]? = some d) (h : fewOne d = false) : fewF l = false := by
  unfold fewF
  rw [Bool.and_eq_false_iff]
  exact .inr (List.all_eq_false.2 ⟨d, List.mem_of_getElem? hd, by rw [h]; decide⟩)
theorem fewF_yes {l : List FactT} (hl : ¬ 30 < l.length) (h : ∀ (j : Nat) y, l[j]? = some y → fewOne y = true) : fewF l = true := by
  unfold fewF
  rw [Bool.and_eq_true, decide_eq_true_eq]
  refine ⟨by omega, List.all_eq_true.2 fun y hy => ?_⟩
  obtain ⟨j, hj⟩ := List.mem_iff_getElem?.1 hy
  exact h j y hj
theorem fewF_ok {l : List FactT} (h : fewF l = true) : l.length ≤ 30 ∧ ∀ f ∈ l, okF f := by
  unfold fewF at h
  rw [Bool.and_eq_true, decide_eq_true_eq] at h
  refine ⟨h.1, fun f hf => ?_⟩
  have h2 := List.all_eq_true.1 h.2 f hf
  unfold fewOne at h2
  rw [Bool.and_eq_true, decide_eq_true_eq, decide_eq_true_eq] at h2
  exact ⟨by omega, by omega⟩
section
variable {P : Program} {K : Prop} {N : Nat} {X : Nat → Prop} {h : List HObj} {f : Nat → AV} {o : Oper}
theorem p_beq {t t' : TypeId} {x y : Operand} {a b : Bool} {r : Bool} (ho : o.op = .binOp .eql t x y t') (hx : evalT f x = .x (.bool a)) (hy : evalT f y = .x (.bool b)) (ht : P.underlying t = some .bool) (hr : (a == b) = r) : PureOp P K N X h f o (.x (.bool r)) := pure_run fun ac w w0 env H => by
  rw [ho] at H
  have g1 := H x (by simp [Op.operands])
  have g2 := H y (by simp [Op.operands])
  rw [hx, rep_x] at g1
  rw [hy, rep_x] at g2
  refine ⟨.bool r, ?_, rep_x.2 rfl⟩
  subst hr
  have := run_eql_bool (P := P) w t a b ht
  simp [execOp, ho, g1, g2, eqGuard, this]
end
theorem lt3 (x y : FactT) : (ltF x y = true ∧ ltF y x = false ∧ decide (x = y) = false) ∨ (ltF x y = false ∧ ltF y x = true ∧ decide (x = y) = false) ∨ (ltF x y = false ∧ ltF y x = false ∧ decide (x = y) = true) := by
  cases h1 : ltF x y with
  | true =>
    refine .inl ⟨rfl, stoF.asymm h1, decide_eq_false fun e => ?_⟩
    subst e; rw [stoF.irrefl] at h1; cases h1
  | false =>
    cases h2 : ltF y x with
    | true =>
      refine .inr (.inl ⟨rfl, rfl, decide_eq_false fun e => ?_⟩)
      subst e; rw [stoF.irrefl] at h2; cases h2
    | false => exact .inr (.inr ⟨rfl, rfl, decide_eq_true (stoF.total x y h1 h2)⟩)
theorem less_is {x y : FactT} {b : Bool} (h : ltF x y = b) : PFn Try.prog False 49 [fA x, fA y] (bA b) := by
  have h2 := fless_p (K := False) x y
  rw [h] at h2; exact h2

set_option maxRecDepth 100000 in
theorem few_p (l : List FactT) : PFn Try.prog False 41 [slF l] (bA (fewF l)) := by
  refine pfn Try.func41 rfl (by kernel_rfl) 29 rfl _ rfl (Nat.le_of_ble_eq_true rfl) (fun X w0 => ?_)
  refine wSeq ?_
  refine wReg ?_  -- region 0
  refine sP rfl rfl rfl (pA rfl rfl) ?_  -- t2 := assign c
  refine lNil ?_
  refine wSeq ?_
  refine wSeq ?_
  refine wReg ?_  -- region 1
  refine sP rfl rfl rfl (pMs rfl rfl) ?_  -- t4 := move t0
  refine sP rfl rfl rfl (p_len_sl rfl rfl Try.underlying26) ?_  -- t5 := call   -- t4
  refine sP rfl rfl rfl (p_icmp rfl rfl rfl rfl) ?_  -- t6 := binOp t5 c
  refine lNil ?_
  refine wCond rfl (fun hc1 => ?_) (fun hc1 => ?_)  -- t6
  · refine wSeq ?_
    refine wReg ?_  -- region 2
    refine sP rfl rfl rfl (pA rfl rfl) ?_  -- t2 := assign c
    refine lNil ?_
    refine wRet ?_
    have h : 30 < l.length := by have h := hc1; simp at h; omega
    exact rgs1 (rg_tmp (gives_sub (Sub.of_eq (avB (fewF_long h).symm))))
  · have hlen : ¬ 30 < l.length := by have h := hc1; simp at h; omega
    refine wSkip ?_
    refine wSeq ?_
    refine wSeq ?_
    refine wReg ?_  -- region 3
    refine sP rfl rfl rfl (pA rfl rfl) ?_  -- t3 := assign c
    refine lNil ?_
    refine wBlock ?_
    refine wLoop (fun mm L h => ∃ i, mm = l.length - i ∧ i ≤ l.length ∧ (∀ (j : Nat) y, j < i → l[j]? = some y → fewOne y = true) ∧ L = [(0, slF l), (3, iA (i : Nat))] ∧ h = []) ⟨_, _, _, _, ⟨0, rfl, Nat.zero_le _, fun j y hj => absurd hj (by omega), rfl, rfl⟩, ⟨rfl, rfl, trivial⟩, rfl⟩ ?_
    rintro mm L h ⟨i, rfl, hi, h0, rfl, rfl⟩
    refine wSeq ?_
    refine wSeq ?_
    refine wReg ?_  -- region 4
    refine sP rfl rfl rfl (pM rfl rfl) ?_  -- t7 := move t3
    refine sP rfl rfl rfl (pMs rfl rfl) ?_  -- t8 := move t0
    refine sP rfl rfl rfl (p_len_sl rfl rfl Try.underlying26) ?_  -- t9 := call   -- t8
    refine sP rfl rfl rfl (p_icmp rfl rfl rfl rfl) ?_  -- t10 := binOp t7 t9
    refine lNil ?_
    refine wCond rfl (fun hc2 => ?_) (fun hc2 => ?_)  -- t10
    · have hlt : i < l.length := by simpa using hc2
      obtain ⟨d, hd⟩ := getL hlt
      refine wSkip ?_
      refine wSeq ?_
      refine wBlock ?_
      refine wCut (fun L h => ∃ b : Bool, b = (decide ((100 : Int) < (d.2.2.2.1.size : Nat)) || decide ((1000 : Int) < (d.2.2.2.2.size : Nat))) ∧ L = [(0, slF l), (3, iA (i : Nat)), (28, bA b)] ∧ h = []) ?_ ?_
      · cases hb : (decide ((100 : Int) < (d.2.2.2.1.size : Nat))) with
        | true =>
          refine wReg ?_  -- region 6
          refine sP rfl rfl rfl (pMs rfl rfl) ?_  -- t13 := move t0
          refine sP rfl rfl rfl (pM rfl rfl) ?_  -- t14 := move t3
          refine sP rfl rfl rfl (pIdx i rfl rfl Try.underlying26 ty87 (by decide) rfl (fun _ => rfl) rfl rfl hd) ?_  -- t15 := indexAddr t13 t14
          refine sP rfl rfl rfl (p_fieldAddr_ip rfl rfl fl87_3 ty9 (by decide)) ?_  -- t16 := fieldAddr t15
          refine sP rfl rfl rfl (pLd1 rfl rfl ty9) ?_  -- t17 := load t16
          refine sP rfl rfl rfl (p_len_str rfl rfl Try.underlying9) ?_  -- t18 := call   -- t17
          refine sP rfl rfl rfl (p_icmp rfl rfl rfl (congrArg some hb)) ?_  -- t19 := binOp t18 c
          refine sP rfl rfl rfl (pM rfl rfl) ?_  -- t20 := move t19
          refine sU rfl rfl rfl (by decide) rfl rfl ?_  -- t21 := move t0   GUARD ['7', 'false']
          refine sU rfl rfl rfl (by decide) rfl rfl ?_  -- t22 := move t3   GUARD ['7', 'false']
          refine sU rfl rfl rfl (by decide) rfl rfl ?_  -- t23 := indexAddr t21 t22   GUARD ['7', 'false']
          refine sU rfl rfl rfl (by decide) rfl rfl ?_  -- t24 := fieldAddr t23   GUARD ['7', 'false']
          refine sU rfl rfl rfl (by decide) rfl rfl ?_  -- t25 := load t24   GUARD ['7', 'false']
          refine sU rfl rfl rfl (by decide) rfl rfl ?_  -- t26 := call    GUARD ['7', 'false']  -- t25
          refine sU rfl rfl rfl (by decide) rfl rfl ?_  -- t27 := binOp t26 c   GUARD ['7', 'false']
          refine sP rfl rfl rfl (p_pick rfl rfl rfl) ?_  -- t28 := pick t20 c t27
          refine lNil ?_
          exact ⟨_, [], [], ⟨_, (by exact rfl), rfl, rfl⟩, ⟨rfl, rfl, rfl, trivial⟩, rfl⟩
        | false =>
          refine wReg ?_  -- region 6
          refine sP rfl rfl rfl (pMs rfl rfl) ?_  -- t13 := move t0
          refine sP rfl rfl rfl (pM rfl rfl) ?_  -- t14 := move t3
          refine sP rfl rfl rfl (pIdx i rfl rfl Try.underlying26 ty87 (by decide) rfl (fun _ => rfl) rfl rfl hd) ?_  -- t15 := indexAddr t13 t14
          refine sP rfl rfl rfl (p_fieldAddr_ip rfl rfl fl87_3 ty9 (by decide)) ?_  -- t16 := fieldAddr t15
          refine sP rfl rfl rfl (pLd1 rfl rfl ty9) ?_  -- t17 := load t16
          refine sP rfl rfl rfl (p_len_str rfl rfl Try.underlying9) ?_  -- t18 := call   -- t17
          refine sP rfl rfl rfl (p_icmp rfl rfl rfl (congrArg some hb)) ?_  -- t19 := binOp t18 c
          refine sP rfl rfl rfl (pM rfl rfl) ?_  -- t20 := move t19
          refine sG rfl rfl rfl rfl rfl (pMs rfl rfl) ?_  -- t21 := move t0   GUARD ['7', 'false']
          refine sG rfl rfl rfl rfl rfl (pM rfl rfl) ?_  -- t22 := move t3   GUARD ['7', 'false']
          refine sG rfl rfl rfl rfl rfl (pIdx i rfl rfl Try.underlying26 ty87 (by decide) rfl (fun _ => rfl) rfl rfl hd) ?_  -- t23 := indexAddr t21 t22   GUARD ['7', 'false']
          refine sG rfl rfl rfl rfl rfl (p_fieldAddr_ip rfl rfl fl87_4 ty9 (by decide)) ?_  -- t24 := fieldAddr t23   GUARD ['7', 'false']
          refine sG rfl rfl rfl rfl rfl (pLd1 rfl rfl ty9) ?_  -- t25 := load t24   GUARD ['7', 'false']
          refine sG rfl rfl rfl rfl rfl (p_len_str rfl rfl Try.underlying9) ?_  -- t26 := call    GUARD ['7', 'false']  -- t25
          refine sG rfl rfl rfl rfl rfl (p_icmp rfl rfl rfl rfl) ?_  -- t27 := binOp t26 c   GUARD ['7', 'false']
          refine sP rfl rfl rfl (p_pick rfl rfl rfl) ?_  -- t28 := pick t20 c t27
          refine lNil ?_
          exact ⟨_, [], [], ⟨_, (by exact rfl), rfl, rfl⟩, ⟨rfl, rfl, rfl, trivial⟩, rfl⟩
      · rintro L h ⟨b, hb, rfl, rfl⟩
        refine wCond rfl (fun hc3 => ?_) (fun hc3 => ?_)  -- t28
        · refine wSeq ?_
          refine wReg ?_  -- region 7
          refine sP rfl rfl rfl (pA rfl rfl) ?_  -- t2 := assign c
          refine lNil ?_
          refine wRet ?_
          exact rgs1 (rg_tmp (gives_sub (Sub.of_eq (avB (fewF_no hd (fewOne_no (hb.symm.trans hc3))).symm))))
        · refine wSkip ?_
          refine wReg ?_  -- region 5
          refine sP rfl rfl rfl (pM rfl rfl) ?_  -- t11 := move t3
          refine sP rfl rfl rfl (p_iar rfl rfl rfl rfl) ?_  -- t12 := binOp t11 c
          refine sP rfl rfl rfl (pA rfl rfl) ?_  -- t3 := assign t12
          refine lNil ?_
          refine ⟨_, _, [], [], ?_, ⟨i + 1, rfl, hlt, fun j y hj hy => ?_, rfl, rfl⟩, ⟨rfl, avI (wrapI (by omega) (by omega)), trivial⟩, rfl⟩
          · omega
          · rcases Nat.lt_or_ge j i with h | h
            · exact h0 j y h hy
            · obtain rfl : j = i := by omega
              rw [hd] at hy; injection hy with hy; rw [← hy]; exact fewOne_yes (hb.symm.trans hc3)
    · have hge : ¬ i < l.length := by simpa using hc2
      refine wExit ?_
      refine wSeq ?_
      refine wReg ?_  -- region 8
      refine sP rfl rfl rfl (pA rfl rfl) ?_  -- t2 := assign c
      refine lNil ?_
      refine wRet ?_
      exact rgs1 (rg_tmp (gives_sub (Sub.of_eq (avB (fewF_yes hlen (fun j y hy => h0 j y (by have := (List.getElem?_eq_some_iff.1 hy).1; omega) hy)).symm))))
theorem lt4 (x y z : FactT) : ltF x y = false ∨ (ltF x y = true ∧ ltF y z = false) ∨ (ltF x y = true ∧ ltF y z = true ∧ ltF x z = true) := by
  cases h1 : ltF x y with
  | false => exact .inl rfl
  | true =>
    cases h2 : ltF y z with
    | false => exact .inr (.inl ⟨rfl, rfl⟩)
    | true => exact .inr (.inr ⟨rfl, rfl, stoF.trans x y z h1 h2⟩)

set_option maxHeartbeats 1000000 in
set_option maxRecDepth 100000 in
theorem forder_w (x y z : FactT) : PFn Try.prog False 10 [fA x, fA y, fA z] (bA true) := by
  refine pfn Try.func10 rfl (by kernel_rfl) 54 rfl _ rfl (Nat.le_of_ble_eq_true rfl) (fun X w0 => ?_)
  refine wSeq ?_
  refine wReg ?_  -- region 0
  refine sBox rfl rfl rfl rfl rfl (fun g3 => ?_)  -- t3 := box t0
  refine sBox rfl rfl rfl rfl rfl (fun g4 => ?_)  -- t4 := box t1
  refine sBox rfl rfl rfl rfl rfl (fun g5 => ?_)  -- t5 := box t2
  refine sP rfl rfl rfl (pA rfl rfl) ?_  -- t6 := assign c
  refine lNil ?_
  refine wSeq ?_
  refine wSeq ?_
  refine wReg ?_  -- region 1
  refine sP rfl rfl rfl (pLdW 0 rfl rfl rfl ty87 rfl) ?_  -- t7 := load t3
  refine sP rfl rfl rfl (pLdW 1 rfl rfl rfl ty87 rfl) ?_  -- t8 := load t4
  refine sP rfl rfl rfl (pLdW 2 rfl rfl rfl ty87 rfl) ?_  -- t9 := load t5
  refine sP rfl rfl rfl (p_buildSlice (res := [x, y, z].flatMap encF) rfl ze87 Try.underlying26 ty87 (by decide) (by decide) rfl rfl rfl) ?_  -- t10 := buildSlice 
  refine sP rfl rfl rfl (p_call rfl (few_p [x, y, z]) ⟨Sub.refl, trivial⟩) ?_  -- t11 := call   -- t10
  refine sP rfl rfl rfl (p_not rfl rfl) ?_  -- t12 := unOp t11
  refine lNil ?_
  refine wCond rfl (fun hc1 => ?_) (fun hc1 => ?_)  -- t12
  · refine wSeq ?_
    refine wReg ?_  -- region 2
    refine sP rfl rfl rfl (p_call rfl (awake15_p) trivial) ?_  -- t13 := call   -- 
    refine sP rfl rfl rfl (pA rfl rfl) ?_  -- t6 := assign t13
    refine lNil ?_
    refine wRet ?_
    exact rgs1 (rg_tmp (gives_sub (Sub.of_eq (rfl))))
  · refine wSkip ?_
    refine wSeq ?_
    refine wCut (fun L h => L = [(3, .x (.pointer (some ⟨g3, 0, none⟩))), (4, .x (.pointer (some ⟨g4, 0, none⟩))), (5, .x (.pointer (some ⟨g5, 0, none⟩))), (35, bA false)] ∧ h = [.cells g3 87 (encF x), .cells g4 87 (encF y), .cells g5 87 (encF z)]) ?_ ?_
    · rcases lt3 x y with ⟨h1, h2, hxy⟩ | ⟨h1, h2, hxy⟩ | ⟨h1, h2, hxy⟩
      · refine wDraw 22 (by kernel_rfl) (by kernel_rfl) ?_  -- region 3
        refine sP rfl rfl rfl (pLdW 0 rfl rfl rfl ty87 rfl) ?_  -- t14 := load t3
        refine sP rfl rfl rfl (pLdW 1 rfl rfl rfl ty87 rfl) ?_  -- t15 := load t4
        refine sP rfl rfl rfl (p_call rfl (less_is h1) ⟨Sub.refl, Sub.refl, trivial⟩) ?_  -- t16 := call   -- t14 t15
        refine sP rfl rfl rfl (pM rfl rfl) ?_  -- t17 := move t16
        refine sG rfl rfl rfl rfl rfl (pLdW 1 rfl rfl rfl ty87 rfl) ?_  -- t18 := load t4   GUARD ['3', 'true']
        refine sG rfl rfl rfl rfl rfl (pLdW 0 rfl rfl rfl ty87 rfl) ?_  -- t19 := load t3   GUARD ['3', 'true']
        refine sG rfl rfl rfl rfl rfl (p_call rfl (less_is h2) ⟨Sub.refl, Sub.refl, trivial⟩) ?_  -- t20 := call    GUARD ['3', 'true']  -- t18 t19
        refine sP rfl rfl rfl (p_pick rfl rfl rfl) ?_  -- t21 := pick t17 t20 c
        refine sP rfl rfl rfl (pM rfl rfl) ?_  -- t22 := move t21
        refine sG rfl rfl rfl rfl rfl (pLdW 0 rfl rfl rfl ty87 rfl) ?_  -- t23 := load t3   GUARD ['8', 'false']
        refine sG rfl rfl rfl rfl rfl (pLdW 1 rfl rfl rfl ty87 rfl) ?_  -- t24 := load t4   GUARD ['8', 'false']
        refine sG rfl rfl rfl rfl rfl (p_call rfl (less_is h1) ⟨Sub.refl, Sub.refl, trivial⟩) ?_  -- t25 := call    GUARD ['8', 'false']  -- t23 t24
        refine sG rfl rfl rfl rfl rfl (pM rfl rfl) ?_  -- t26 := move t25   GUARD ['8', 'false']
        refine sU rfl rfl rfl (by decide) rfl rfl ?_  -- t27
        refine sU rfl rfl rfl (by decide) rfl rfl ?_  -- t28
        refine sU rfl rfl rfl (by decide) rfl rfl ?_  -- t29
        refine sG rfl rfl rfl rfl rfl (p_pick rfl rfl rfl) ?_  -- t30 := pick t26 c t29   GUARD ['8', 'false']
        refine sG rfl rfl rfl rfl rfl (pLdW 0 rfl rfl rfl ty87 rfl) ?_  -- t31 := load t3   GUARD ['8', 'false']
        refine sG rfl rfl rfl rfl rfl (pLdW 1 rfl rfl rfl ty87 rfl) ?_  -- t32 := load t4   GUARD ['8', 'false']
        refine sG rfl rfl rfl rfl rfl (p_eqs (r := false) rfl rfl rfl rfl rfl guardF (fun w => by have h := eqF w x y; rw [hxy] at h; exact h)) ?_  -- t33 := binOp t31 t32   GUARD ['8', 'false']
        refine sG rfl rfl rfl rfl rfl (p_beq rfl rfl rfl Try.underlying4 rfl) ?_  -- t34 := binOp t30 t33   GUARD ['8', 'false']
        refine sP rfl rfl rfl (p_pick rfl rfl rfl) ?_  -- t35 := pick t22 c t34
        refine lTail ?_
        refine lNil ?_
        exact ⟨_, [.cells g3 87 (encF x), .cells g4 87 (encF y), .cells g5 87 (encF z)], [], ⟨rfl, rfl⟩, ⟨rfl, rfl, rfl, rfl, trivial⟩, rfl⟩
      · refine wDraw 22 (by kernel_rfl) (by kernel_rfl) ?_  -- region 3
        refine sP rfl rfl rfl (pLdW 0 rfl rfl rfl ty87 rfl) ?_  -- t14 := load t3
        refine sP rfl rfl rfl (pLdW 1 rfl rfl rfl ty87 rfl) ?_  -- t15 := load t4
        refine sP rfl rfl rfl (p_call rfl (less_is h1) ⟨Sub.refl, Sub.refl, trivial⟩) ?_  -- t16 := call   -- t14 t15
        refine sP rfl rfl rfl (pM rfl rfl) ?_  -- t17 := move t16
        refine sU rfl rfl rfl (by decide) rfl rfl ?_  -- t18
        refine sU rfl rfl rfl (by decide) rfl rfl ?_  -- t19
        refine sU rfl rfl rfl (by decide) rfl rfl ?_  -- t20
        refine sP rfl rfl rfl (p_pick rfl rfl rfl) ?_  -- t21 := pick t17 t20 c
        refine sP rfl rfl rfl (pM rfl rfl) ?_  -- t22 := move t21
        refine sG rfl rfl rfl rfl rfl (pLdW 0 rfl rfl rfl ty87 rfl) ?_  -- t23 := load t3   GUARD ['8', 'false']
        refine sG rfl rfl rfl rfl rfl (pLdW 1 rfl rfl rfl ty87 rfl) ?_  -- t24 := load t4   GUARD ['8', 'false']
        refine sG rfl rfl rfl rfl rfl (p_call rfl (less_is h1) ⟨Sub.refl, Sub.refl, trivial⟩) ?_  -- t25 := call    GUARD ['8', 'false']  -- t23 t24
        refine sG rfl rfl rfl rfl rfl (pM rfl rfl) ?_  -- t26 := move t25   GUARD ['8', 'false']
        refine sG rfl rfl rfl rfl rfl (pLdW 1 rfl rfl rfl ty87 rfl) ?_  -- t27 := load t4   GUARD ['12', 'false']
        refine sG rfl rfl rfl rfl rfl (pLdW 0 rfl rfl rfl ty87 rfl) ?_  -- t28 := load t3   GUARD ['12', 'false']
        refine sG rfl rfl rfl rfl rfl (p_call rfl (less_is h2) ⟨Sub.refl, Sub.refl, trivial⟩) ?_  -- t29 := call    GUARD ['12', 'false']  -- t27 t28
        refine sG rfl rfl rfl rfl rfl (p_pick rfl rfl rfl) ?_  -- t30 := pick t26 c t29   GUARD ['8', 'false']
        refine sG rfl rfl rfl rfl rfl (pLdW 0 rfl rfl rfl ty87 rfl) ?_  -- t31 := load t3   GUARD ['8', 'false']
        refine sG rfl rfl rfl rfl rfl (pLdW 1 rfl rfl rfl ty87 rfl) ?_  -- t32 := load t4   GUARD ['8', 'false']
        refine sG rfl rfl rfl rfl rfl (p_eqs (r := false) rfl rfl rfl rfl rfl guardF (fun w => by have h := eqF w x y; rw [hxy] at h; exact h)) ?_  -- t33 := binOp t31 t32   GUARD ['8', 'false']
        refine sG rfl rfl rfl rfl rfl (p_beq rfl rfl rfl Try.underlying4 rfl) ?_  -- t34 := binOp t30 t33   GUARD ['8', 'false']
        refine sP rfl rfl rfl (p_pick rfl rfl rfl) ?_  -- t35 := pick t22 c t34
        refine lTail ?_
        refine lNil ?_
        exact ⟨_, [.cells g3 87 (encF x), .cells g4 87 (encF y), .cells g5 87 (encF z)], [], ⟨rfl, rfl⟩, ⟨rfl, rfl, rfl, rfl, trivial⟩, rfl⟩
      · refine wDraw 22 (by kernel_rfl) (by kernel_rfl) ?_  -- region 3
        refine sP rfl rfl rfl (pLdW 0 rfl rfl rfl ty87 rfl) ?_  -- t14 := load t3
        refine sP rfl rfl rfl (pLdW 1 rfl rfl rfl ty87 rfl) ?_  -- t15 := load t4
        refine sP rfl rfl rfl (p_call rfl (less_is h1) ⟨Sub.refl, Sub.refl, trivial⟩) ?_  -- t16 := call   -- t14 t15
        refine sP rfl rfl rfl (pM rfl rfl) ?_  -- t17 := move t16
        refine sU rfl rfl rfl (by decide) rfl rfl ?_  -- t18
        refine sU rfl rfl rfl (by decide) rfl rfl ?_  -- t19
        refine sU rfl rfl rfl (by decide) rfl rfl ?_  -- t20
        refine sP rfl rfl rfl (p_pick rfl rfl rfl) ?_  -- t21 := pick t17 t20 c
        refine sP rfl rfl rfl (pM rfl rfl) ?_  -- t22 := move t21
        refine sG rfl rfl rfl rfl rfl (pLdW 0 rfl rfl rfl ty87 rfl) ?_  -- t23 := load t3   GUARD ['8', 'false']
        refine sG rfl rfl rfl rfl rfl (pLdW 1 rfl rfl rfl ty87 rfl) ?_  -- t24 := load t4   GUARD ['8', 'false']
        refine sG rfl rfl rfl rfl rfl (p_call rfl (less_is h1) ⟨Sub.refl, Sub.refl, trivial⟩) ?_  -- t25 := call    GUARD ['8', 'false']  -- t23 t24
        refine sG rfl rfl rfl rfl rfl (pM rfl rfl) ?_  -- t26 := move t25   GUARD ['8', 'false']
        refine sG rfl rfl rfl rfl rfl (pLdW 1 rfl rfl rfl ty87 rfl) ?_  -- t27 := load t4   GUARD ['12', 'false']
        refine sG rfl rfl rfl rfl rfl (pLdW 0 rfl rfl rfl ty87 rfl) ?_  -- t28 := load t3   GUARD ['12', 'false']
        refine sG rfl rfl rfl rfl rfl (p_call rfl (less_is h2) ⟨Sub.refl, Sub.refl, trivial⟩) ?_  -- t29 := call    GUARD ['12', 'false']  -- t27 t28
        refine sG rfl rfl rfl rfl rfl (p_pick rfl rfl rfl) ?_  -- t30 := pick t26 c t29   GUARD ['8', 'false']
        refine sG rfl rfl rfl rfl rfl (pLdW 0 rfl rfl rfl ty87 rfl) ?_  -- t31 := load t3   GUARD ['8', 'false']
        refine sG rfl rfl rfl rfl rfl (pLdW 1 rfl rfl rfl ty87 rfl) ?_  -- t32 := load t4   GUARD ['8', 'false']
        refine sG rfl rfl rfl rfl rfl (p_eqs (r := true) rfl rfl rfl rfl rfl guardF (fun w => by have h := eqF w x y; rw [hxy] at h; exact h)) ?_  -- t33 := binOp t31 t32   GUARD ['8', 'false']
        refine sG rfl rfl rfl rfl rfl (p_beq rfl rfl rfl Try.underlying4 rfl) ?_  -- t34 := binOp t30 t33   GUARD ['8', 'false']
        refine sP rfl rfl rfl (p_pick rfl rfl rfl) ?_  -- t35 := pick t22 c t34
        refine lTail ?_
        refine lNil ?_
        exact ⟨_, [.cells g3 87 (encF x), .cells g4 87 (encF y), .cells g5 87 (encF z)], [], ⟨rfl, rfl⟩, ⟨rfl, rfl, rfl, rfl, trivial⟩, rfl⟩
    · rintro L h ⟨rfl, rfl⟩
      refine wCond rfl (fun hc2 => ?_) (fun hc2 => ?_)  -- t35
      · refine wSeq ?_
        refine wReg ?_  -- region 4
        refine sP rfl rfl rfl (pA rfl rfl) ?_  -- t6 := assign c
        refine lNil ?_
        refine wRet ?_
        cases hc2
      · refine wSkip ?_
        refine wCut (fun L h => L = [(3, .x (.pointer (some ⟨g3, 0, none⟩))), (4, .x (.pointer (some ⟨g4, 0, none⟩))), (5, .x (.pointer (some ⟨g5, 0, none⟩))), (6, bA true)] ∧ h = [.cells g3 87 (encF x), .cells g4 87 (encF y), .cells g5 87 (encF z)]) ?_ ?_
        · rcases lt4 x y z with h1 | ⟨h1, h2⟩ | ⟨h1, h2, h3⟩
          · refine wReg ?_  -- region 5
            refine sP rfl rfl rfl (pLdW 0 rfl rfl rfl ty87 rfl) ?_  -- t36 := load t3
            refine sP rfl rfl rfl (pLdW 1 rfl rfl rfl ty87 rfl) ?_  -- t37 := load t4
            refine sP rfl rfl rfl (p_call rfl (less_is h1) ⟨Sub.refl, Sub.refl, trivial⟩) ?_  -- t38 := call   -- t36 t37
            refine sP rfl rfl rfl (p_not rfl rfl) ?_  -- t39 := unOp t38
            refine sP rfl rfl rfl (pM rfl rfl) ?_  -- t40 := move t39
            refine sU rfl rfl rfl (by decide) rfl rfl ?_  -- t41
            refine sU rfl rfl rfl (by decide) rfl rfl ?_  -- t42
            refine sU rfl rfl rfl (by decide) rfl rfl ?_  -- t43
            refine sU rfl rfl rfl (by decide) rfl rfl ?_  -- t44
            refine sP rfl rfl rfl (p_pick rfl rfl rfl) ?_  -- t45 := pick t40 c t44
            refine sP rfl rfl rfl (pM rfl rfl) ?_  -- t46 := move t45
            refine sU rfl rfl rfl (by decide) rfl rfl ?_  -- t47
            refine sU rfl rfl rfl (by decide) rfl rfl ?_  -- t48
            refine sU rfl rfl rfl (by decide) rfl rfl ?_  -- t49
            refine sP rfl rfl rfl (p_pick rfl rfl rfl) ?_  -- t50 := pick t46 c t49
            refine sP rfl rfl rfl (pM rfl rfl) ?_  -- t51 := move t50
            refine sG rfl rfl rfl rfl rfl (p_call rfl (awake15_p) trivial) ?_  -- t52 := call    GUARD ['15', 'true']  --
            refine sP rfl rfl rfl (p_pick rfl rfl rfl) ?_  -- t53 := pick t51 t52 c
            refine sP rfl rfl rfl (pA rfl rfl) ?_  -- t6 := assign t53
            refine lNil ?_
            exact ⟨_, [.cells g3 87 (encF x), .cells g4 87 (encF y), .cells g5 87 (encF z)], [], ⟨rfl, rfl⟩, ⟨rfl, rfl, rfl, rfl, trivial⟩, rfl⟩
          · refine wReg ?_  -- region 5
            refine sP rfl rfl rfl (pLdW 0 rfl rfl rfl ty87 rfl) ?_  -- t36 := load t3
            refine sP rfl rfl rfl (pLdW 1 rfl rfl rfl ty87 rfl) ?_  -- t37 := load t4
            refine sP rfl rfl rfl (p_call rfl (less_is h1) ⟨Sub.refl, Sub.refl, trivial⟩) ?_  -- t38 := call   -- t36 t37
            refine sP rfl rfl rfl (p_not rfl rfl) ?_  -- t39 := unOp t38
            refine sP rfl rfl rfl (pM rfl rfl) ?_  -- t40 := move t39
            refine sG rfl rfl rfl rfl rfl (pLdW 1 rfl rfl rfl ty87 rfl) ?_  -- t41 := load t4   GUARD ['4', 'false']
            refine sG rfl rfl rfl rfl rfl (pLdW 2 rfl rfl rfl ty87 rfl) ?_  -- t42 := load t5   GUARD ['4', 'false']
            refine sG rfl rfl rfl rfl rfl (p_call rfl (less_is h2) ⟨Sub.refl, Sub.refl, trivial⟩) ?_  -- t43 := call    GUARD ['4', 'false']  -- t41 t42
            refine sG rfl rfl rfl rfl rfl (p_not rfl rfl) ?_  -- t44 := unOp t43   GUARD ['4', 'false']
            refine sP rfl rfl rfl (p_pick rfl rfl rfl) ?_  -- t45 := pick t40 c t44
            refine sP rfl rfl rfl (pM rfl rfl) ?_  -- t46 := move t45
            refine sU rfl rfl rfl (by decide) rfl rfl ?_  -- t47
            refine sU rfl rfl rfl (by decide) rfl rfl ?_  -- t48
            refine sU rfl rfl rfl (by decide) rfl rfl ?_  -- t49
            refine sP rfl rfl rfl (p_pick rfl rfl rfl) ?_  -- t50 := pick t46 c t49
            refine sP rfl rfl rfl (pM rfl rfl) ?_  -- t51 := move t50
            refine sG rfl rfl rfl rfl rfl (p_call rfl (awake15_p) trivial) ?_  -- t52 := call    GUARD ['15', 'true']  --
            refine sP rfl rfl rfl (p_pick rfl rfl rfl) ?_  -- t53 := pick t51 t52 c
            refine sP rfl rfl rfl (pA rfl rfl) ?_  -- t6 := assign t53
            refine lNil ?_
            exact ⟨_, [.cells g3 87 (encF x), .cells g4 87 (encF y), .cells g5 87 (encF z)], [], ⟨rfl, rfl⟩, ⟨rfl, rfl, rfl, rfl, trivial⟩, rfl⟩
          · refine wReg ?_  -- region 5
            refine sP rfl rfl rfl (pLdW 0 rfl rfl rfl ty87 rfl) ?_  -- t36 := load t3
            refine sP rfl rfl rfl (pLdW 1 rfl rfl rfl ty87 rfl) ?_  -- t37 := load t4
            refine sP rfl rfl rfl (p_call rfl (less_is h1) ⟨Sub.refl, Sub.refl, trivial⟩) ?_  -- t38 := call   -- t36 t37
            refine sP rfl rfl rfl (p_not rfl rfl) ?_  -- t39 := unOp t38
            refine sP rfl rfl rfl (pM rfl rfl) ?_  -- t40 := move t39
            refine sG rfl rfl rfl rfl rfl (pLdW 1 rfl rfl rfl ty87 rfl) ?_  -- t41 := load t4   GUARD ['4', 'false']
            refine sG rfl rfl rfl rfl rfl (pLdW 2 rfl rfl rfl ty87 rfl) ?_  -- t42 := load t5   GUARD ['4', 'false']
            refine sG rfl rfl rfl rfl rfl (p_call rfl (less_is h2) ⟨Sub.refl, Sub.refl, trivial⟩) ?_  -- t43 := call    GUARD ['4', 'false']  -- t41 t42
            refine sG rfl rfl rfl rfl rfl (p_not rfl rfl) ?_  -- t44 := unOp t43   GUARD ['4', 'false']
            refine sP rfl rfl rfl (p_pick rfl rfl rfl) ?_  -- t45 := pick t40 c t44
            refine sP rfl rfl rfl (pM rfl rfl) ?_  -- t46 := move t45
            refine sG rfl rfl rfl rfl rfl (pLdW 0 rfl rfl rfl ty87 rfl) ?_  -- t47 := load t3   GUARD ['10', 'false']
            refine sG rfl rfl rfl rfl rfl (pLdW 2 rfl rfl rfl ty87 rfl) ?_  -- t48 := load t5   GUARD ['10', 'false']
            refine sG rfl rfl rfl rfl rfl (p_call rfl (less_is h3) ⟨Sub.refl, Sub.refl, trivial⟩) ?_  -- t49 := call    GUARD ['10', 'false']  -- t47 t48
            refine sP rfl rfl rfl (p_pick rfl rfl rfl) ?_  -- t50 := pick t46 c t49
            refine sP rfl rfl rfl (pM rfl rfl) ?_  -- t51 := move t50
            refine sG rfl rfl rfl rfl rfl (p_call rfl (awake15_p) trivial) ?_  -- t52 := call    GUARD ['15', 'true']  --
            refine sP rfl rfl rfl (p_pick rfl rfl rfl) ?_  -- t53 := pick t51 t52 c
            refine sP rfl rfl rfl (pA rfl rfl) ?_  -- t6 := assign t53
            refine lNil ?_
            exact ⟨_, [.cells g3 87 (encF x), .cells g4 87 (encF y), .cells g5 87 (encF z)], [], ⟨rfl, rfl⟩, ⟨rfl, rfl, rfl, rfl, trivial⟩, rfl⟩
        · rintro L h ⟨rfl, rfl⟩
          refine wRet ?_
          exact rgs1 (rg_tmp (gives_sub Sub.refl))
end Go.Proofs.Ytmhkalalcmkpbaa

namespace Go.Proofs.Ytmhkalalcmkpbaa
open Go.ChangeShapes Go.WideShapes Go.ChangeAt Go.RowKit Go.Deep
set_option linter.unusedVariables false
set_option linter.unusedSimpArgs false

theorem flatMap_len {α : Type} (f : α → List Value) (k : Nat) (hk : ∀ y, (f y).length = k) (l : List α) : (l.flatMap f).length = l.length * k := by
  induction l with
  | nil => simp
  | cons a l ih => rw [List.flatMap_cons, List.length_append, hk, ih, List.length_cons, Nat.succ_mul]; omega
theorem flatMap_get {α : Type} (f : α → List Value) (k : Nat) (hk : ∀ y, (f y).length = k) : ∀ (l : List α) (i r : Nat) (y : α), l[i]? = some y → r < k → (l.flatMap f)[i * k + r]? = (f y)[r]? := by
  intro l
  induction l with
  | nil => intro i r y h _; simp at h
  | cons a l ih =>
    intro i r y h hr
    rw [List.flatMap_cons]
    cases i with
    | zero =>
      obtain rfl : a = y := by simpa using h
      rw [Nat.zero_mul, Nat.zero_add, List.getElem?_append_left (by rw [hk]; exact hr)]
    | succ i =>
      rw [List.getElem?_append_right (by rw [hk, Nat.succ_mul]; omega), hk, show (i + 1) * k + r - k = i * k + r by rw [Nat.succ_mul]; omega]
      exact ih i r y (by simpa using h) hr
/-- A slice that came in, of a type whose elements read as k cells each. -/
theorem read_slice {H : Type} {enc : TypeId × Value → H} {P : Program} {W : World} {b0 : Nat} {sp : Nat → Bool} {hd : Bool} {t e : TypeId} {a : Option Addr} {len cap : Nat} {d : DataW H} {p : List MemPlace} {α : Type}
    (f : α → List Value) (k : Nat) (hk0 : 0 < k) (hk : ∀ y, (f y).length = k) (ht : P.underlying t = some (.slice e)) (hC : P.cellsOf e = k)
    (hel : ∀ (fuel : Nat) (cs : List Value) (x : DataW H × List MemPlace), DataW.trod enc P W b0 sp hd fuel e cs = some x → ∃ y, cs = f y)
    (h : DataW.Trod enc P W b0 sp hd t (.slice a len cap) d p) : ∃ xs : List α, xs.length = len ∧ Reads W W.heap.size k a len (xs.flatMap f) := by
  obtain ⟨fuel, hf⟩ := h
  rcases open_slice ht hf with ⟨hcs, _⟩ | ⟨x, l, c, m, n, D, Pl, hcs, hb, hl, hm, hmm, hx, hi⟩
  · simp [Value.cells] at hcs
    obtain ⟨rfl, rfl, rfl⟩ := hcs
    exact ⟨[], rfl, by simp, fun h => absurd h (by omega)⟩
  · simp [Value.cells] at hcs
    obtain ⟨rfl, rfl, rfl⟩ := hcs
    have hlm : len ≤ m := by rw [hmm]; split <;> omega
    have hex : ∀ i : Fin len, ∃ y, W.cells? b0 (x.add (i.val * k)) k = some (f y) := fun i => by
      obtain ⟨cs', hc, htr⟩ := hi i.val (by omega)
      rw [hC] at hc
      obtain ⟨y, rfl⟩ := hel _ _ _ htr
      exact ⟨y, hc⟩
    obtain ⟨g, hg⟩ := Classical.axiomOfChoice hex
    refine ⟨List.ofFn g, by simp, ?_, fun h0 => ⟨x, rfl, ?_, fun j u hj => ?_⟩⟩
    · rw [flatMap_len f k hk, List.length_ofFn]
    · have h1 := (World.cells?_some (hg ⟨0, h0⟩)).2.2 0 hk0
      rw [List.getElem?_eq_getElem (by rw [hk]; exact hk0)] at h1
      have := World.block_lt_of_cell? _ _ h1
      rwa [block_of_add, block_of_add] at this
    · have hjl : j < len * k := by
        rcases Nat.lt_or_ge j (len * k) with h' | h'
        · exact h'
        · rw [List.getElem?_eq_none (by rw [flatMap_len f k hk, List.length_ofFn]; exact h')] at hj; cases hj
      have hi0 : j / k < len := Nat.div_lt_of_lt_mul (by rw [Nat.mul_comm]; exact hjl)
      have hr0 : j % k < k := Nat.mod_lt _ hk0
      have hje : j / k * k + j % k = j := by rw [Nat.mul_comm]; exact Nat.div_add_mod j k
      have hget : (List.ofFn g)[j / k]? = some (g ⟨j / k, hi0⟩) := by simp [hi0]
      have h2 := flatMap_get f k hk (List.ofFn g) (j / k) (j % k) _ hget hr0
      rw [hje] at h2
      have h1 := (World.cells?_some (hg ⟨j / k, hi0⟩)).2.2 (j % k) hr0
      rw [add_of_add, hje] at h1
      rw [h1, ← h2, hj]
end Go.Proofs.Ytmhkalalcmkpbaa

namespace Go.Proofs.Ytmhkalalcmkpbaa
open Go.ChangeShapes Go.WideShapes Go.ChangeAt Go.RowKit Go.Deep
set_option linter.unusedVariables false
set_option linter.unusedSimpArgs false

set_option maxRecDepth 100000 in
/-- The cells of one name. -/
theorem el_dot {H : Type} {enc : TypeId × Value → H} {W : World} {b0 : Nat} {sp : Nat → Bool} {hd : Bool} (fuel : Nat) (cs : List Value) (x : DataW H × List MemPlace)
    (h : DataW.trod enc Try.prog W b0 sp hd fuel 23 cs = some x) : ∃ y : Int × Int, cs = encD y := by
  obtain ⟨ys, n, _, hx, hlen, hyl, hf⟩ := DataW.trod_struct Try.underlying23 h
  have hC : Try.prog.cellsOf 23 = 2 := by kernel_rfl
  have hI : Try.prog.cellsOf 3 = 1 := by kernel_rfl
  rw [hC] at hlen
  match cs, hlen with
  | [c0, c1], _ =>
    match ys, hyl with
    | [y0, y1], _ =>
      have h0 : DataW.trod enc Try.prog W b0 sp hd n 3 ((([c0, c1] : List Value).drop 0).take (Try.prog.cellsOf 3)) = some y0 := hf 0 _ rfl
      have h1 : DataW.trod enc Try.prog W b0 sp hd n 3 ((([c0, c1] : List Value).drop 1).take (Try.prog.cellsOf 3)) = some y1 := hf 1 _ rfl
      rw [hI] at h0 h1
      obtain ⟨z0, e0, _⟩ := DataW.trod_int Try.underlying3 h0
      obtain ⟨z1, e1, _⟩ := DataW.trod_int Try.underlying3 h1
      simp at e0 e1
      exact ⟨(z0, z1), by rw [e0, e1]; rfl⟩
set_option maxRecDepth 100000 in
theorem read_dots {H : Type} {enc : TypeId × Value → H} {W : World} {b0 : Nat} {hd : Bool} {a : Option Addr} {len cap : Nat} {d : DataW H} {p : List MemPlace}
    (h : DataW.Trod enc Try.prog W b0 (fun _ => true) hd 27 (.slice a len cap) d p) : ∃ xs : List (Int × Int), RdD W W.heap.size a len xs := by
  obtain ⟨xs, _, hr⟩ := read_slice encD 2 (by decide) (fun _ => rfl) (by kernel_rfl) (by kernel_rfl) (fun fuel cs x hx => el_dot fuel cs x hx) h
  exact ⟨xs, hr⟩
set_option maxRecDepth 100000 in
theorem read_dot {H : Type} {enc : TypeId × Value → H} {W : World} {b0 : Nat} {r : Reach} {b1 : Nat} {hd : Bool} {v : Value} {d : DataW H} {p : List MemPlace}
    (hv : Value.okWide Try.prog W r b1 23 v) (h : DataW.Trod enc Try.prog W b0 (fun _ => true) hd 23 v d p) : ∃ x : Int × Int, v = dotv x := by
  obtain ⟨cs, rfl, hsz⟩ := okWide_struct Try.underlying23 hv
  obtain ⟨fuel, hf⟩ := h
  obtain ⟨y, hy⟩ := el_dot _ _ _ hf
  refine ⟨y, ?_⟩
  have : cs.toList = encD y := by simpa [Value.cells] using hy
  show Value.agg cs = Value.agg #[_, _]
  congr 1
  exact Array.ext' (by rw [this]; rfl)
end Go.Proofs.Ytmhkalalcmkpbaa

namespace Go.Proofs.Ytmhkalalcmkpbaa
open Go.ChangeShapes Go.WideShapes Go.ChangeAt Go.RowKit Go.Deep
set_option linter.unusedVariables false
set_option linter.unusedSimpArgs false

set_option maxRecDepth 100000 in
theorem el_stamp {H : Type} {enc : TypeId × Value → H} {W : World} {b0 : Nat} {sp : Nat → Bool} {hd : Bool} (fuel : Nat) (cs : List Value) (x : DataW H × List MemPlace)
    (h : DataW.trod enc Try.prog W b0 sp hd fuel 25 cs = some x) : ∃ a b c : Int, cs = [.int .i64 a, .int .i64 b, .int .i64 c] := by
  obtain ⟨ys, n, _, hx, hlen, hyl, hf⟩ := DataW.trod_struct Try.underlying25 h
  have hC : Try.prog.cellsOf 25 = 3 := by kernel_rfl
  have hI : Try.prog.cellsOf 3 = 1 := by kernel_rfl
  rw [hC] at hlen
  match cs, hlen with
  | [c0, c1, c2], _ =>
    match ys, hyl with
    | [y0, y1, y2], _ =>
      have h0 : DataW.trod enc Try.prog W b0 sp hd n 3 ((([c0, c1, c2] : List Value).drop 0).take (Try.prog.cellsOf 3)) = some y0 := hf 0 _ rfl
      have h1 : DataW.trod enc Try.prog W b0 sp hd n 3 ((([c0, c1, c2] : List Value).drop 1).take (Try.prog.cellsOf 3)) = some y1 := hf 1 _ rfl
      have h2 : DataW.trod enc Try.prog W b0 sp hd n 3 ((([c0, c1, c2] : List Value).drop 2).take (Try.prog.cellsOf 3)) = some y2 := hf 2 _ rfl
      rw [hI] at h0 h1 h2
      obtain ⟨z0, e0, _⟩ := DataW.trod_int Try.underlying3 h0
      obtain ⟨z1, e1, _⟩ := DataW.trod_int Try.underlying3 h1
      obtain ⟨z2, e2, _⟩ := DataW.trod_int Try.underlying3 h2
      simp at e0 e1 e2
      exact ⟨z0, z1, z2, by rw [e0, e1, e2]⟩
set_option maxRecDepth 100000 in
/-- The cells of one fact. -/
theorem el_fact {H : Type} {enc : TypeId × Value → H} {W : World} {b0 : Nat} {sp : Nat → Bool} {hd : Bool} (fuel : Nat) (cs : List Value) (x : DataW H × List MemPlace)
    (h : DataW.trod enc Try.prog W b0 sp hd fuel 87 cs = some x) : ∃ y : FactT, cs = encV y := by
  obtain ⟨ys, n, _, hx, hlen, hyl, hf⟩ := DataW.trod_struct Try.underlying87 h
  have hC : Try.prog.cellsOf 87 = 8 := by kernel_rfl
  have hI : Try.prog.cellsOf 3 = 1 := by kernel_rfl
  have hS : Try.prog.cellsOf 9 = 1 := by kernel_rfl
  have hD : Try.prog.cellsOf 23 = 2 := by kernel_rfl
  have hW : Try.prog.cellsOf 25 = 3 := by kernel_rfl
  rw [hC] at hlen
  match cs, hlen with
  | [c0, c1, c2, c3, c4, c5, c6, c7], _ =>
    match ys, hyl with
    | [y0, y1, y2, y3, y4], _ =>
      have h0 : DataW.trod enc Try.prog W b0 sp hd n 23 ((([c0, c1, c2, c3, c4, c5, c6, c7] : List Value).drop 0).take (Try.prog.cellsOf 23)) = some y0 := hf 0 _ rfl
      have h1 : DataW.trod enc Try.prog W b0 sp hd n 25 ((([c0, c1, c2, c3, c4, c5, c6, c7] : List Value).drop 2).take (Try.prog.cellsOf 25)) = some y1 := hf 1 _ rfl
      have h2 : DataW.trod enc Try.prog W b0 sp hd n 3 ((([c0, c1, c2, c3, c4, c5, c6, c7] : List Value).drop 5).take (Try.prog.cellsOf 3)) = some y2 := hf 2 _ rfl
      have h3 : DataW.trod enc Try.prog W b0 sp hd n 9 ((([c0, c1, c2, c3, c4, c5, c6, c7] : List Value).drop 6).take (Try.prog.cellsOf 9)) = some y3 := hf 3 _ rfl
      have h4 : DataW.trod enc Try.prog W b0 sp hd n 9 ((([c0, c1, c2, c3, c4, c5, c6, c7] : List Value).drop 7).take (Try.prog.cellsOf 9)) = some y4 := hf 4 _ rfl
      rw [hD] at h0
      rw [hW] at h1
      rw [hI] at h2
      rw [hS] at h3 h4
      obtain ⟨d, e0⟩ := el_dot _ _ _ h0
      obtain ⟨s1, s2, s3, e1⟩ := el_stamp _ _ _ h1
      obtain ⟨z2, e2, _⟩ := DataW.trod_int Try.underlying3 h2
      obtain ⟨z3, e3, _⟩ := DataW.trod_string Try.underlying9 h3
      obtain ⟨z4, e4, _⟩ := DataW.trod_string Try.underlying9 h4
      simp [encD] at e0 e1 e2 e3 e4
      refine ⟨(d, (s1, s2, s3), z2, z3, z4), ?_⟩
      rw [e0.1, e0.2, e1.1, e1.2.1, e1.2.2, e2, e3, e4]; rfl
set_option maxRecDepth 100000 in
theorem read_facts {H : Type} {enc : TypeId × Value → H} {W : World} {b0 : Nat} {hd : Bool} {a : Option Addr} {len cap : Nat} {d : DataW H} {p : List MemPlace}
    (h : DataW.Trod enc Try.prog W b0 (fun _ => true) hd 26 (.slice a len cap) d p) : ∃ xs : List FactT, xs.length = len ∧ Reads W W.heap.size 8 a len (xs.flatMap encV) :=
  read_slice encV 8 (by decide) (fun _ => rfl) (by kernel_rfl) (by kernel_rfl) (fun fuel cs x hx => el_fact fuel cs x hx) h
set_option maxRecDepth 100000 in
theorem read_fact {H : Type} {enc : TypeId × Value → H} {W : World} {b0 : Nat} {r : Reach} {b1 : Nat} {hd : Bool} {v : Value} {d : DataW H} {p : List MemPlace}
    (hv : Value.okWide Try.prog W r b1 87 v) (h : DataW.Trod enc Try.prog W b0 (fun _ => true) hd 87 v d p) : ∃ x : FactT, v = .agg (encV x).toArray := by
  obtain ⟨cs, rfl, hsz⟩ := okWide_struct Try.underlying87 hv
  obtain ⟨fuel, hf⟩ := h
  obtain ⟨y, hy⟩ := el_fact _ _ _ hf
  refine ⟨y, ?_⟩
  have : cs.toList = encV y := by simpa [Value.cells] using hy
  congr 1
  exact Array.ext' (by rw [this])
end Go.Proofs.Ytmhkalalcmkpbaa

namespace Go.Proofs.Ytmhkalalcmkpbaa
open Go Go.RowKit
set_option linter.unusedVariables false
theorem forder_walk (x y z : FactT) (w : World) : Calls Try.prog 10 #[.agg (encV x).toArray, .agg (encV y).toArray, .agg (encV z).toArray] w fun e w' => e = .returned (.bool true) ∧ Below w.heap.size w w' := by
  have hr : RepC (fun _ => False) w [fA x, fA y, fA z] (fun j => (#[Value.agg (encV x).toArray, Value.agg (encV y).toArray, Value.agg (encV z).toArray] : Array Value)[j]?) := by
    simp only [RepC]
    exact ⟨⟨_, rfl, (AV.rep_val (fA x) rfl _).2 rfl⟩, ⟨_, rfl, (AV.rep_val (fA y) rfl _).2 rfl⟩, ⟨_, rfl, (AV.rep_val (fA z) rfl _).2 rfl⟩, trivial⟩
  refine ((forder_w x y z).calls (fun _ => False) w _ (fun b hb => hb.elim) rfl hr).mono ?_
  rintro e w' ⟨r, rfl, h2, h3⟩
  rw [rep_x] at h2
  subst h2
  exact ⟨rfl, h3.b⟩
end Go.Proofs.Ytmhkalalcmkpbaa
