/-
  LfoB ReadD ReadF C7 LfrB Lfs
-/
import Derived.Test.YtmhkalalcmkpbaaGreatZAw15
import Derived.Test.YtmhkalalcmkpbaaGreatZC6
import Derived.Test.YtmhkalalcmkpbaaGreatZDotSame
import Derived.Test.YtmhkalalcmkpbaaGreatZDotSmall
import Derived.Test.YtmhkalalcmkpbaaGreatZFlay
import Derived.Test.YtmhkalalcmkpbaaGreatZReadArg
import Derived.Laws.Small
import Derived.Lib.SmallJoins
namespace Go.Proofs.YtmhkalalcmkpbaaGreat
open Go Go.RowKit
set_option linter.unusedVariables false
set_option linter.unusedSimpArgs false

def fewOne (f : FactT) : Bool := decide (f.2.2.2.1.size ≤ 100) && decide (f.2.2.2.2.size ≤ 1000)
def fewF (l : List FactT) : Bool := decide (l.length ≤ 30) && l.all fewOne
theorem fewOne_no {d : FactT} (h : (decide ((100 : Int) < (d.2.2.2.1.size : Nat)) || decide ((1000 : Int) < (d.2.2.2.2.size : Nat))) = true) : fewOne d = false := by
  unfold fewOne
  rw [Bool.or_eq_true, decide_eq_true_eq, decide_eq_true_eq] at h
  rw [Bool.and_eq_false_iff, decide_eq_false_iff_not, decide_eq_false_iff_not]
  omega
theorem fewOne_yes {d : FactT} (h : (decide ((100 : Int) < (d.2.2.2.1.size : Nat)) || decide ((1000 : Int) < (d.2.2.2.2.size : Nat))) = false) : fewOne d = true := by
  unfold fewOne
  rw [Bool.or_eq_false_iff, decide_eq_false_iff_not, decide_eq_false_iff_not] at h
  rw [Bool.and_eq_true, decide_eq_true_eq, decide_eq_true_eq]
  omega
theorem fewF_long {l : List FactT} (h : 30 < l.length) : fewF l = false := by
  unfold fewF; rw [decide_eq_false (by omega)]; rfl
theorem fewF_no {l : List FactT} {i : Nat} {d : FactT} (hd : l[i]? = some d) (h : fewOne d = false) : fewF l = false := by
  unfold fewF
  rw [Bool.and_eq_false_iff]
  exact .inr (List.all_eq_false.2 ⟨d, List.mem_of_getElem? hd, by rw [h]; decide⟩)
theorem fewF_yes {l : List FactT} (hl : ¬ 30 < l.length) (h : ∀ (j : Nat) y, l[j]? = some y → fewOne y = true) : fewF l = true := by
  unfold fewF
  rw [Bool.and_eq_true, decide_eq_true_eq]
  refine ⟨by omega, List.all_eq_true.2 fun y hy => ?_⟩
  obtain ⟨j, hj⟩ := List.mem_iff_getElem?.1 hy
  exact h j y hj
theorem fewF_ok {l : List FactT} (h : fewF l = true) : l.length ≤ 30 ∧ ∀ f ∈ l, okF f := by
  unfold fewF at h
  rw [Bool.and_eq_true, decide_eq_true_eq] at h
  refine ⟨h.1, fun f hf => ?_⟩
  have h2 := List.all_eq_true.1 h.2 f hf
  unfold fewOne at h2
  rw [Bool.and_eq_true, decide_eq_true_eq, decide_eq_true_eq] at h2
  exact ⟨by omega, by omega⟩
section
variable {P : Program} {K : Prop} {N : Nat} {X : Nat → Prop} {h : List HObj} {f : Nat → AV} {o : Oper}
theorem p_beq {t t' : TypeId} {x y : Operand} {a b : Bool} {r : Bool} (ho : o.op = .binOp .eql t x y t') (hx : evalT f x = .x (.bool a)) (hy : evalT f y = .x (.bool b)) (ht : P.underlying t = some .bool) (hr : (a == b) = r) : PureOp P K N X h f o (.x (.bool r)) := pure_run fun ac w w0 env H => by
  rw [ho] at H
  have g1 := H x (by simp [Op.operands])
  have g2 := H y (by simp [Op.operands])
  rw [hx, rep_x] at g1
  rw [hy, rep_x] at g2
  refine ⟨.bool r, ?_, rep_x.2 rfl⟩
  subst hr
  have := run_eql_bool (P := P) w t a b ht
  simp [execOp, ho, g1, g2, eqGuard, this]
end
theorem lt3 (x y : FactT) : (ltF x y = true ∧ ltF y x = false ∧ decide (x = y) = false) ∨ (ltF x y = false ∧ ltF y x = true ∧ decide (x = y) = false) ∨ (ltF x y = false ∧ ltF y x = false ∧ decide (x = y) = true) := by
  cases h1 : ltF x y with
  | true =>
    refine .inl ⟨rfl, stoF.asymm h1, decide_eq_false fun e => ?_⟩
    subst e; rw [stoF.irrefl] at h1; cases h1
  | false =>
    cases h2 : ltF y x with
    | true =>
      refine .inr (.inl ⟨rfl, rfl, decide_eq_false fun e => ?_⟩)
      subst e; rw [stoF.irrefl] at h2; cases h2
    | false => exact .inr (.inr ⟨rfl, rfl, decide_eq_true (stoF.total x y h1 h2)⟩)
theorem less_is {x y : FactT} {b : Bool} (h : ltF x y = b) : PFn Tryz.prog False 10 [fA x, fA y] (bA b) := by
  have h2 := fless_p (K := False) x y
  rw [h] at h2; exact h2

set_option maxRecDepth 100000 in
theorem few_p (l : List FactT) : PFn Tryz.prog False 4 [slF l] (bA (fewF l)) := by
  refine pfn Tryz.func4 rfl (by kernel_rfl) 29 rfl _ rfl (Nat.le_of_ble_eq_true rfl) (fun X w0 => ?_)
  refine wSeq ?_
  refine wReg ?_  -- region 0
  refine sP rfl rfl rfl (pA rfl rfl) ?_  -- t2 := assign c
  refine lNil ?_
  refine wSeq ?_
  refine wSeq ?_
  refine wReg ?_  -- region 1
  refine sP rfl rfl rfl (pMs rfl rfl) ?_  -- t4 := move t0
  refine sP rfl rfl rfl (p_len_sl rfl rfl Tryz.underlying22) ?_  -- t5 := call   -- t4
  refine sP rfl rfl rfl (p_icmp rfl rfl rfl rfl) ?_  -- t6 := binOp t5 c
  refine lNil ?_
  refine wCond rfl (fun hc1 => ?_) (fun hc1 => ?_)  -- t6
  · refine wSeq ?_
    refine wReg ?_  -- region 2
    refine sP rfl rfl rfl (pA rfl rfl) ?_  -- t2 := assign c
    refine lNil ?_
    refine wRet ?_
    have h : 30 < l.length := by have h := hc1; simp at h; omega
    exact rgs1 (rg_tmp (gives_sub (Sub.of_eq (avB (fewF_long h).symm))))
  · have hlen : ¬ 30 < l.length := by have h := hc1; simp at h; omega
    refine wSkip ?_
    refine wSeq ?_
    refine wSeq ?_
    refine wReg ?_  -- region 3
    refine sP rfl rfl rfl (pA rfl rfl) ?_  -- t3 := assign c
    refine lNil ?_
    refine wBlock ?_
    refine wLoop (fun mm L h => ∃ i, mm = l.length - i ∧ i ≤ l.length ∧ (∀ (j : Nat) y, j < i → l[j]? = some y → fewOne y = true) ∧ L = [(0, slF l), (3, iA (i : Nat))] ∧ h = []) ⟨_, _, _, _, ⟨0, rfl, Nat.zero_le _, fun j y hj => absurd hj (by omega), rfl, rfl⟩, ⟨rfl, rfl, trivial⟩, rfl⟩ ?_
    rintro mm L h ⟨i, rfl, hi, h0, rfl, rfl⟩
    refine wSeq ?_
    refine wSeq ?_
    refine wReg ?_  -- region 4
    refine sP rfl rfl rfl (pM rfl rfl) ?_  -- t7 := move t3
    refine sP rfl rfl rfl (pMs rfl rfl) ?_  -- t8 := move t0
    refine sP rfl rfl rfl (p_len_sl rfl rfl Tryz.underlying22) ?_  -- t9 := call   -- t8
    refine sP rfl rfl rfl (p_icmp rfl rfl rfl rfl) ?_  -- t10 := binOp t7 t9
    refine lNil ?_
    refine wCond rfl (fun hc2 => ?_) (fun hc2 => ?_)  -- t10
    · have hlt : i < l.length := by simpa using hc2
      obtain ⟨d, hd⟩ := getL hlt
      refine wSkip ?_
      refine wSeq ?_
      refine wBlock ?_
      refine wCut (fun L h => ∃ b : Bool, b = (decide ((100 : Int) < (d.2.2.2.1.size : Nat)) || decide ((1000 : Int) < (d.2.2.2.2.size : Nat))) ∧ L = [(0, slF l), (3, iA (i : Nat)), (28, bA b)] ∧ h = []) ?_ ?_
      · cases hb : (decide ((100 : Int) < (d.2.2.2.1.size : Nat))) with
        | true =>
          refine wReg ?_  -- region 6
          refine sP rfl rfl rfl (pMs rfl rfl) ?_  -- t13 := move t0
          refine sP rfl rfl rfl (pM rfl rfl) ?_  -- t14 := move t3
          refine sP rfl rfl rfl (pIdx i rfl rfl Tryz.underlying22 ty36 (by decide) rfl (fun _ => rfl) rfl rfl hd) ?_  -- t15 := indexAddr t13 t14
          refine sP rfl rfl rfl (p_fieldAddr_ip rfl rfl fl36_3 ty9 (by decide)) ?_  -- t16 := fieldAddr t15
          refine sP rfl rfl rfl (pLd1 rfl rfl ty9) ?_  -- t17 := load t16
          refine sP rfl rfl rfl (p_len_str rfl rfl Tryz.underlying9) ?_  -- t18 := call   -- t17
          refine sP rfl rfl rfl (p_icmp rfl rfl rfl (congrArg some hb)) ?_  -- t19 := binOp t18 c
          refine sP rfl rfl rfl (pM rfl rfl) ?_  -- t20 := move t19
          refine sU rfl rfl rfl (by decide) rfl rfl ?_  -- t21 := move t0   GUARD ['7', 'false']
          refine sU rfl rfl rfl (by decide) rfl rfl ?_  -- t22 := move t3   GUARD ['7', 'false']
          refine sU rfl rfl rfl (by decide) rfl rfl ?_  -- t23 := indexAddr t21 t22   GUARD ['7', 'false']
          refine sU rfl rfl rfl (by decide) rfl rfl ?_  -- t24 := fieldAddr t23   GUARD ['7', 'false']
          refine sU rfl rfl rfl (by decide) rfl rfl ?_  -- t25 := load t24   GUARD ['7', 'false']
          refine sU rfl rfl rfl (by decide) rfl rfl ?_  -- t26 := call    GUARD ['7', 'false']  -- t25
          refine sU rfl rfl rfl (by decide) rfl rfl ?_  -- t27 := binOp t26 c   GUARD ['7', 'false']
          refine sP rfl rfl rfl (p_pick rfl rfl rfl) ?_  -- t28 := pick t20 c t27
          refine lNil ?_
          exact ⟨_, [], [], ⟨_, (by exact rfl), rfl, rfl⟩, ⟨rfl, rfl, rfl, trivial⟩, rfl⟩
        | false =>
          refine wReg ?_  -- region 6
          refine sP rfl rfl rfl (pMs rfl rfl) ?_  -- t13 := move t0
          refine sP rfl rfl rfl (pM rfl rfl) ?_  -- t14 := move t3
          refine sP rfl rfl rfl (pIdx i rfl rfl Tryz.underlying22 ty36 (by decide) rfl (fun _ => rfl) rfl rfl hd) ?_  -- t15 := indexAddr t13 t14
          refine sP rfl rfl rfl (p_fieldAddr_ip rfl rfl fl36_3 ty9 (by decide)) ?_  -- t16 := fieldAddr t15
          refine sP rfl rfl rfl (pLd1 rfl rfl ty9) ?_  -- t17 := load t16
          refine sP rfl rfl rfl (p_len_str rfl rfl Tryz.underlying9) ?_  -- t18 := call   -- t17
          refine sP rfl rfl rfl (p_icmp rfl rfl rfl (congrArg some hb)) ?_  -- t19 := binOp t18 c
          refine sP rfl rfl rfl (pM rfl rfl) ?_  -- t20 := move t19
          refine sG rfl rfl rfl rfl rfl (pMs rfl rfl) ?_  -- t21 := move t0   GUARD ['7', 'false']
          refine sG rfl rfl rfl rfl rfl (pM rfl rfl) ?_  -- t22 := move t3   GUARD ['7', 'false']
          refine sG rfl rfl rfl rfl rfl (pIdx i rfl rfl Tryz.underlying22 ty36 (by decide) rfl (fun _ => rfl) rfl rfl hd) ?_  -- t23 := indexAddr t21 t22   GUARD ['7', 'false']
          refine sG rfl rfl rfl rfl rfl (p_fieldAddr_ip rfl rfl fl36_4 ty9 (by decide)) ?_  -- t24 := fieldAddr t23   GUARD ['7', 'false']
          refine sG rfl rfl rfl rfl rfl (pLd1 rfl rfl ty9) ?_  -- t25 := load t24   GUARD ['7', 'false']
          refine sG rfl rfl rfl rfl rfl (p_len_str rfl rfl Tryz.underlying9) ?_  -- t26 := call    GUARD ['7', 'false']  -- t25
          refine sG rfl rfl rfl rfl rfl (p_icmp rfl rfl rfl rfl) ?_  -- t27 := binOp t26 c   GUARD ['7', 'false']
          refine sP rfl rfl rfl (p_pick rfl rfl rfl) ?_  -- t28 := pick t20 c t27
          refine lNil ?_
          exact ⟨_, [], [], ⟨_, (by exact rfl), rfl, rfl⟩, ⟨rfl, rfl, rfl, trivial⟩, rfl⟩
      · rintro L h ⟨b, hb, rfl, rfl⟩
        refine wCond rfl (fun hc3 => ?_) (fun hc3 => ?_)  -- t28
        · refine wSeq ?_
          refine wReg ?_  -- region 7
          refine sP rfl rfl rfl (pA rfl rfl) ?_  -- t2 := assign c
          refine lNil ?_
          refine wRet ?_
          exact rgs1 (rg_tmp (gives_sub (Sub.of_eq (avB (fewF_no hd (fewOne_no (hb.symm.trans hc3))).symm))))
        · refine wSkip ?_
          refine wReg ?_  -- region 5
          refine sP rfl rfl rfl (pM rfl rfl) ?_  -- t11 := move t3
          refine sP rfl rfl rfl (p_iar rfl rfl rfl rfl) ?_  -- t12 := binOp t11 c
          refine sP rfl rfl rfl (pA rfl rfl) ?_  -- t3 := assign t12
          refine lNil ?_
          refine ⟨_, _, [], [], ?_, ⟨i + 1, rfl, hlt, fun j y hj hy => ?_, rfl, rfl⟩, ⟨rfl, avI (wrapI (by omega) (by omega)), trivial⟩, rfl⟩
          · omega
          · rcases Nat.lt_or_ge j i with h | h
            · exact h0 j y h hy
            · obtain rfl : j = i := by omega
              rw [hd] at hy; injection hy with hy; rw [← hy]; exact fewOne_yes (hb.symm.trans hc3)
    · have hge : ¬ i < l.length := by simpa using hc2
      refine wExit ?_
      refine wSeq ?_
      refine wReg ?_  -- region 8
      refine sP rfl rfl rfl (pA rfl rfl) ?_  -- t2 := assign c
      refine lNil ?_
      refine wRet ?_
      exact rgs1 (rg_tmp (gives_sub (Sub.of_eq (avB (fewF_yes hlen (fun j y hy => h0 j y (by have := (List.getElem?_eq_some_iff.1 hy).1; omega) hy)).symm))))
end Go.Proofs.YtmhkalalcmkpbaaGreat

namespace Go.Proofs.YtmhkalalcmkpbaaGreat
open Go.ChangeShapes Go.WideShapes Go.ChangeAt Go.RowKit Go.Deep
set_option linter.unusedVariables false
set_option linter.unusedSimpArgs false

set_option maxRecDepth 100000 in
/-- The cells of one name. -/
theorem el_dot {H : Type} {enc : TypeId × Value → H} {W : World} {b0 : Nat} {sp : Nat → Bool} {hd : Bool} (fuel : Nat) (cs : List Value) (x : DataW H × List MemPlace)
    (h : DataW.trod enc Tryz.prog W b0 sp hd fuel 32 cs = some x) : ∃ y : Int × Int, cs = encD y := by
  obtain ⟨ys, n, _, hx, hlen, hyl, hf⟩ := DataW.trod_struct Tryz.underlying32 h
  have hC : Tryz.prog.cellsOf 32 = 2 := by kernel_rfl
  have hI : Tryz.prog.cellsOf 3 = 1 := by kernel_rfl
  rw [hC] at hlen
  match cs, hlen with
  | [c0, c1], _ =>
    match ys, hyl with
    | [y0, y1], _ =>
      have h0 : DataW.trod enc Tryz.prog W b0 sp hd n 3 ((([c0, c1] : List Value).drop 0).take (Tryz.prog.cellsOf 3)) = some y0 := hf 0 _ rfl
      have h1 : DataW.trod enc Tryz.prog W b0 sp hd n 3 ((([c0, c1] : List Value).drop 1).take (Tryz.prog.cellsOf 3)) = some y1 := hf 1 _ rfl
      rw [hI] at h0 h1
      obtain ⟨z0, e0, _⟩ := DataW.trod_int Tryz.underlying3 h0
      obtain ⟨z1, e1, _⟩ := DataW.trod_int Tryz.underlying3 h1
      simp at e0 e1
      exact ⟨(z0, z1), by rw [e0, e1]; rfl⟩
set_option maxRecDepth 100000 in
theorem read_dot {H : Type} {enc : TypeId × Value → H} {W : World} {b0 : Nat} {r : Reach} {b1 : Nat} {hd : Bool} {v : Value} {d : DataW H} {p : List MemPlace}
    (hv : Value.okWide Tryz.prog W r b1 32 v) (h : DataW.Trod enc Tryz.prog W b0 (fun _ => true) hd 32 v d p) : ∃ x : Int × Int, v = dotv x := by
  obtain ⟨cs, rfl, hsz⟩ := okWide_struct Tryz.underlying32 hv
  obtain ⟨fuel, hf⟩ := h
  obtain ⟨y, hy⟩ := el_dot _ _ _ hf
  refine ⟨y, ?_⟩
  have : cs.toList = encD y := by simpa [Value.cells] using hy
  show Value.agg cs = Value.agg #[_, _]
  congr 1
  exact Array.ext' (by rw [this]; rfl)
end Go.Proofs.YtmhkalalcmkpbaaGreat

namespace Go.Proofs.YtmhkalalcmkpbaaGreat
open Go.ChangeShapes Go.WideShapes Go.ChangeAt Go.RowKit Go.Deep
set_option linter.unusedVariables false
set_option linter.unusedSimpArgs false

set_option maxRecDepth 100000 in
theorem el_stamp {H : Type} {enc : TypeId × Value → H} {W : World} {b0 : Nat} {sp : Nat → Bool} {hd : Bool} (fuel : Nat) (cs : List Value) (x : DataW H × List MemPlace)
    (h : DataW.trod enc Tryz.prog W b0 sp hd fuel 34 cs = some x) : ∃ a b c : Int, cs = [.int .i64 a, .int .i64 b, .int .i64 c] := by
  obtain ⟨ys, n, _, hx, hlen, hyl, hf⟩ := DataW.trod_struct Tryz.underlying34 h
  have hC : Tryz.prog.cellsOf 34 = 3 := by kernel_rfl
  have hI : Tryz.prog.cellsOf 3 = 1 := by kernel_rfl
  rw [hC] at hlen
  match cs, hlen with
  | [c0, c1, c2], _ =>
    match ys, hyl with
    | [y0, y1, y2], _ =>
      have h0 : DataW.trod enc Tryz.prog W b0 sp hd n 3 ((([c0, c1, c2] : List Value).drop 0).take (Tryz.prog.cellsOf 3)) = some y0 := hf 0 _ rfl
      have h1 : DataW.trod enc Tryz.prog W b0 sp hd n 3 ((([c0, c1, c2] : List Value).drop 1).take (Tryz.prog.cellsOf 3)) = some y1 := hf 1 _ rfl
      have h2 : DataW.trod enc Tryz.prog W b0 sp hd n 3 ((([c0, c1, c2] : List Value).drop 2).take (Tryz.prog.cellsOf 3)) = some y2 := hf 2 _ rfl
      rw [hI] at h0 h1 h2
      obtain ⟨z0, e0, _⟩ := DataW.trod_int Tryz.underlying3 h0
      obtain ⟨z1, e1, _⟩ := DataW.trod_int Tryz.underlying3 h1
      obtain ⟨z2, e2, _⟩ := DataW.trod_int Tryz.underlying3 h2
      simp at e0 e1 e2
      exact ⟨z0, z1, z2, by rw [e0, e1, e2]⟩
set_option maxRecDepth 100000 in
/-- The cells of one fact. -/
theorem el_fact {H : Type} {enc : TypeId × Value → H} {W : World} {b0 : Nat} {sp : Nat → Bool} {hd : Bool} (fuel : Nat) (cs : List Value) (x : DataW H × List MemPlace)
    (h : DataW.trod enc Tryz.prog W b0 sp hd fuel 36 cs = some x) : ∃ y : FactT, cs = encV y := by
  obtain ⟨ys, n, _, hx, hlen, hyl, hf⟩ := DataW.trod_struct Tryz.underlying36 h
  have hC : Tryz.prog.cellsOf 36 = 8 := by kernel_rfl
  have hI : Tryz.prog.cellsOf 3 = 1 := by kernel_rfl
  have hS : Tryz.prog.cellsOf 9 = 1 := by kernel_rfl
  have hD : Tryz.prog.cellsOf 32 = 2 := by kernel_rfl
  have hW : Tryz.prog.cellsOf 34 = 3 := by kernel_rfl
  rw [hC] at hlen
  match cs, hlen with
  | [c0, c1, c2, c3, c4, c5, c6, c7], _ =>
    match ys, hyl with
    | [y0, y1, y2, y3, y4], _ =>
      have h0 : DataW.trod enc Tryz.prog W b0 sp hd n 32 ((([c0, c1, c2, c3, c4, c5, c6, c7] : List Value).drop 0).take (Tryz.prog.cellsOf 32)) = some y0 := hf 0 _ rfl
      have h1 : DataW.trod enc Tryz.prog W b0 sp hd n 34 ((([c0, c1, c2, c3, c4, c5, c6, c7] : List Value).drop 2).take (Tryz.prog.cellsOf 34)) = some y1 := hf 1 _ rfl
      have h2 : DataW.trod enc Tryz.prog W b0 sp hd n 3 ((([c0, c1, c2, c3, c4, c5, c6, c7] : List Value).drop 5).take (Tryz.prog.cellsOf 3)) = some y2 := hf 2 _ rfl
      have h3 : DataW.trod enc Tryz.prog W b0 sp hd n 9 ((([c0, c1, c2, c3, c4, c5, c6, c7] : List Value).drop 6).take (Tryz.prog.cellsOf 9)) = some y3 := hf 3 _ rfl
      have h4 : DataW.trod enc Tryz.prog W b0 sp hd n 9 ((([c0, c1, c2, c3, c4, c5, c6, c7] : List Value).drop 7).take (Tryz.prog.cellsOf 9)) = some y4 := hf 4 _ rfl
      rw [hD] at h0
      rw [hW] at h1
      rw [hI] at h2
      rw [hS] at h3 h4
      obtain ⟨d, e0⟩ := el_dot _ _ _ h0
      obtain ⟨s1, s2, s3, e1⟩ := el_stamp _ _ _ h1
      obtain ⟨z2, e2, _⟩ := DataW.trod_int Tryz.underlying3 h2
      obtain ⟨z3, e3, _⟩ := DataW.trod_string Tryz.underlying9 h3
      obtain ⟨z4, e4, _⟩ := DataW.trod_string Tryz.underlying9 h4
      simp [encD] at e0 e1 e2 e3 e4
      refine ⟨(d, (s1, s2, s3), z2, z3, z4), ?_⟩
      rw [e0.1, e0.2, e1.1, e1.2.1, e1.2.2, e2, e3, e4]; rfl
set_option maxRecDepth 100000 in
theorem read_facts {H : Type} {enc : TypeId × Value → H} {W : World} {b0 : Nat} {hd : Bool} {a : Option Addr} {len cap : Nat} {d : DataW H} {p : List MemPlace}
    (h : DataW.Trod enc Tryz.prog W b0 (fun _ => true) hd 22 (.slice a len cap) d p) : ∃ xs : List FactT, xs.length = len ∧ Reads W W.heap.size 8 a len (xs.flatMap encV) :=
  read_slice encV 8 (by decide) (fun _ => rfl) (by kernel_rfl) (by kernel_rfl) (fun fuel cs x hx => el_fact fuel cs x hx) h
set_option maxRecDepth 100000 in
theorem read_fact {H : Type} {enc : TypeId × Value → H} {W : World} {b0 : Nat} {r : Reach} {b1 : Nat} {hd : Bool} {v : Value} {d : DataW H} {p : List MemPlace}
    (hv : Value.okWide Tryz.prog W r b1 36 v) (h : DataW.Trod enc Tryz.prog W b0 (fun _ => true) hd 36 v d p) : ∃ x : FactT, v = .agg (encV x).toArray := by
  obtain ⟨cs, rfl, hsz⟩ := okWide_struct Tryz.underlying36 hv
  obtain ⟨fuel, hf⟩ := h
  obtain ⟨y, hy⟩ := el_fact _ _ _ hf
  refine ⟨y, ?_⟩
  have : cs.toList = encV y := by simpa [Value.cells] using hy
  congr 1
  exact Array.ext' (by rw [this])
end Go.Proofs.YtmhkalalcmkpbaaGreat

namespace Go.Proofs.YtmhkalalcmkpbaaGreat
open Go Go.RowKit
set_option linter.unusedVariables false
section
variable {m : Option (List Oper)} {P : Program} {C : Cx} {Q : Exit → AS → Prop} {f : Nat → AV} {h : List HObj} {ops : Array Oper} {o : Oper} {rest : List Oper}
theorem sUx {d j t : Nat} {b b' : Bool} (hg : o.guard = some (j, b)) (hj : (ops[j]?).bind (·.dst) = some t) (ht : f t = .x (.bool b')) (hb : b' ≠ b) (hd : o.dst = some d) (hN : Nat.blt d C.N = true) (k : WL m P C ops Q rest ⟨upd f d (.x undef), h⟩) : WL m P C ops Q (o :: rest) ⟨f, h⟩ := by
  cases m with
  | none =>
    exact ⟨by
      intro a w hs
      have h1 := hs.slots.slot t
      simp only at h1
      rw [ht, rep_x] at h1
      have hw : Region.wanted o (yielded ops a.tmps) = false := by
        have : yielded ops a.tmps j = some b' := yield_bool hj h1
        simp [Region.wanted, hg, this, hb]
      refine wpList_step fun K hK => ?_
      rw [hw]
      refine hK _ _ (k.run _ _ ⟨hs.env, ?_⟩)
      have := hs.slots.put o.dst (v := undef) (av := .x undef) (rep_x.2 rfl)
      rw [hd, putT_upd hN] at this
      rw [hd]; exact this⟩
  | some tail =>
    refine ⟨chain_unwantedx hg hj ht hb ?_⟩
    rw [hd, putT_upd hN]; exact k.run
theorem sNx {d j t : Nat} {b : Bool} (hg : o.guard = some (j, b)) (hj : (ops[j]?).bind (·.dst) = some t) (ht : f t = .x undef) (hd : o.dst = some d) (hN : Nat.blt d C.N = true) (k : WL m P C ops Q rest ⟨upd f d (.x undef), h⟩) : WL m P C ops Q (o :: rest) ⟨f, h⟩ := by
  cases m with
  | none =>
    exact ⟨by
      intro a w hs
      have h1 := hs.slots.slot t
      simp only at h1
      rw [ht, rep_x] at h1
      have hw : Region.wanted o (yielded ops a.tmps) = false := by
        have : yielded ops a.tmps j = none := by
          unfold yielded
          rw [hj]
          show (match a.tmps[t]? with | some (.bool b) => some b | _ => none) = none
          rw [Array.getD_eq_getD_getElem?] at h1
          cases hh : a.tmps[t]? with
          | none => rfl
          | some v => rw [hh] at h1; obtain rfl : v = undef := h1; rfl
        simp [Region.wanted, hg, this]
      refine wpList_step fun K hK => ?_
      rw [hw]
      refine hK _ _ (k.run _ _ ⟨hs.env, ?_⟩)
      have := hs.slots.put o.dst (v := undef) (av := .x undef) (rep_x.2 rfl)
      rw [hd, putT_upd hN] at this
      rw [hd]; exact this⟩
  | some tail =>
    refine ⟨chain_nonex hg hj ht ?_⟩
    rw [hd, putT_upd hN]; exact k.run
end
end Go.Proofs.YtmhkalalcmkpbaaGreat

namespace Go.Proofs.YtmhkalalcmkpbaaGreat
open Go Go.RowKit
set_option linter.unusedVariables false
set_option linter.unusedSimpArgs false

theorem fr4 (s : ByteArray) (m : List FactT) : (freadE s = 0 ∧ fputE m = 0) ∨ (freadE s = 0 ∧ fputE m ≠ 0) ∨ (freadE s ≠ 0 ∧ fputE m = 0) ∨ (freadE s ≠ 0 ∧ fputE m ≠ 0) := by
  by_cases h1 : freadE s = 0 <;> by_cases h2 : fputE m = 0 <;> simp [h1, h2]
theorem freadL_ok_all (s : ByteArray) : ∀ f ∈ freadL s, okF f := by
  intro f hf
  unfold freadL at hf
  split at hf
  · simp at hf
  · exact rdFs_ok _ _ f hf
theorem freadL_len (s : ByteArray) : (freadL s).length < 1000000 := by
  by_cases h : freadE s = 0
  · have := (fputE_zero (fput_read h).1).1; omega
  · unfold freadL; rw [if_pos h]; decide
theorem fputS_size {m : List FactT} (h : ∀ f ∈ m, okF f) : (fputS m).size < 9223372036854775807 := by
  by_cases h1 : fputE m = 0
  · rw [fputS_ok h1, ByteArray.size_append]
    have := factsB_size m h (fputE_zero h1).1
    have := numS_size m.length
    omega
  · rw [fputS_err h1]; decide
theorem same_eq {a b : List FactT} (h : a = b) (hn : b.length < 1000000) : PFn Tryz.prog False 12 [slF a, slF b] (bA true) := by
  have h2 := rfsame_p a b (by rw [h]; exact hn) hn
  rw [decide_eq_true h] at h2
  exact h2
theorem neq_t {a : Int} (h : a ≠ 0) : icmp .neq a 0 = some true := congrArg some (by simp [h])
theorem neq_f {a : Int} (h : a = 0) : icmp .neq a 0 = some false := congrArg some (by simp [h])
theorem eql_t {a b : Int} (h : a = b) : icmp .eql a b = some true := congrArg some (decide_eq_true h)
theorem seql_t {a b : ByteArray} (h : a = b) : scmp .eql a b = some true := congrArg some (decide_eq_true h)

theorem facts_rep {w : World} {A : Option Addr} {n c : Nat} {l : List FactT} (hl : l.length = n) (hnc : n ≤ c) (hcm : c ≤ 9223372036854775807) (hr : Reads w w.heap.size 8 A n (l.flatMap encV)) : Rep (fun _ => False) w (slF l) (.slice A n c) := by
  subst hl
  simp only [Rep]
  refine ⟨flat_lenG encF8 l, A, c, rfl, hnc, hcm, ?_⟩
  rcases Nat.eq_zero_or_pos l.length with h0 | h0
  · exact .inl (by rw [h0])
  · obtain ⟨ad, h1, h2, h3⟩ := hr.2 h0
    refine .inr ⟨ad, h1, h2, fun h => h, ?_⟩
    refine RepC.mk fun j cc hj => ?_
    obtain ⟨u, hu, hru⟩ := (vals_rep (O := fun _ => False) (w := w) l).at_ j cc hj
    exact ⟨u, h3 j u hu, hru⟩
end Go.Proofs.YtmhkalalcmkpbaaGreat

namespace Go.Proofs.YtmhkalalcmkpbaaGreat
open Go Go.RowKit
set_option linter.unusedVariables false
set_option linter.unusedSimpArgs false

section
variable {P : Program} {K : Prop} {N : Nat} {X : Nat → Prop} {h : List HObj} {f : Nat → AV} {o : Oper}
theorem p_bne {t t' : TypeId} {x y : Operand} {a b : Bool} {r : Bool} (ho : o.op = .binOp .neq t x y t') (hx : evalT f x = .x (.bool a)) (hy : evalT f y = .x (.bool b)) (ht : P.underlying t = some .bool) (hr : (!(a == b)) = r) : PureOp P K N X h f o (.x (.bool r)) := pure_run fun ac w w0 env H => by
  rw [ho] at H
  have g1 := H x (by simp [Op.operands])
  have g2 := H y (by simp [Op.operands])
  rw [hx, rep_x] at g1
  rw [hy, rep_x] at g2
  refine ⟨.bool r, ?_, rep_x.2 rfl⟩
  subst hr
  have := run_neq_bool (P := P) w t a b ht
  simp [execOp, ho, g1, g2, eqGuard, this]
end
theorem neq_same {a : Int} : icmp .neq a a = some false := congrArg some (by simp)
theorem gtr0_t {i : Nat} (h : (0 : Int) < i) : icmp .gtr (i : Int) 0 = some true := congrArg some (decide_eq_true h)
theorem gtr0_f {i : Nat} (h : ¬ (0 : Int) < i) : icmp .gtr (i : Int) 0 = some false := congrArg some (decide_eq_false h)


theorem prevD {α : Type} {l : List α} {i : Nat} {d : α} (h : l[i]? = some d) (h0 : 0 < i) : l[i - 1]? = some (l.getD (i - 1) d) := by
  have := (List.getElem?_eq_some_iff.1 h).1
  have h1 : i - 1 < l.length := by omega
  simp [List.getD, List.getElem?_eq_getElem h1]

set_option maxHeartbeats 1000000 in
set_option maxRecDepth 100000 in
theorem fsorts_w (l : List FactT) : PFn Tryz.prog False 3 [slF l] (bA true) := by
  refine pfn Tryz.func3 rfl (by kernel_rfl) 84 rfl _ rfl (Nat.le_of_ble_eq_true rfl) (fun X w0 => ?_)
  refine wSeq ?_
  refine wReg ?_  -- region 0
  refine sP rfl rfl rfl (pA rfl rfl) ?_  -- t2 := assign c
  refine lNil ?_
  refine wSeq ?_
  refine wSeq ?_
  refine wReg ?_  -- region 1
  refine sP rfl rfl rfl (pMs rfl rfl) ?_  -- t8 := move t0
  refine sP rfl rfl rfl (p_call rfl (few_p l) ⟨Sub.refl, trivial⟩) ?_  -- t9 := call   -- t8
  refine sP rfl rfl rfl (p_not rfl rfl) ?_  -- t10 := unOp t9
  refine lNil ?_
  refine wCond rfl (fun hc1 => ?_) (fun hc1 => ?_)  -- t10
  · refine wSeq ?_
    refine wReg ?_  -- region 2
    refine sP rfl rfl rfl (p_call rfl (awake15_p) trivial) ?_  -- t11 := call   -- 
    refine sP rfl rfl rfl (pA rfl rfl) ?_  -- t2 := assign t11
    refine lNil ?_
    refine wRet ?_
    exact rgs1 (rg_tmp (gives_sub (Sub.of_eq (rfl))))
  · obtain ⟨hl30, hlo⟩ := fewF_ok (l := l) (by simpa using hc1)
    have hl : l.length < 1000000 := by omega
    have hml : (sortK ltF l).length < 1000000 := by have := sortK_length_le (lt := ltF) l; omega
    refine wSkip ?_
    refine wSeq ?_
    refine wReg ?_  -- region 3
    refine sP rfl rfl rfl (pMs rfl rfl) ?_  -- t13 := move t0
    refine sP rfl rfl rfl (p_call rfl (fput_p l hl hlo) ⟨Sub.refl, trivial⟩) ?_  -- t14 := call   -- t13
    refine sP rfl rfl rfl (pMt rfl rfl) ?_  -- t12 := move t14
    refine sP rfl rfl rfl (p_extract rfl rfl rfl) ?_  -- t15 := extract t12
    refine sP rfl rfl rfl (p_extract rfl rfl rfl) ?_  -- t16 := extract t12
    refine sP rfl rfl rfl (pA rfl rfl) ?_  -- t3 := assign t15
    refine sP rfl rfl rfl (pA rfl rfl) ?_  -- t4 := assign t16
    refine lNil ?_
    refine wSeq ?_
    refine wReg ?_  -- region 4
    refine sP rfl rfl rfl (pMs rfl rfl) ?_  -- t18 := move t0
    refine sP rfl rfl rfl (p_call rfl (rfput_p l hl hlo) ⟨Sub.refl, trivial⟩) ?_  -- t19 := call   -- t18
    refine sP rfl rfl rfl (pMt rfl rfl) ?_  -- t17 := move t19
    refine sP rfl rfl rfl (p_extract rfl rfl rfl) ?_  -- t20 := extract t17
    refine sP rfl rfl rfl (p_extract rfl rfl rfl) ?_  -- t21 := extract t17
    refine sP rfl rfl rfl (pA rfl rfl) ?_  -- t5 := assign t20
    refine sP rfl rfl rfl (pA rfl rfl) ?_  -- t6 := assign t21
    refine lNil ?_
    refine wSeq ?_
    refine wSeq ?_
    refine wReg ?_  -- region 5
    refine sP rfl rfl rfl (pA rfl rfl) ?_  -- t7 := assign c
    refine lNil ?_
    refine wBlock ?_
    refine wLoop (fun mm L h => ∃ i, mm = l.length - i ∧ i ≤ l.length ∧ L = [(0, slF l), (3, sA (fputS l)), (4, iA (fputE l)), (5, sA (fputS l)), (6, iA (fputE l)), (7, iA (i : Nat))] ∧ h = []) ⟨_, _, _, _, ⟨0, rfl, Nat.zero_le _, rfl, rfl⟩, ⟨rfl, rfl, rfl, rfl, rfl, rfl, trivial⟩, rfl⟩ ?_
    rintro mm L h ⟨i, rfl, hi, rfl, rfl⟩
    refine wSeq ?_
    refine wSeq ?_
    refine wReg ?_  -- region 6
    refine sP rfl rfl rfl (pM rfl rfl) ?_  -- t22 := move t7
    refine sP rfl rfl rfl (pMs rfl rfl) ?_  -- t23 := move t0
    refine sP rfl rfl rfl (p_len_sl rfl rfl Tryz.underlying22) ?_  -- t24 := call   -- t23
    refine sP rfl rfl rfl (p_icmp rfl rfl rfl rfl) ?_  -- t25 := binOp t22 t24
    refine lNil ?_
    refine wCond rfl (fun hc2 => ?_) (fun hc2 => ?_)  -- t25
    · have hlt : i < l.length := by simpa using hc2
      obtain ⟨d, hd⟩ := getL hlt
      have hod := hlo d (List.mem_of_getElem? hd)
      refine wSkip ?_
      refine wSeq ?_
      refine wBlock ?_
      refine wCut (fun L h => ∃ b : Bool, b = (false) ∧ L = [(0, slF l), (3, sA (fputS l)), (4, iA (fputE l)), (5, sA (fputS l)), (6, iA (fputE l)), (7, iA (i : Nat)), (65, bA b)] ∧ h = []) ?_ ?_
      · rcases Nat.eq_zero_or_pos i with e0 | e0
        · refine wDraw 38 (by kernel_rfl) (by kernel_rfl) ?_  -- region 8
          refine sP rfl rfl rfl (pMs rfl rfl) ?_  -- t28 := move t0
          refine sP rfl rfl rfl (pM rfl rfl) ?_  -- t29 := move t7
          refine sP rfl rfl rfl (pIdx i rfl rfl Tryz.underlying22 ty36 (by decide) rfl (fun _ => rfl) rfl rfl hd) ?_  -- t30 := indexAddr t28 t29
          refine sP rfl rfl rfl (pLdE rfl rfl ty36 rfl) ?_  -- t31 := load t30
          refine sP rfl rfl rfl (p_call rfl (fcheck_p d hod) ⟨Sub.refl, trivial⟩) ?_  -- t32 := call   -- t31
          refine sP rfl rfl rfl (pMs rfl rfl) ?_  -- t33 := move t0
          refine sP rfl rfl rfl (pM rfl rfl) ?_  -- t34 := move t7
          refine sP rfl rfl rfl (pIdx i rfl rfl Tryz.underlying22 ty36 (by decide) rfl (fun _ => rfl) rfl rfl hd) ?_  -- t35 := indexAddr t33 t34
          refine sP rfl rfl rfl (pLdE rfl rfl ty36 rfl) ?_  -- t36 := load t35
          refine sP rfl rfl rfl (p_call rfl (rfcheck_p d hod) ⟨Sub.refl, trivial⟩) ?_  -- t37 := call   -- t36
          refine sP rfl rfl rfl (p_icmp rfl rfl rfl neq_same) ?_  -- t38 := binOp t32 t37
          refine sP rfl rfl rfl (pM rfl rfl) ?_  -- t39 := move t38
          refine sG rfl rfl rfl rfl rfl (pM rfl rfl) ?_  -- t40 := move t7   GUARD ['11', 'false']
          refine sG rfl rfl rfl rfl rfl (p_icmp rfl rfl rfl (gtr0_f (by omega))) ?_  -- t41 := binOp t40 c   GUARD ['11', 'false']
          refine sG rfl rfl rfl rfl rfl (pM rfl rfl) ?_  -- t42 := move t41   GUARD ['11', 'false']
          refine sUx rfl rfl rfl (by decide) rfl rfl ?_  -- t43
          refine sUx rfl rfl rfl (by decide) rfl rfl ?_  -- t44
          refine sUx rfl rfl rfl (by decide) rfl rfl ?_  -- t45
          refine sUx rfl rfl rfl (by decide) rfl rfl ?_  -- t46
          refine sUx rfl rfl rfl (by decide) rfl rfl ?_  -- t47
          refine sUx rfl rfl rfl (by decide) rfl rfl ?_  -- t48
          refine sUx rfl rfl rfl (by decide) rfl rfl ?_  -- t49
          refine sUx rfl rfl rfl (by decide) rfl rfl ?_  -- t50
          refine sUx rfl rfl rfl (by decide) rfl rfl ?_  -- t51
          refine sUx rfl rfl rfl (by decide) rfl rfl ?_  -- t52
          refine sUx rfl rfl rfl (by decide) rfl rfl ?_  -- t53
          refine sUx rfl rfl rfl (by decide) rfl rfl ?_  -- t54
          refine sUx rfl rfl rfl (by decide) rfl rfl ?_  -- t55
          refine sUx rfl rfl rfl (by decide) rfl rfl ?_  -- t56
          refine sUx rfl rfl rfl (by decide) rfl rfl ?_  -- t57
          refine sUx rfl rfl rfl (by decide) rfl rfl ?_  -- t58
          refine sUx rfl rfl rfl (by decide) rfl rfl ?_  -- t59
          refine sUx rfl rfl rfl (by decide) rfl rfl ?_  -- t60
          refine sUx rfl rfl rfl (by decide) rfl rfl ?_  -- t61
          refine sUx rfl rfl rfl (by decide) rfl rfl ?_  -- t62
          refine sUx rfl rfl rfl (by decide) rfl rfl ?_  -- t63
          refine sG rfl rfl rfl rfl rfl (p_pick rfl rfl rfl) ?_  -- t64 := pick t42 t63 c   GUARD ['11', 'false']
          refine sP rfl rfl rfl (p_pick rfl rfl rfl) ?_  -- t65 := pick t39 c t64
          refine lTail ?_
          refine lNil ?_
          exact ⟨_, [], _, ⟨_, (by exact rfl), rfl, rfl⟩, ⟨rfl, rfl, rfl, rfl, rfl, rfl, rfl, trivial⟩, rfl⟩
        · refine wDraw 38 (by kernel_rfl) (by kernel_rfl) ?_  -- region 8
          refine sP rfl rfl rfl (pMs rfl rfl) ?_  -- t28 := move t0
          refine sP rfl rfl rfl (pM rfl rfl) ?_  -- t29 := move t7
          refine sP rfl rfl rfl (pIdx i rfl rfl Tryz.underlying22 ty36 (by decide) rfl (fun _ => rfl) rfl rfl hd) ?_  -- t30 := indexAddr t28 t29
          refine sP rfl rfl rfl (pLdE rfl rfl ty36 rfl) ?_  -- t31 := load t30
          refine sP rfl rfl rfl (p_call rfl (fcheck_p d hod) ⟨Sub.refl, trivial⟩) ?_  -- t32 := call   -- t31
          refine sP rfl rfl rfl (pMs rfl rfl) ?_  -- t33 := move t0
          refine sP rfl rfl rfl (pM rfl rfl) ?_  -- t34 := move t7
          refine sP rfl rfl rfl (pIdx i rfl rfl Tryz.underlying22 ty36 (by decide) rfl (fun _ => rfl) rfl rfl hd) ?_  -- t35 := indexAddr t33 t34
          refine sP rfl rfl rfl (pLdE rfl rfl ty36 rfl) ?_  -- t36 := load t35
          refine sP rfl rfl rfl (p_call rfl (rfcheck_p d hod) ⟨Sub.refl, trivial⟩) ?_  -- t37 := call   -- t36
          refine sP rfl rfl rfl (p_icmp rfl rfl rfl neq_same) ?_  -- t38 := binOp t32 t37
          refine sP rfl rfl rfl (pM rfl rfl) ?_  -- t39 := move t38
          refine sG rfl rfl rfl rfl rfl (pM rfl rfl) ?_  -- t40 := move t7   GUARD ['11', 'false']
          refine sG rfl rfl rfl rfl rfl (p_icmp rfl rfl rfl (gtr0_t (by omega))) ?_  -- t41 := binOp t40 c   GUARD ['11', 'false']
          refine sG rfl rfl rfl rfl rfl (pM rfl rfl) ?_  -- t42 := move t41   GUARD ['11', 'false']
          refine sG rfl rfl rfl rfl rfl (pMs rfl rfl) ?_  -- t43 := move t0   GUARD ['14', 'true']
          refine sG rfl rfl rfl rfl rfl (pM rfl rfl) ?_  -- t44 := move t7   GUARD ['14', 'true']
          refine sG rfl rfl rfl rfl rfl (pIdx i rfl rfl Tryz.underlying22 ty36 (by decide) rfl (fun _ => rfl) rfl rfl hd) ?_  -- t45 := indexAddr t43 t44   GUARD ['14', 'true']
          refine sG rfl rfl rfl rfl rfl (pLdE rfl rfl ty36 rfl) ?_  -- t46 := load t45   GUARD ['14', 'true']
          refine sG rfl rfl rfl rfl rfl (pMs rfl rfl) ?_  -- t47 := move t0   GUARD ['14', 'true']
          refine sG rfl rfl rfl rfl rfl (pM rfl rfl) ?_  -- t48 := move t7   GUARD ['14', 'true']
          refine sG rfl rfl rfl rfl rfl (p_iar rfl rfl rfl rfl) ?_  -- t49 := binOp t48 c   GUARD ['14', 'true']
          refine sG rfl rfl rfl rfl rfl (pIdx (i - 1) rfl rfl Tryz.underlying22 ty36 (by decide) rfl (fun _ => rfl) rfl (by rw [wrapI (by omega) (by omega)]; omega) (prevD hd e0)) ?_  -- t50 := indexAddr t47 t49   GUARD ['14', 'true']
          refine sG rfl rfl rfl rfl rfl (pLdE rfl rfl ty36 rfl) ?_  -- t51 := load t50   GUARD ['14', 'true']
          refine sG rfl rfl rfl rfl rfl (p_call rfl (fless_p d (l.getD (i - 1) d)) ⟨Sub.refl, Sub.refl, trivial⟩) ?_  -- t52 := call    GUARD ['14', 'true']  -- t46 t51
          refine sG rfl rfl rfl rfl rfl (pMs rfl rfl) ?_  -- t53 := move t0   GUARD ['14', 'true']
          refine sG rfl rfl rfl rfl rfl (pM rfl rfl) ?_  -- t54 := move t7   GUARD ['14', 'true']
          refine sG rfl rfl rfl rfl rfl (pIdx i rfl rfl Tryz.underlying22 ty36 (by decide) rfl (fun _ => rfl) rfl rfl hd) ?_  -- t55 := indexAddr t53 t54   GUARD ['14', 'true']
          refine sG rfl rfl rfl rfl rfl (pLdE rfl rfl ty36 rfl) ?_  -- t56 := load t55   GUARD ['14', 'true']
          refine sG rfl rfl rfl rfl rfl (pMs rfl rfl) ?_  -- t57 := move t0   GUARD ['14', 'true']
          refine sG rfl rfl rfl rfl rfl (pM rfl rfl) ?_  -- t58 := move t7   GUARD ['14', 'true']
          refine sG rfl rfl rfl rfl rfl (p_iar rfl rfl rfl rfl) ?_  -- t59 := binOp t58 c   GUARD ['14', 'true']
          refine sG rfl rfl rfl rfl rfl (pIdx (i - 1) rfl rfl Tryz.underlying22 ty36 (by decide) rfl (fun _ => rfl) rfl (by rw [wrapI (by omega) (by omega)]; omega) (prevD hd e0)) ?_  -- t60 := indexAddr t57 t59   GUARD ['14', 'true']
          refine sG rfl rfl rfl rfl rfl (pLdE rfl rfl ty36 rfl) ?_  -- t61 := load t60   GUARD ['14', 'true']
          refine sG rfl rfl rfl rfl rfl (p_call rfl (rfless_p d (l.getD (i - 1) d)) ⟨Sub.refl, Sub.refl, trivial⟩) ?_  -- t62 := call    GUARD ['14', 'true']  -- t56 t61
          refine sG rfl rfl rfl rfl rfl (p_bne (r := false) rfl rfl rfl Tryz.underlying4 (by simp)) ?_  -- t63 := binOp t52 t62   GUARD ['14', 'true']
          refine sG rfl rfl rfl rfl rfl (p_pick rfl rfl rfl) ?_  -- t64 := pick t42 t63 c   GUARD ['11', 'false']
          refine sP rfl rfl rfl (p_pick rfl rfl rfl) ?_  -- t65 := pick t39 c t64
          refine lTail ?_
          refine lNil ?_
          exact ⟨_, [], _, ⟨_, (by exact rfl), rfl, rfl⟩, ⟨rfl, rfl, rfl, rfl, rfl, rfl, rfl, trivial⟩, rfl⟩
      · rintro L h ⟨b, hb, rfl, rfl⟩
        refine wCond rfl (fun hc3 => ?_) (fun hc3 => ?_)  -- t65
        · refine wSeq ?_
          refine wReg ?_  -- region 9
          refine sP rfl rfl rfl (pA rfl rfl) ?_  -- t2 := assign c
          refine lNil ?_
          refine wRet ?_
          exact absurd (hb.symm.trans hc3) (by decide)
        · refine wSkip ?_
          refine wReg ?_  -- region 7
          refine sP rfl rfl rfl (pM rfl rfl) ?_  -- t26 := move t7
          refine sP rfl rfl rfl (p_iar rfl rfl rfl rfl) ?_  -- t27 := binOp t26 c
          refine sP rfl rfl rfl (pA rfl rfl) ?_  -- t7 := assign t27
          refine lNil ?_
          refine ⟨_, _, [], [], ?_, ⟨i + 1, rfl, hlt, rfl, rfl⟩, ⟨rfl, rfl, rfl, rfl, rfl, avI (wrapI (by omega) (by omega)), trivial⟩, rfl⟩
          omega
    · refine wExit ?_
      refine wSeq ?_
      refine wReg ?_  -- region 10
      refine sP rfl rfl rfl (pMs rfl rfl) ?_  -- t66 := move t0
      refine sP rfl rfl rfl (p_call rfl (fsort_p l hl) ⟨Sub.refl, trivial⟩) ?_  -- t67 := call   -- t66
      refine sP rfl rfl rfl (pMs rfl rfl) ?_  -- t68 := move t0
      refine sP rfl rfl rfl (p_call rfl (rfsort_p l hl) ⟨Sub.refl, trivial⟩) ?_  -- t69 := call   -- t68
      refine sP rfl rfl rfl (p_call rfl (same_eq rfl hml) ⟨Sub.refl, Sub.refl, trivial⟩) ?_  -- t70 := call   -- t67 t69
      refine sP rfl rfl rfl (pM rfl rfl) ?_  -- t71 := move t70
      refine sG rfl rfl rfl rfl rfl (pM rfl rfl) ?_  -- t72 := move t3   GUARD ['5', 'true']
      refine sG rfl rfl rfl rfl rfl (pM rfl rfl) ?_  -- t73 := move t5   GUARD ['5', 'true']
      refine sG rfl rfl rfl rfl rfl (p_scmp rfl rfl rfl (seql_t rfl)) ?_  -- t74 := binOp t72 t73   GUARD ['5', 'true']
      refine sP rfl rfl rfl (p_pick rfl rfl rfl) ?_  -- t75 := pick t71 t74 c
      refine sP rfl rfl rfl (pM rfl rfl) ?_  -- t76 := move t75
      refine sG rfl rfl rfl rfl rfl (pM rfl rfl) ?_  -- t77 := move t4   GUARD ['10', 'true']
      refine sG rfl rfl rfl rfl rfl (pM rfl rfl) ?_  -- t78 := move t6   GUARD ['10', 'true']
      refine sG rfl rfl rfl rfl rfl (p_icmp rfl rfl rfl (eql_t rfl)) ?_  -- t79 := binOp t77 t78   GUARD ['10', 'true']
      refine sP rfl rfl rfl (p_pick rfl rfl rfl) ?_  -- t80 := pick t76 t79 c
      refine sP rfl rfl rfl (pM rfl rfl) ?_  -- t81 := move t80
      refine sG rfl rfl rfl rfl rfl (p_call rfl (awake15_p) trivial) ?_  -- t82 := call    GUARD ['15', 'true']  -- 
      refine sP rfl rfl rfl (p_pick rfl rfl rfl) ?_  -- t83 := pick t81 t82 c
      refine sP rfl rfl rfl (pA rfl rfl) ?_  -- t2 := assign t83
      refine lNil ?_
      refine wRet ?_
      exact rgs1 (rg_tmp (gives_sub (Sub.of_eq (rfl))))

theorem fsorts_walk (A : Option Addr) (n c : Nat) (l : List FactT) (w : World) (hl : l.length = n) (hnc : n ≤ c) (hcm : c ≤ 9223372036854775807) (hr : Reads w w.heap.size 8 A n (l.flatMap encV)) : Calls Tryz.prog 3 #[.slice A n c] w fun e w' => e = .returned (.bool true) ∧ Below w.heap.size w w' := by
  have hr : RepC (fun _ => False) w [slF l] (fun j => (#[Value.slice A n c] : Array Value)[j]?) := by
    simp only [RepC]
    exact ⟨⟨_, rfl, facts_rep hl hnc hcm hr⟩, trivial⟩
  refine ((fsorts_w l).calls (fun _ => False) w _ (fun b hb => hb.elim) rfl hr).mono ?_
  rintro e w' ⟨r, rfl, h2, h3⟩
  rw [rep_x] at h2
  subst h2
  exact ⟨rfl, h3.b⟩

end Go.Proofs.YtmhkalalcmkpbaaGreat
