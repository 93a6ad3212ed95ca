/-
  Frs
-/
import Derived.Test.YtmhkalalcmkpbaaZC4
import Derived.Test.YtmhkalalcmkpbaaZFrc
namespace Go.Proofs.Ytmhkalalcmkpbaa
open Go Go.RowKit
set_option linter.unusedVariables false
set_option linter.unusedSimpArgs false

/-- Is the thing at k less than d? -/
def lessAt (acc : List FactT) (k : Nat) (d : FactT) : Bool := match acc[k]? with | some y => ltF y d | none => false
theorem lessAt_some {acc : List FactT} {k : Nat} {d y : FactT} (h : acc[k]? = some y) : lessAt acc k d = ltF y d := by unfold lessAt; rw [h]
theorem lessAt_none {acc : List FactT} {k : Nat} {d : FactT} (h : decide ((k : Int) < (acc.length : Nat)) = false) : lessAt acc k d = false := by
  unfold lessAt; rw [List.getElem?_eq_none (by have := of_decide_eq_false h; omega)]
theorem sortK_in {l : List FactT} {i : Nat} {d : FactT} (hd : l[i]? = some d) (h : inF (sortK ltF (l.take i)) d = true) : sortK ltF (l.take (i + 1)) = sortK ltF (l.take i) := by
  rw [List.take_add_one, hd]
  show sortK ltF (l.take i ++ [d]) = _
  rw [sortK_snoc]
  unfold insK
  unfold inF at h
  rw [List.any_eq_true] at h
  obtain ⟨y, hy, he⟩ := h
  have : y = d := by simpa using he
  subst this
  rw [if_pos hy]
theorem sortK_new {l : List FactT} {i k : Nat} {d : FactT} (hd : l[i]? = some d) (h : inF (sortK ltF (l.take i)) d = false) (hk : k ≤ (sortK ltF (l.take i)).length) (h1 : ∀ (j : Nat) y, j < k → (sortK ltF (l.take i))[j]? = some y → ltF y d = true) (h2 : lessAt (sortK ltF (l.take i)) k d = false) :
    sortK ltF (l.take (i + 1)) = [] ++ ((sortK ltF (l.take i)).take k).drop 0 ++ [d] ++ ((sortK ltF (l.take i)).take (sortK ltF (l.take i)).length).drop k := by
  have hn : d ∉ sortK ltF (l.take i) := by
    intro hm
    unfold inF at h
    rw [List.any_eq_false] at h
    exact h d hm (by simp)
  rw [List.take_length, List.nil_append, List.drop_zero]
  have := ins_atG hn hk h1 (fun y hy => by rw [lessAt_some hy] at h2; exact h2)
  rw [← this, ← sortK_snoc]
  congr 1
  rw [List.take_add_one, hd]; rfl
theorem slF_eq {a b : List FactT} (h : a = b) : AV.sl 8 a.length (a.flatMap encF) = slF b := by rw [h]

theorem lessAt_lt {acc : List FactT} {k : Nat} {d : FactT} (h : lessAt acc k d = true) : k < acc.length := by
  rcases Nat.lt_or_ge k acc.length with g | g
  · exact g
  · unfold lessAt at h; rw [List.getElem?_eq_none g] at h; cases h

set_option maxRecDepth 100000 in
theorem rfsort_p (l : List FactT) (hn : l.length < 1000000) : PFn Try.prog False 48 [slF l] (slF (sortK ltF l)) := by
  refine pfn Try.func48 rfl (by kernel_rfl) 55 rfl _ rfl (Nat.le_of_ble_eq_true rfl) (fun X w0 => ?_)
  refine wSeq ?_
  refine wReg ?_  -- region 0
  refine sP rfl rfl rfl (pA rfl rfl) ?_  -- t2 := assign c
  refine lNil ?_
  refine wSeq ?_
  refine wReg ?_  -- region 1
  refine sP rfl rfl rfl (pA rfl rfl) ?_  -- t3 := assign c
  refine lNil ?_
  refine wNilrow 87 8 ?_
  refine wFreeze 0 3 rfl rfl ?_
  refine wSeq ?_
  refine wSeq ?_
  refine wReg ?_  -- region 2
  refine sP rfl rfl rfl (pA rfl rfl) ?_  -- t4 := assign c
  refine lNil ?_
  refine wBlock ?_
  refine wLoop (fun mm L h => ∃ i acc, mm = l.length - i ∧ i ≤ l.length ∧ acc = sortK ltF (l.take i) ∧ acc.length ≤ 1000000 ∧ L = [(0, slF l), (3, slF acc), (4, iA (i : Nat))] ∧ h = []) ⟨_, _, _, _, ⟨0, [], rfl, Nat.zero_le _, rfl, Nat.zero_le _, rfl, rfl⟩, ⟨rfl, rfl, rfl, trivial⟩, rfl⟩ ?_
  rintro mm L h ⟨i, acc, rfl, hi, ha, hal, rfl, rfl⟩
  refine wSeq ?_
  refine wSeq ?_
  refine wReg ?_  -- region 3
  refine sP rfl rfl rfl (pM rfl rfl) ?_  -- t7 := move t4
  refine sP rfl rfl rfl (pMs rfl rfl) ?_  -- t8 := move t0
  refine sP rfl rfl rfl (p_len_sl rfl rfl Try.underlying26) ?_  -- t9 := call   -- t8
  refine sP rfl rfl rfl (p_icmp rfl rfl rfl rfl) ?_  -- t10 := binOp t7 t9
  refine lNil ?_
  refine wCond rfl (fun hc1 => ?_) (fun hc1 => ?_)  -- t10
  · have hlt : i < l.length := by simpa using hc1
    obtain ⟨d, hd⟩ := getL hlt
    have hal2 : acc.length ≤ i := by rw [ha]; have := sortK_length_le (lt := ltF) (l.take i); rw [List.length_take] at this; omega
    refine wSkip ?_
    refine wSeq ?_
    refine wBlock ?_
    refine wSeq ?_
    refine wSeq ?_
    refine wReg ?_  -- region 5
    refine sP rfl rfl rfl (pMs rfl rfl) ?_  -- t13 := move t3
    refine sP rfl rfl rfl (pMs rfl rfl) ?_  -- t14 := move t0
    refine sP rfl rfl rfl (pM rfl rfl) ?_  -- t15 := move t4
    refine sP rfl rfl rfl (pIdx i rfl rfl Try.underlying26 ty87 (by decide) rfl (fun _ => rfl) rfl rfl hd) ?_  -- t16 := indexAddr t14 t15
    refine sP rfl rfl rfl (pLdE rfl rfl ty87 rfl) ?_  -- t17 := load t16
    refine sP rfl rfl rfl (p_call rfl (rfin_p acc d (by omega)) ⟨Sub.refl, Sub.refl, trivial⟩) ?_  -- t18 := call   -- t13 t17
    refine lNil ?_
    refine wCond rfl (fun hc2 => ?_) (fun hc2 => ?_)  -- t18
    · refine wExit ?_
      refine wReg ?_  -- region 4
      refine sP rfl rfl rfl (pM rfl rfl) ?_  -- t11 := move t4
      refine sP rfl rfl rfl (p_iar rfl rfl rfl rfl) ?_  -- t12 := binOp t11 c
      refine sP rfl rfl rfl (pA rfl rfl) ?_  -- t4 := assign t12
      refine lNil ?_
      have hs : acc = sortK ltF (l.take (i + 1)) := by rw [ha] at hc2 ⊢; exact (sortK_in hd hc2).symm
      refine ⟨_, _, [], [], ?_, ⟨i + 1, acc, rfl, hlt, hs, hal, rfl, rfl⟩, ⟨rfl, rfl, avI (wrapI (by omega) (by omega)), trivial⟩, rfl⟩
      omega
    · refine wSkip ?_
      refine wSeq ?_
      refine wReg ?_  -- region 6
      refine sP rfl rfl rfl (pA rfl rfl) ?_  -- t5 := assign c
      refine lNil ?_
      refine wSeq ?_
      refine wBlock ?_
      refine wLoop (fun mm L h => ∃ k, mm = acc.length - k ∧ k ≤ acc.length ∧ (∀ (j : Nat) y, j < k → acc[j]? = some y → ltF y d = true) ∧ L = [(0, slF l), (3, slF acc), (4, iA (i : Nat)), (5, iA (k : Nat))] ∧ h = []) ⟨_, _, _, _, ⟨0, rfl, Nat.zero_le _, fun j y hj => absurd hj (by omega), rfl, rfl⟩, ⟨rfl, rfl, rfl, rfl, trivial⟩, rfl⟩ ?_
      rintro mm L h ⟨k, rfl, hk, h1, rfl, rfl⟩
      refine wSeq ?_
      refine wCut (fun L h => ∃ b : Bool, b = (lessAt acc k d) ∧ L = [(0, slF l), (3, slF acc), (4, iA (i : Nat)), (5, iA (k : Nat)), (33, bA b)] ∧ h = []) ?_ ?_
      · cases hb : (decide ((k : Int) < (acc.length : Nat))) with
        | true =>
          obtain ⟨y, hy⟩ := getL (l := acc) (i := k) (by have := of_decide_eq_true hb; omega)
          refine wDraw 15 (by kernel_rfl) (by kernel_rfl) ?_  -- region 7
          refine sP rfl rfl rfl (pM rfl rfl) ?_  -- t19 := move t5
          refine sP rfl rfl rfl (pMs rfl rfl) ?_  -- t20 := move t3
          refine sP rfl rfl rfl (p_len_sl rfl rfl Try.underlying26) ?_  -- t21 := call   -- t20
          refine sP rfl rfl rfl (p_icmp rfl rfl rfl (congrArg some hb)) ?_  -- t22 := binOp t19 t21
          refine sP rfl rfl rfl (pM rfl rfl) ?_  -- t23 := move t22
          refine sG rfl rfl rfl rfl rfl (pMs rfl rfl) ?_  -- t24 := move t3   GUARD ['4', 'true']
          refine sG rfl rfl rfl rfl rfl (pM rfl rfl) ?_  -- t25 := move t5   GUARD ['4', 'true']
          refine sG rfl rfl rfl rfl rfl (pIdx k rfl rfl Try.underlying26 ty87 (by decide) rfl (fun _ => rfl) rfl rfl hy) ?_  -- t26 := indexAddr t24 t25   GUARD ['4', 'true']
          refine sG rfl rfl rfl rfl rfl (pLdE rfl rfl ty87 rfl) ?_  -- t27 := load t26   GUARD ['4', 'true']
          refine sG rfl rfl rfl rfl rfl (pMs rfl rfl) ?_  -- t28 := move t0   GUARD ['4', 'true']
          refine sG rfl rfl rfl rfl rfl (pM rfl rfl) ?_  -- t29 := move t4   GUARD ['4', 'true']
          refine sG rfl rfl rfl rfl rfl (pIdx i rfl rfl Try.underlying26 ty87 (by decide) rfl (fun _ => rfl) rfl rfl hd) ?_  -- t30 := indexAddr t28 t29   GUARD ['4', 'true']
          refine sG rfl rfl rfl rfl rfl (pLdE rfl rfl ty87 rfl) ?_  -- t31 := load t30   GUARD ['4', 'true']
          refine sG rfl rfl rfl rfl rfl (p_call rfl (rfless_p y d) ⟨Sub.refl, Sub.refl, trivial⟩) ?_  -- t32 := call    GUARD ['4', 'true']  -- t27 t31
          refine sP rfl rfl rfl (p_pick rfl rfl rfl) ?_  -- t33 := pick t23 t32 c
          refine lTail ?_
          refine lNil ?_
          exact ⟨_, [], [], ⟨_, (by exact (lessAt_some hy).symm), rfl, rfl⟩, ⟨rfl, rfl, rfl, rfl, rfl, trivial⟩, rfl⟩
        | false =>
          refine wDraw 15 (by kernel_rfl) (by kernel_rfl) ?_  -- region 7
          refine sP rfl rfl rfl (pM rfl rfl) ?_  -- t19 := move t5
          refine sP rfl rfl rfl (pMs rfl rfl) ?_  -- t20 := move t3
          refine sP rfl rfl rfl (p_len_sl rfl rfl Try.underlying26) ?_  -- t21 := call   -- t20
          refine sP rfl rfl rfl (p_icmp rfl rfl rfl (congrArg some hb)) ?_  -- t22 := binOp t19 t21
          refine sP rfl rfl rfl (pM rfl rfl) ?_  -- t23 := move t22
          refine sU rfl rfl rfl (by decide) rfl rfl ?_  -- t24 := move t3   GUARD ['4', 'true']
          refine sU rfl rfl rfl (by decide) rfl rfl ?_  -- t25 := move t5   GUARD ['4', 'true']
          refine sU rfl rfl rfl (by decide) rfl rfl ?_  -- t26 := indexAddr t24 t25   GUARD ['4', 'true']
          refine sU rfl rfl rfl (by decide) rfl rfl ?_  -- t27 := load t26   GUARD ['4', 'true']
          refine sU rfl rfl rfl (by decide) rfl rfl ?_  -- t28 := move t0   GUARD ['4', 'true']
          refine sU rfl rfl rfl (by decide) rfl rfl ?_  -- t29 := move t4   GUARD ['4', 'true']
          refine sU rfl rfl rfl (by decide) rfl rfl ?_  -- t30 := indexAddr t28 t29   GUARD ['4', 'true']
          refine sU rfl rfl rfl (by decide) rfl rfl ?_  -- t31 := load t30   GUARD ['4', 'true']
          refine sU rfl rfl rfl (by decide) rfl rfl ?_  -- t32 := call    GUARD ['4', 'true']  -- t27 t31
          refine sP rfl rfl rfl (p_pick rfl rfl rfl) ?_  -- t33 := pick t23 t32 c
          refine lTail ?_
          refine lNil ?_
          exact ⟨_, [], [], ⟨_, (by exact (lessAt_none hb).symm), rfl, rfl⟩, ⟨rfl, rfl, rfl, rfl, rfl, trivial⟩, rfl⟩
      · rintro L h ⟨b, hb, rfl, rfl⟩
        refine wCond rfl (fun hc3 => ?_) (fun hc3 => ?_)  -- t33
        · refine wSkip ?_
          refine wBlock ?_
          refine wReg ?_  -- region 8
          refine sP rfl rfl rfl (pM rfl rfl) ?_  -- t34 := move t5
          refine sP rfl rfl rfl (p_iar rfl rfl rfl rfl) ?_  -- t35 := binOp t34 c
          refine sP rfl rfl rfl (pA rfl rfl) ?_  -- t5 := assign t35
          refine lNil ?_
          have hb2 := hb.symm.trans hc3
          refine ⟨_, _, [], [], ?_, ⟨k + 1, rfl, lessAt_lt hb2, fun j y hj hy => ?_, rfl, rfl⟩, ⟨rfl, rfl, rfl, avI (wrapI (by omega) (by omega)), trivial⟩, rfl⟩
          · have := lessAt_lt hb2; omega
          · rcases Nat.lt_or_ge j k with h | h
            · exact h1 j y h hy
            · obtain rfl : j = k := by omega
              rw [lessAt_some hy] at hb2; exact hb2
        · have hb2 := hb.symm.trans hc3
          have hlens : ((acc.take k).drop 0).length ≤ 1000000 := by rw [List.length_drop, List.length_take]; omega
          have hlen2 : ((acc.take acc.length).drop k).length ≤ 1000000 := by rw [List.length_drop, List.length_take]; omega
          refine wExit ?_
          refine wNilrow 87 8 ?_
          refine wSeq ?_
          refine wReg ?_  -- region 9
          refine sP rfl rfl rfl (pA rfl rfl) ?_  -- t6 := assign c
          refine lNil ?_
          refine wSeq ?_
          refine wReg ?_  -- region 10
          refine sP rfl rfl rfl (pM rfl rfl) ?_  -- t36 := move t6
          refine sP rfl rfl rfl (pMs rfl rfl) ?_  -- t37 := move t3
          refine sP rfl rfl rfl (pM rfl rfl) ?_  -- t38 := move t5
          refine sP rfl rfl rfl (pCut 0 k rfl rfl Try.underlying26 ty87 (fun _ => rfl) rfl ⟨_, _, rfl, rfl⟩ (Nat.zero_le _) hk) ?_  -- t39 := slice t37
          refine sAppendL (enc := encF) (l := []) 0 ((acc.take k).drop 0) rfl rfl rfl rfl Try.underlying26 ro87 rfl rfl rfl (fun _ => rfl) (by have := hlens; rw [List.length_nil]; omega) (by have := hlens; rw [List.length_nil]; omega) (fun v40 => ?_)  -- t40 := call   -- t36 t39
          refine sP rfl rfl rfl (pA rfl rfl) ?_  -- t6 := assign t40
          refine lNil ?_
          refine wSeq ?_
          refine wReg ?_  -- region 11
          refine sP rfl rfl rfl (pM rfl rfl) ?_  -- t41 := move t6
          refine sP rfl rfl rfl (pMs rfl rfl) ?_  -- t42 := move t0
          refine sP rfl rfl rfl (pM rfl rfl) ?_  -- t43 := move t4
          refine sP rfl rfl rfl (pIdx i rfl rfl Try.underlying26 ty87 (by decide) rfl (fun _ => rfl) rfl rfl hd) ?_  -- t44 := indexAddr t42 t43
          refine sP rfl rfl rfl (pLdE rfl rfl ty87 rfl) ?_  -- t45 := load t44
          refine sP rfl rfl rfl (p_buildSlice rfl ze87 Try.underlying26 ty87 (by decide) (by decide) rfl rfl rfl) ?_  -- t46 := buildSlice 
          refine sAppendL (enc := encF) (l := [] ++ (acc.take k).drop 0) 0 [d] rfl rfl rfl rfl Try.underlying26 ro87 rfl rfl rfl (fun _ => rfl) (by have := hlens; simp only [List.length_append, List.length_nil, List.length_singleton] at *; omega) (by have := hlens; simp only [List.length_append, List.length_nil, List.length_singleton] at *; omega) (fun v47 => ?_)  -- t47 := call   -- t41 t46
          refine sP rfl rfl rfl (pA rfl rfl) ?_  -- t6 := assign t47
          refine lNil ?_
          refine wSeq ?_
          refine wReg ?_  -- region 12
          refine sP rfl rfl rfl (pM rfl rfl) ?_  -- t48 := move t6
          refine sP rfl rfl rfl (pMs rfl rfl) ?_  -- t49 := move t3
          refine sP rfl rfl rfl (pM rfl rfl) ?_  -- t50 := move t5
          refine sP rfl rfl rfl (pCut k acc.length rfl rfl Try.underlying26 ty87 (fun _ => rfl) ⟨_, _, rfl, rfl⟩ rfl hk (Nat.le_refl _)) ?_  -- t51 := slice t49
          refine sAppendL (enc := encF) (l := [] ++ (acc.take k).drop 0 ++ [d]) 0 ((acc.take acc.length).drop k) rfl rfl rfl rfl Try.underlying26 ro87 rfl rfl rfl (fun _ => rfl) (by have := hlens; have := hlen2; simp only [List.length_append, List.length_nil, List.length_singleton] at *; omega) (by have := hlens; have := hlen2; simp only [List.length_append, List.length_nil, List.length_singleton] at *; omega) (fun v52 => ?_)  -- t52 := call   -- t48 t51
          refine sP rfl rfl rfl (pA rfl rfl) ?_  -- t6 := assign t52
          refine lNil ?_
          refine wFreeze 0 6 rfl rfl ?_
          refine wReg ?_  -- region 13
          refine sP rfl rfl rfl (pMs rfl rfl) ?_  -- t53 := move t6
          refine sP rfl rfl rfl (pAs rfl rfl) ?_  -- t3 := assign t53
          refine lNil ?_
          refine wReg ?_  -- region 4
          refine sP rfl rfl rfl (pM rfl rfl) ?_  -- t11 := move t4
          refine sP rfl rfl rfl (p_iar rfl rfl rfl rfl) ?_  -- t12 := binOp t11 c
          refine sP rfl rfl rfl (pA rfl rfl) ?_  -- t4 := assign t12
          refine lNil ?_
          have hs : [] ++ (acc.take k).drop 0 ++ [d] ++ (acc.take acc.length).drop k = sortK ltF (l.take (i + 1)) := by rw [ha] at hc2 hk h1 hb2 ⊢; exact (sortK_new hd hc2 hk h1 hb2).symm
          refine ⟨_, _, [], _, ?_, ⟨i + 1, sortK ltF (l.take (i + 1)), rfl, hlt, rfl, ?_, rfl, rfl⟩, ⟨rfl, slF_eq hs, avI (wrapI (by omega) (by omega)), trivial⟩, rfl⟩
          · omega
          · have := sortK_length_le (lt := ltF) (l.take (i + 1)); rw [List.length_take] at this; omega
  · have hge : i = l.length := by
      have h : ¬ i < l.length := by simpa using hc1
      omega
    refine wExit ?_
    refine wSeq ?_
    refine wReg ?_  -- region 14
    refine sP rfl rfl rfl (pMs rfl rfl) ?_  -- t54 := move t3
    refine sP rfl rfl rfl (pAs rfl rfl) ?_  -- t2 := assign t54
    refine lNil ?_
    refine wRet ?_
    subst hge
    rw [List.take_length] at ha
    subst ha
    exact rgs1 (rg_tmp (gives_sub Sub.refl))
end Go.Proofs.Ytmhkalalcmkpbaa
