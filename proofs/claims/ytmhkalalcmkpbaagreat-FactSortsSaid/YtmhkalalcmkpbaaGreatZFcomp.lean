/-
  OrdC Fcomp
-/
import Derived.Test.YtmhkalalcmkpbaaGreatZC5
import Derived.Test.YtmhkalalcmkpbaaGreatZFr
import Derived.Test.YtmhkalalcmkpbaaGreatZOrd
namespace Go.Proofs.YtmhkalalcmkpbaaGreat
set_option linter.unusedVariables false
section
variable {α : Type} [DecidableEq α]
/-- How the row stands while it is made compact: the first kk are what is left of the first i. -/
structure CompG (l m : List α) (i kk : Nat) : Prop where
  size : m.length = l.length
  len : (compact (l.take i)).length = kk
  low : m.take kk = compact (l.take i)
  high : ∀ j, i ≤ j + 1 → m[j]? = l[j]?
  lt : kk < i
omit [DecidableEq α] in
theorem take_at {l : List α} {i : Nat} {x : α} (h : l[i]? = some x) : l.take (i + 1) = l.take i ++ [x] := by rw [List.take_add_one, h]; rfl
omit [DecidableEq α] in
theorem last_at {l : List α} {i : Nat} {y : α} (h0 : 0 < i) (h : l[i - 1]? = some y) : (l.take i).getLast? = some y := by
  obtain ⟨k, rfl⟩ : ∃ k, i = k + 1 := ⟨i - 1, by omega⟩
  rw [take_at (by simpa using h)]; simp
theorem compG_same {l : List α} {i : Nat} {x : α} (h : l[i]? = some x) (h0 : 0 < i) (hy : l[i - 1]? = some x) : compact (l.take (i + 1)) = compact (l.take i) := by
  rw [take_at h, compact_snoc]; unfold cpush
  rw [compact_last, last_at h0 hy, if_pos rfl]
theorem compG_more {l : List α} {i : Nat} {x y : α} (h : l[i]? = some x) (h0 : 0 < i) (hy : l[i - 1]? = some y) (hne : x ≠ y) : compact (l.take (i + 1)) = compact (l.take i) ++ [x] := by
  rw [take_at h, compact_snoc]; unfold cpush
  rw [compact_last, last_at h0 hy, if_neg (by intro e; injection e with e; exact hne e.symm)]
theorem CompG.start {l : List α} {k : Nat} {x : α} (h : l[k]? = some x) (h0 : 0 < k) (hy : l[k - 1]? = some x) (hc : compact (l.take k) = l.take k) : CompG l l (k + 1) k := by
  have e := compG_same h h0 hy
  rw [hc] at e
  have hk := (List.getElem?_eq_some_iff.1 h).1
  exact ⟨rfl, by rw [e, List.length_take]; omega, e.symm, fun _ _ => rfl, by omega⟩
theorem CompG.skip {l m : List α} {i kk : Nat} {x : α} (c : CompG l m i kk) (h : l[i]? = some x) (h0 : 0 < i) (hy : l[i - 1]? = some x) : CompG l m (i + 1) kk := by
  have e := compG_same h h0 hy
  exact ⟨c.size, by rw [e]; exact c.len, by rw [e]; exact c.low, fun j a => c.high j (by omega), by have := c.lt; omega⟩
theorem CompG.keep {l m : List α} {i kk : Nat} {x y : α} (c : CompG l m i kk) (h : l[i]? = some x) (h0 : 0 < i) (hy : l[i - 1]? = some y) (hne : x ≠ y) : CompG l (m.set kk x) (i + 1) (kk + 1) := by
  have e := compG_more h h0 hy hne
  have hlt := c.lt
  have hs := c.size
  have hi := (List.getElem?_eq_some_iff.1 h).1
  refine ⟨by rw [List.length_set]; exact hs, by rw [e]; simp [c.len], ?_, fun j a => ?_, by omega⟩
  · rw [e, take_at (x := x) (by rw [List.getElem?_set, if_pos rfl, if_pos (by omega)]), ← c.low]
    congr 1
    rw [List.take_set_of_le (Nat.le_refl _)]
  · rw [List.getElem?_set, if_neg (by omega)]; exact c.high j (by omega)
theorem CompG.all {l m : List α} {kk : Nat} (c : CompG l m l.length kk) : m.take kk = compact l ∧ kk = (compact l).length := by
  have h1 := c.low
  have h2 := c.len
  rw [List.take_length] at h1 h2
  exact ⟨h1, h2.symm⟩
theorem compact_next {l : List α} {k : Nat} {x y : α} (h : l[k]? = some x) (h0 : 0 < k) (hy : l[k - 1]? = some y) (hne : x ≠ y) (hc : compact (l.take k) = l.take k) : compact (l.take (k + 1)) = l.take (k + 1) := by
  rw [compG_more h h0 hy hne, hc, take_at h]
theorem compact_short {l : List α} (h : l.length < 2) : compact l = l := by
  match l, h with
  | [], _ => rfl
  | [x], _ => rfl
end
end Go.Proofs.YtmhkalalcmkpbaaGreat

namespace Go.Proofs.YtmhkalalcmkpbaaGreat
open Go Go.RowKit
set_option linter.unusedVariables false
set_option linter.unusedSimpArgs false

theorem encF8 (x : FactT) : (encF x).length = 8 := rfl
theorem fAt {l : List FactT} {rest : List AV} {i off : Nat} {x : FactT} (h : l[i]? = some x) (ho : off = i * 8) : ((l.flatMap encF ++ rest).drop off).take 8 = encF x := by
  subst ho; exact flat_at encF8 h
theorem fLen (l : List FactT) (rest : List AV) : (l.flatMap encF ++ rest).length = l.length * 8 + rest.length := by rw [List.length_append, flat_len_ encF8]
theorem fLe {l : List FactT} {rest : List AV} {i off : Nat} (h : i < l.length) (ho : off = i * 8) : off + 8 ≤ (l.flatMap encF ++ rest).length := by rw [fLen]; omega
theorem fRow {m : List FactT} {l : List FactT} {rest tail : List AV} {kk : Nat} (hm : m.take kk = l) (hk : kk ≤ m.length) : ((m.flatMap encF ++ rest).take (0 + kk * 8) ++ tail).take (kk * 8) = l.flatMap encF := by
  have e : (m.flatMap encF ++ rest).take (0 + kk * 8) = l.flatMap encF := by
    rw [Nat.zero_add, List.take_append_of_le_length (by rw [flat_len_ encF8]; exact Nat.mul_le_mul_right 8 hk), flat_take_ encF8, hm]
  have e2 : (l.flatMap encF).length = kk * 8 := by rw [flat_len_ encF8, ← hm, List.length_take, Nat.min_eq_left hk]
  rw [e, List.take_append_of_le_length (by omega), List.take_of_length_le (by omega)]
theorem fRowAll (l : List FactT) (rest : List AV) : (l.flatMap encF ++ rest).take (l.length * 8) = l.flatMap encF := by
  have e2 : (l.flatMap encF).length = l.length * 8 := flat_len_ encF8 l
  rw [← e2, List.take_left]
def factRow (v : Value) (l : List FactT) : HObj := .row v 36 8 l.length (l.flatMap encF)
def CmR (l : List FactT) (av : AV) (h' : List HObj) : Prop := ∃ v', av = .x v' ∧ h' = [factRow v' l]

set_option maxHeartbeats 1000000 in
set_option maxRecDepth 100000 in
theorem fcomp_m {K : Prop} (v : Value) (l : List FactT) (hn : l.length < 1000000) : MFn Tryz.prog K 38 [.x v] [factRow v l] (CmR (compact l)) := by
  refine mfn Tryz.func38 rfl (by kernel_rfl) 61 rfl _ rfl (Nat.le_of_ble_eq_true rfl) (fun X w0 => ?_)
  refine wSeq ?_
  refine wReg ?_  -- region 0
  refine sP rfl rfl rfl (pA rfl rfl) ?_  -- t2 := assign c
  refine lNil ?_
  refine wSeq ?_
  refine wSeq ?_
  refine wReg ?_  -- region 1
  refine sP rfl rfl rfl (pM rfl rfl) ?_  -- t6 := move t0
  refine sP rfl rfl rfl (p_len_row rfl rfl (List.mem_of_getElem? (i := 0) rfl) Tryz.underlying22) ?_  -- t7 := call   -- t6
  refine sP rfl rfl rfl (p_icmp rfl rfl rfl rfl) ?_  -- t8 := binOp t7 c
  refine lNil ?_
  refine wCond rfl (fun hc1 => ?_) (fun hc1 => ?_)  -- t8
  · refine wSeq ?_
    refine wReg ?_  -- region 2
    refine sP rfl rfl rfl (pM rfl rfl) ?_  -- t9 := move t0
    refine sP rfl rfl rfl (pA rfl rfl) ?_  -- t2 := assign t9
    refine lNil ?_
    refine wRet ?_
    have h : l.length < 2 := by have h := hc1; simp at h; omega
    rw [compact_short h]
    exact ⟨_, [factRow v l], [], rfl, ⟨v, rfl, rfl⟩, rgm_tmp (r := []) rfl Sub.refl⟩
  · have h2 : 2 ≤ l.length := by have h := hc1; simp at h; omega
    refine wRowCells 0 rfl (by omega) (fun g cap hv hnc hcm => ?_)
    subst hv
    refine wSkip ?_
    refine wSeq ?_
    refine wSeq ?_
    refine wReg ?_  -- region 3
    refine sP rfl rfl rfl (pA rfl rfl) ?_  -- t3 := assign c
    refine lNil ?_
    refine wBlock ?_
    refine wLoop (fun mm L h => ∃ k, mm = l.length - k ∧ 1 ≤ k ∧ k ≤ l.length ∧ compact (l.take k) = l.take k ∧ L = [(0, .x (.slice (some ⟨g, 0, none⟩) l.length cap)), (3, iA (k : Nat))] ∧ h = [.cells g 36 (l.flatMap encF ++ List.replicate (cap * 8 - l.length * 8) .any)]) ⟨_, _, _, _, ⟨1, rfl, Nat.le_refl _, by omega, compact_short (by rw [List.length_take]; omega), rfl, rfl⟩, ⟨rfl, rfl, trivial⟩, rfl⟩ ?_
    rintro mm L h ⟨k, rfl, hk1, hkn, hcp, rfl, rfl⟩
    refine wSeq ?_
    refine wSeq ?_
    refine wReg ?_  -- region 4
    refine sP rfl rfl rfl (pM rfl rfl) ?_  -- t10 := move t3
    refine sP rfl rfl rfl (pM rfl rfl) ?_  -- t11 := move t0
    refine sP rfl rfl rfl (p_len_x rfl rfl Tryz.underlying22) ?_  -- t12 := call   -- t11
    refine sP rfl rfl rfl (p_icmp rfl rfl rfl rfl) ?_  -- t13 := binOp t10 t12
    refine lNil ?_
    refine wCond rfl (fun hc2 => ?_) (fun hc2 => ?_)  -- t13
    · have hk : k < l.length := by have h := hc2; simp at h; omega
      obtain ⟨x, hx⟩ := getL hk
      obtain ⟨y, hy⟩ := getL (l := l) (i := k - 1) (by omega)
      have hz : IntKind.i64.wrap ((k : Int) - 1) = ((k - 1 : Nat) : Int) := by rw [wrapI (by omega) (by omega)]; omega
      refine wSkip ?_
      refine wSeq ?_
      refine wBlock ?_
      refine wSeq ?_
      refine wDraw 10 (by kernel_rfl) (by kernel_rfl) ?_  -- region 6
      refine sP rfl rfl rfl (pM rfl rfl) ?_  -- t16 := move t0
      refine sP rfl rfl rfl (pM rfl rfl) ?_  -- t17 := move t3
      refine sP rfl rfl rfl (p_indexAddr_ow (k) rfl rfl Tryz.underlying22 ty36 rfl rfl hk) ?_  -- t18 := indexAddr t16 t17
      refine sP rfl rfl rfl (pLdO 0 rfl rfl rfl ty36 (fLe hk (by omega)) (fAt hx (by omega))) ?_  -- t19 := load t18
      refine sP rfl rfl rfl (pM rfl rfl) ?_  -- t20 := move t0
      refine sP rfl rfl rfl (pM rfl rfl) ?_  -- t21 := move t3
      refine sP rfl rfl rfl (p_iar rfl rfl rfl rfl) ?_  -- t22 := binOp t21 c
      refine sP rfl rfl rfl (p_indexAddr_ow (k - 1) rfl rfl Tryz.underlying22 ty36 rfl hz (by omega)) ?_  -- t23 := indexAddr t20 t22
      refine sP rfl rfl rfl (pLdO 0 rfl rfl rfl ty36 (fLe (i := k - 1) (by omega) (by omega)) (fAt hy (by omega))) ?_  -- t24 := load t23
      refine sP rfl rfl rfl (p_eqs rfl rfl rfl rfl rfl guardF (fun w => eqF w x y)) ?_  -- t25 := binOp t19 t24
      refine lTail ?_
      refine lNil ?_
      refine wCond rfl (fun hc3 => ?_) (fun hc3 => ?_)  -- t25
      · have hxy : x = y := by simpa using hc3
        refine wSeq ?_
        refine wReg ?_  -- region 7
        refine sP rfl rfl rfl (pM rfl rfl) ?_  -- t26 := move t0
        refine sP rfl rfl rfl (pM rfl rfl) ?_  -- t27 := move t3
        refine sP rfl rfl rfl (p_slice_ow k l.length rfl rfl Tryz.underlying22 ty36 ⟨_, _, rfl, rfl⟩ rfl (by omega) (Nat.le_refl _) hnc (by omega)) ?_  -- t28 := slice t26
        refine sP rfl rfl rfl (pA rfl rfl) ?_  -- t4 := assign t28
        refine lNil ?_
        refine wSeq ?_
        refine wSeq ?_
        refine wReg ?_  -- region 8
        refine sP rfl rfl rfl (pA rfl rfl) ?_  -- t5 := assign c
        refine lNil ?_
        refine wBlock ?_
        refine wLoop (fun mm L h => ∃ kk k2 m, mm = l.length - (k + k2) ∧ 1 ≤ k2 ∧ k + k2 ≤ l.length ∧ CompG l m (k + k2) kk ∧ L = [(0, .x (.slice (some ⟨g, 0, none⟩) l.length cap)), (3, iA (kk : Nat)), (4, .x (.slice (some ⟨g, 0 + k * 8, none⟩) (l.length - k) (cap - k))), (5, iA (k2 : Nat))] ∧ h = [.cells g 36 (m.flatMap encF ++ List.replicate (cap * 8 - l.length * 8) .any)]) ⟨_, _, _, _, ⟨k, 1, l, rfl, Nat.le_refl _, hk, CompG.start hx hk1 (by rw [hy, hxy]) hcp, rfl, rfl⟩, ⟨rfl, rfl, rfl, rfl, trivial⟩, rfl⟩ ?_
        rintro mm L h ⟨kk, k2, m, rfl, hk2, hk3, hC, rfl, rfl⟩
        have hms := hC.size
        have hlt := hC.lt
        refine wSeq ?_
        refine wSeq ?_
        refine wReg ?_  -- region 9
        refine sP rfl rfl rfl (pM rfl rfl) ?_  -- t29 := move t5
        refine sP rfl rfl rfl (pM rfl rfl) ?_  -- t30 := move t4
        refine sP rfl rfl rfl (p_len_x rfl rfl Tryz.underlying22) ?_  -- t31 := call   -- t30
        refine sP rfl rfl rfl (p_icmp rfl rfl rfl rfl) ?_  -- t32 := binOp t29 t31
        refine lNil ?_
        refine wCond rfl (fun hc4 => ?_) (fun hc4 => ?_)  -- t32
        · have hk4 : k + (k2 + 1) ≤ l.length := by have h := hc4; simp at h; omega
          obtain ⟨u1, hul⟩ : ∃ u, l[k + k2]? = some u := getL (by omega)
          obtain ⟨u2, hvl⟩ : ∃ u, l[k + k2 - 1]? = some u := getL (by omega)
          have hu : m[k + k2]? = some u1 := by rw [hC.high _ (by omega)]; exact hul
          have hv : m[k + k2 - 1]? = some u2 := by rw [hC.high _ (by omega)]; exact hvl
          have hz2 : IntKind.i64.wrap ((k2 : Int) - 1) = ((k2 - 1 : Nat) : Int) := by rw [wrapI (by omega) (by omega)]; omega
          refine wSkip ?_
          refine wSeq ?_
          refine wBlock ?_
          refine wSeq ?_
          refine wDraw 10 (by kernel_rfl) (by kernel_rfl) ?_  -- region 11
          refine sP rfl rfl rfl (pM rfl rfl) ?_  -- t35 := move t4
          refine sP rfl rfl rfl (pM rfl rfl) ?_  -- t36 := move t5
          refine sP rfl rfl rfl (p_indexAddr_ow (k2) rfl rfl Tryz.underlying22 ty36 rfl rfl (by omega)) ?_  -- t37 := indexAddr t35 t36
          refine sP rfl rfl rfl (pLdO 0 rfl rfl rfl ty36 (fLe (i := k + k2) (by omega) (by omega)) (fAt hu (by omega))) ?_  -- t38 := load t37
          refine sP rfl rfl rfl (pM rfl rfl) ?_  -- t39 := move t4
          refine sP rfl rfl rfl (pM rfl rfl) ?_  -- t40 := move t5
          refine sP rfl rfl rfl (p_iar rfl rfl rfl rfl) ?_  -- t41 := binOp t40 c
          refine sP rfl rfl rfl (p_indexAddr_ow (k2 - 1) rfl rfl Tryz.underlying22 ty36 rfl hz2 (by omega)) ?_  -- t42 := indexAddr t39 t41
          refine sP rfl rfl rfl (pLdO 0 rfl rfl rfl ty36 (fLe (i := k + k2 - 1) (by omega) (by omega)) (fAt hv (by omega))) ?_  -- t43 := load t42
          refine sP rfl rfl rfl (p_nes rfl rfl rfl rfl rfl guardF (fun w => eqF w u1 u2)) ?_  -- t44 := binOp t38 t43
          refine lTail ?_
          refine lNil ?_
          refine wCond rfl (fun hc5 => ?_) (fun hc5 => ?_)  -- t44
          · refine wSeq ?_
            refine wReg ?_  -- region 12
            refine sP rfl rfl rfl (pM rfl rfl) ?_  -- t45 := move t0
            refine sP rfl rfl rfl (pM rfl rfl) ?_  -- t46 := move t3
            refine sP rfl rfl rfl (pM rfl rfl) ?_  -- t47 := move t4
            refine sP rfl rfl rfl (pM rfl rfl) ?_  -- t48 := move t5
            refine sP rfl rfl rfl (p_indexAddr_ow (k2) rfl rfl Tryz.underlying22 ty36 rfl rfl (by omega)) ?_  -- t49 := indexAddr t47 t48
            refine sP rfl rfl rfl (pLdO 0 rfl rfl rfl ty36 (fLe (i := k + k2) (by omega) (by omega)) (fAt hu (by omega))) ?_  -- t50 := load t49
            refine sP rfl rfl rfl (p_indexAddr_ow (kk) rfl rfl Tryz.underlying22 ty36 rfl rfl (by omega)) ?_  -- t51 := indexAddr t45 t46
            refine sStore 0 rfl rfl rfl rfl rfl ty36 rfl rfl rfl (fLe (i := kk) (by omega) (by omega)) ?_  -- t := store t51 t50
            refine lNil ?_
            refine wReg ?_  -- region 13
            refine sP rfl rfl rfl (pM rfl rfl) ?_  -- t52 := move t3
            refine sP rfl rfl rfl (p_iar rfl rfl rfl rfl) ?_  -- t53 := binOp t52 c
            refine sP rfl rfl rfl (pA rfl rfl) ?_  -- t3 := assign t53
            refine lNil ?_
            refine wReg ?_  -- region 10
            refine sP rfl rfl rfl (pM rfl rfl) ?_  -- t33 := move t5
            refine sP rfl rfl rfl (p_iar rfl rfl rfl rfl) ?_  -- t34 := binOp t33 c
            refine sP rfl rfl rfl (pA rfl rfl) ?_  -- t5 := assign t34
            refine lNil ?_
            have hne : u1 ≠ u2 := by simpa using hc5
            refine ⟨_, _, [.cells g 36 ((m.set kk u1).flatMap encF ++ List.replicate (cap * 8 - l.length * 8) .any)], [], ?_, ⟨kk + 1, k2 + 1, m.set kk u1, rfl, by omega, hk4, hC.keep hul (by omega) hvl hne, rfl, rfl⟩, ⟨rfl, avI (wrapI (by omega) (by omega)), rfl, avI (wrapI (by omega) (by omega)), trivial⟩, ?_⟩
            · omega
            · show [HObj.cells g _ (spl _ (0 + kk * 8) _)] = _
              rw [Nat.zero_add, flat_spl encF8 (by omega)]
              rfl
          · refine wSkip ?_
            refine wReg ?_  -- region 10
            refine sP rfl rfl rfl (pM rfl rfl) ?_  -- t33 := move t5
            refine sP rfl rfl rfl (p_iar rfl rfl rfl rfl) ?_  -- t34 := binOp t33 c
            refine sP rfl rfl rfl (pA rfl rfl) ?_  -- t5 := assign t34
            refine lNil ?_
            have hne : u1 = u2 := by simpa using hc5
            refine ⟨_, _, [.cells g 36 (m.flatMap encF ++ List.replicate (cap * 8 - l.length * 8) .any)], [], ?_, ⟨kk, k2 + 1, m, rfl, by omega, hk4, hC.skip hul (by omega) (by rw [hvl, hne]), rfl, rfl⟩, ⟨rfl, rfl, rfl, avI (wrapI (by omega) (by omega)), trivial⟩, rfl⟩
            omega
        · have hk5 : k + k2 = l.length := by have h := hc4; simp at h; omega
          rw [hk5] at hC
          have hRl : (List.replicate (cap * 8 - l.length * 8) .any : List AV).length = cap * 8 - l.length * 8 := List.length_replicate
          refine wExit ?_
          refine wSeq ?_
          refine wReg ?_  -- region 14
          refine sP rfl rfl rfl (pM rfl rfl) ?_  -- t54 := move t0
          refine sP rfl rfl rfl (pM rfl rfl) ?_  -- t55 := move t3
          refine sP rfl rfl rfl (p_slice_ow kk l.length rfl rfl Tryz.underlying22 ty36 ⟨_, _, rfl, rfl⟩ rfl (by omega) (Nat.le_refl _) hnc (by omega)) ?_  -- t56 := slice t54
          refine sClear (k := 8) 0 rfl rfl rfl Tryz.underlying22 ze36 rfl (by decide) rfl rfl (by omega) (by rw [fLen]; omega) ?_  -- t := call 
          refine lNil ?_
          refine wSeq ?_
          refine wReg ?_  -- region 15
          refine sP rfl rfl rfl (pM rfl rfl) ?_  -- t57 := move t0
          refine sP rfl rfl rfl (pM rfl rfl) ?_  -- t58 := move t3
          refine sP rfl rfl rfl (p_slice_ow 0 kk rfl rfl Tryz.underlying22 ty36 rfl ⟨_, _, rfl, rfl⟩ (Nat.zero_le _) (by omega) hnc (by omega)) ?_  -- t59 := slice t57
          refine sP rfl rfl rfl (pA rfl rfl) ?_  -- t2 := assign t59
          refine lNil ?_
          refine wCellsRow 0 8 kk rfl (by omega) hcm (by simp only [List.length_append, List.length_take, List.length_replicate, flat_len_ encF8]; omega) ?_
          refine wRet ?_
          refine ⟨_, [_], [], rfl, ⟨_, rfl, ?_⟩, rgm_tmp (r := []) rfl Sub.refl⟩
          rw [factRow, ← hC.all.1, fRow rfl (by omega)]
          congr 2
          rw [hC.all.1, ← hC.all.2]
      · refine wSkip ?_
        refine wReg ?_  -- region 5
        refine sP rfl rfl rfl (pM rfl rfl) ?_  -- t14 := move t3
        refine sP rfl rfl rfl (p_iar rfl rfl rfl rfl) ?_  -- t15 := binOp t14 c
        refine sP rfl rfl rfl (pA rfl rfl) ?_  -- t3 := assign t15
        refine lNil ?_
        have hne : x ≠ y := by simpa using hc3
        refine ⟨_, _, [.cells g 36 (l.flatMap encF ++ List.replicate (cap * 8 - l.length * 8) .any)], [], ?_, ⟨k + 1, rfl, by omega, hk, compact_next hx hk1 hy hne hcp, rfl, rfl⟩, ⟨rfl, avI (wrapI (by omega) (by omega)), trivial⟩, rfl⟩
        omega
    · have hge : k = l.length := by have h := hc2; simp at h; omega
      rw [hge, List.take_length] at hcp
      refine wExit ?_
      refine wSeq ?_
      refine wReg ?_  -- region 16
      refine sP rfl rfl rfl (pM rfl rfl) ?_  -- t60 := move t0
      refine sP rfl rfl rfl (pA rfl rfl) ?_  -- t2 := assign t60
      refine lNil ?_
      refine wCellsRow 0 8 l.length rfl hnc hcm (by simp only [List.length_append, List.length_replicate, flat_len_ encF8]; omega) ?_
      refine wRet ?_
      refine ⟨_, [_], [], rfl, ⟨_, rfl, ?_⟩, rgm_tmp (r := []) rfl Sub.refl⟩
      rw [hcp, factRow, fRowAll]
end Go.Proofs.YtmhkalalcmkpbaaGreat
