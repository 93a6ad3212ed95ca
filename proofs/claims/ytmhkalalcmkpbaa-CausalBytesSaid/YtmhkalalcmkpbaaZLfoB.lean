/-
  Fcomp Fsort Frc Frs Fread Aw15 LfoB
-/
import Derived.Test.YtmhkalalcmkpbaaZC4
import Derived.Test.YtmhkalalcmkpbaaZC5
import Derived.Test.YtmhkalalcmkpbaaZC6
import Derived.Test.YtmhkalalcmkpbaaZFacBack2
import Derived.Test.YtmhkalalcmkpbaaZFlay
import Derived.Test.YtmhkalalcmkpbaaZFput
import Derived.Test.YtmhkalalcmkpbaaZFr
import Derived.Test.YtmhkalalcmkpbaaZFrb
import Derived.Test.YtmhkalalcmkpbaaZOrdC
import Derived.Test.YtmhkalalcmkpbaaZRdr
import Derived.Shelf.SlSortCmp.NoneTotal
import Derived.Laws.Small
namespace Go.Proofs.Ytmhkalalcmkpbaa
open Go Go.RowKit
set_option linter.unusedVariables false
set_option linter.unusedSimpArgs false

theorem encF8 (x : FactT) : (encF x).length = 8 := rfl
theorem fAt {l : List FactT} {rest : List AV} {i off : Nat} {x : FactT} (h : l[i]? = some x) (ho : off = i * 8) : ((l.flatMap encF ++ rest).drop off).take 8 = encF x := by
  subst ho; exact flat_at encF8 h
theorem fLen (l : List FactT) (rest : List AV) : (l.flatMap encF ++ rest).length = l.length * 8 + rest.length := by rw [List.length_append, flat_len_ encF8]
theorem fLe {l : List FactT} {rest : List AV} {i off : Nat} (h : i < l.length) (ho : off = i * 8) : off + 8 ≤ (l.flatMap encF ++ rest).length := by rw [fLen]; omega
theorem fRow {m : List FactT} {l : List FactT} {rest tail : List AV} {kk : Nat} (hm : m.take kk = l) (hk : kk ≤ m.length) : ((m.flatMap encF ++ rest).take (0 + kk * 8) ++ tail).take (kk * 8) = l.flatMap encF := by
  have e : (m.flatMap encF ++ rest).take (0 + kk * 8) = l.flatMap encF := by
    rw [Nat.zero_add, List.take_append_of_le_length (by rw [flat_len_ encF8]; exact Nat.mul_le_mul_right 8 hk), flat_take_ encF8, hm]
  have e2 : (l.flatMap encF).length = kk * 8 := by rw [flat_len_ encF8, ← hm, List.length_take, Nat.min_eq_left hk]
  rw [e, List.take_append_of_le_length (by omega), List.take_of_length_le (by omega)]
theorem fRowAll (l : List FactT) (rest : List AV) : (l.flatMap encF ++ rest).take (l.length * 8) = l.flatMap encF := by
  have e2 : (l.flatMap encF).length = l.length * 8 := flat_len_ encF8 l
  rw [← e2, List.take_left]
def factRow (v : Value) (l : List FactT) : HObj := .row v 87 8 l.length (l.flatMap encF)
def CmR (l : List FactT) (av : AV) (h' : List HObj) : Prop := ∃ v', av = .x v' ∧ h' = [factRow v' l]

set_option maxHeartbeats 1000000 in
set_option maxRecDepth 100000 in
theorem fcomp_m {K : Prop} (v : Value) (l : List FactT) (hn : l.length < 1000000) : MFn Try.prog K 114 [.x v] [factRow v l] (CmR (compact l)) := by
  refine mfn Try.func114 rfl (by kernel_rfl) 61 rfl _ rfl (Nat.le_of_ble_eq_true rfl) (fun X w0 => ?_)
  refine wSeq ?_
  refine wReg ?_
  refine sP rfl rfl rfl (pA rfl rfl) ?_
  refine lNil ?_
  refine wSeq ?_
  refine wSeq ?_
  refine wReg ?_
  refine sP rfl rfl rfl (pM rfl rfl) ?_
  refine sP rfl rfl rfl (p_len_row rfl rfl (List.mem_of_getElem? (i := 0) rfl) Try.underlying26) ?_
  refine sP rfl rfl rfl (p_icmp rfl rfl rfl rfl) ?_
  refine lNil ?_
  refine wCond rfl (fun hc1 => ?_) (fun hc1 => ?_)
  · refine wSeq ?_
    refine wReg ?_
    refine sP rfl rfl rfl (pM rfl rfl) ?_
    refine sP rfl rfl rfl (pA rfl rfl) ?_
    refine lNil ?_
    refine wRet ?_
    have h : l.length < 2 := by have h := hc1; simp at h; omega
    rw [compact_short h]
    exact ⟨_, [factRow v l], [], rfl, ⟨v, rfl, rfl⟩, rgm_tmp (r := []) rfl Sub.refl⟩
  · have h2 : 2 ≤ l.length := by have h := hc1; simp at h; omega
    refine wRowCells 0 rfl (by omega) (fun g cap hv hnc hcm => ?_)
    subst hv
    refine wSkip ?_
    refine wSeq ?_
    refine wSeq ?_
    refine wReg ?_
    refine sP rfl rfl rfl (pA rfl rfl) ?_
    refine lNil ?_
    refine wBlock ?_
    refine wLoop (fun mm L h => ∃ k, mm = l.length - k ∧ 1 ≤ k ∧ k ≤ l.length ∧ compact (l.take k) = l.take k ∧ L = [(0, .x (.slice (some ⟨g, 0, none⟩) l.length cap)), (3, iA (k : Nat))] ∧ h = [.cells g 87 (l.flatMap encF ++ List.replicate (cap * 8 - l.length * 8) .any)]) ⟨_, _, _, _, ⟨1, rfl, Nat.le_refl _, by omega, compact_short (by rw [List.length_take]; omega), rfl, rfl⟩, ⟨rfl, rfl, trivial⟩, rfl⟩ ?_
    rintro mm L h ⟨k, rfl, hk1, hkn, hcp, rfl, rfl⟩
    refine wSeq ?_
    refine wSeq ?_
    refine wReg ?_
    refine sP rfl rfl rfl (pM rfl rfl) ?_
    refine sP rfl rfl rfl (pM rfl rfl) ?_
    refine sP rfl rfl rfl (p_len_x rfl rfl Try.underlying26) ?_
    refine sP rfl rfl rfl (p_icmp rfl rfl rfl rfl) ?_
    refine lNil ?_
    refine wCond rfl (fun hc2 => ?_) (fun hc2 => ?_)
    · have hk : k < l.length := by have h := hc2; simp at h; omega
      obtain ⟨x, hx⟩ := getL hk
      obtain ⟨y, hy⟩ := getL (l := l) (i := k - 1) (by omega)
      have hz : IntKind.i64.wrap ((k : Int) - 1) = ((k - 1 : Nat) : Int) := by rw [wrapI (by omega) (by omega)]; omega
      refine wSkip ?_
      refine wSeq ?_
      refine wBlock ?_
      refine wSeq ?_
      refine wDraw 10 (by kernel_rfl) (by kernel_rfl) ?_
      refine sP rfl rfl rfl (pM rfl rfl) ?_
      refine sP rfl rfl rfl (pM rfl rfl) ?_
      refine sP rfl rfl rfl (p_indexAddr_ow (k) rfl rfl Try.underlying26 ty87 rfl rfl hk) ?_
      refine sP rfl rfl rfl (pLdO 0 rfl rfl rfl ty87 (fLe hk (by omega)) (fAt hx (by omega))) ?_
      refine sP rfl rfl rfl (pM rfl rfl) ?_
      refine sP rfl rfl rfl (pM rfl rfl) ?_
      refine sP rfl rfl rfl (p_iar rfl rfl rfl rfl) ?_
      refine sP rfl rfl rfl (p_indexAddr_ow (k - 1) rfl rfl Try.underlying26 ty87 rfl hz (by omega)) ?_
      refine sP rfl rfl rfl (pLdO 0 rfl rfl rfl ty87 (fLe (i := k - 1) (by omega) (by omega)) (fAt hy (by omega))) ?_
      refine sP rfl rfl rfl (p_eqs rfl rfl rfl rfl rfl guardF (fun w => eqF w x y)) ?_
      refine lTail ?_
      refine lNil ?_
      refine wCond rfl (fun hc3 => ?_) (fun hc3 => ?_)
      · have hxy : x = y := by simpa using hc3
        refine wSeq ?_
        refine wReg ?_
        refine sP rfl rfl rfl (pM rfl rfl) ?_
        refine sP rfl rfl rfl (pM rfl rfl) ?_
        refine sP rfl rfl rfl (p_slice_ow k l.length rfl rfl Try.underlying26 ty87 ⟨_, _, rfl, rfl⟩ rfl (by omega) (Nat.le_refl _) hnc (by omega)) ?_
        refine sP rfl rfl rfl (pA rfl rfl) ?_
        refine lNil ?_
        refine wSeq ?_
        refine wSeq ?_
        refine wReg ?_
        refine sP rfl rfl rfl (pA rfl rfl) ?_
        refine lNil ?_
        refine wBlock ?_
        refine wLoop (fun mm L h => ∃ kk k2 m, mm = l.length - (k + k2) ∧ 1 ≤ k2 ∧ k + k2 ≤ l.length ∧ CompG l m (k + k2) kk ∧ L = [(0, .x (.slice (some ⟨g, 0, none⟩) l.length cap)), (3, iA (kk : Nat)), (4, .x (.slice (some ⟨g, 0 + k * 8, none⟩) (l.length - k) (cap - k))), (5, iA (k2 : Nat))] ∧ h = [.cells g 87 (m.flatMap encF ++ List.replicate (cap * 8 - l.length * 8) .any)]) ⟨_, _, _, _, ⟨k, 1, l, rfl, Nat.le_refl _, hk, CompG.start hx hk1 (by rw [hy, hxy]) hcp, rfl, rfl⟩, ⟨rfl, rfl, rfl, rfl, trivial⟩, rfl⟩ ?_
        rintro mm L h ⟨kk, k2, m, rfl, hk2, hk3, hC, rfl, rfl⟩
        have hms := hC.size
        have hlt := hC.lt
        refine wSeq ?_
        refine wSeq ?_
        refine wReg ?_
        refine sP rfl rfl rfl (pM rfl rfl) ?_
        refine sP rfl rfl rfl (pM rfl rfl) ?_
        refine sP rfl rfl rfl (p_len_x rfl rfl Try.underlying26) ?_
        refine sP rfl rfl rfl (p_icmp rfl rfl rfl rfl) ?_
        refine lNil ?_
        refine wCond rfl (fun hc4 => ?_) (fun hc4 => ?_)
        · have hk4 : k + (k2 + 1) ≤ l.length := by have h := hc4; simp at h; omega
          obtain ⟨u1, hul⟩ : ∃ u, l[k + k2]? = some u := getL (by omega)
          obtain ⟨u2, hvl⟩ : ∃ u, l[k + k2 - 1]? = some u := getL (by omega)
          have hu : m[k + k2]? = some u1 := by rw [hC.high _ (by omega)]; exact hul
          have hv : m[k + k2 - 1]? = some u2 := by rw [hC.high _ (by omega)]; exact hvl
          have hz2 : IntKind.i64.wrap ((k2 : Int) - 1) = ((k2 - 1 : Nat) : Int) := by rw [wrapI (by omega) (by omega)]; omega
          refine wSkip ?_
          refine wSeq ?_
          refine wBlock ?_
          refine wSeq ?_
          refine wDraw 10 (by kernel_rfl) (by kernel_rfl) ?_
          refine sP rfl rfl rfl (pM rfl rfl) ?_
          refine sP rfl rfl rfl (pM rfl rfl) ?_
          refine sP rfl rfl rfl (p_indexAddr_ow (k2) rfl rfl Try.underlying26 ty87 rfl rfl (by omega)) ?_
          refine sP rfl rfl rfl (pLdO 0 rfl rfl rfl ty87 (fLe (i := k + k2) (by omega) (by omega)) (fAt hu (by omega))) ?_
          refine sP rfl rfl rfl (pM rfl rfl) ?_
          refine sP rfl rfl rfl (pM rfl rfl) ?_
          refine sP rfl rfl rfl (p_iar rfl rfl rfl rfl) ?_
          refine sP rfl rfl rfl (p_indexAddr_ow (k2 - 1) rfl rfl Try.underlying26 ty87 rfl hz2 (by omega)) ?_
          refine sP rfl rfl rfl (pLdO 0 rfl rfl rfl ty87 (fLe (i := k + k2 - 1) (by omega) (by omega)) (fAt hv (by omega))) ?_
          refine sP rfl rfl rfl (p_nes rfl rfl rfl rfl rfl guardF (fun w => eqF w u1 u2)) ?_
          refine lTail ?_
          refine lNil ?_
          refine wCond rfl (fun hc5 => ?_) (fun hc5 => ?_)
          · refine wSeq ?_
            refine wReg ?_
            refine sP rfl rfl rfl (pM rfl rfl) ?_
            refine sP rfl rfl rfl (pM rfl rfl) ?_
            refine sP rfl rfl rfl (pM rfl rfl) ?_
            refine sP rfl rfl rfl (pM rfl rfl) ?_
            refine sP rfl rfl rfl (p_indexAddr_ow (k2) rfl rfl Try.underlying26 ty87 rfl rfl (by omega)) ?_
            refine sP rfl rfl rfl (pLdO 0 rfl rfl rfl ty87 (fLe (i := k + k2) (by omega) (by omega)) (fAt hu (by omega))) ?_
            refine sP rfl rfl rfl (p_indexAddr_ow (kk) rfl rfl Try.underlying26 ty87 rfl rfl (by omega)) ?_
            refine sStore 0 rfl rfl rfl rfl rfl ty87 rfl rfl rfl (fLe (i := kk) (by omega) (by omega)) ?_
            refine lNil ?_
            refine wReg ?_
            refine sP rfl rfl rfl (pM rfl rfl) ?_
            refine sP rfl rfl rfl (p_iar rfl rfl rfl rfl) ?_
            refine sP rfl rfl rfl (pA rfl rfl) ?_
            refine lNil ?_
            refine wReg ?_
            refine sP rfl rfl rfl (pM rfl rfl) ?_
            refine sP rfl rfl rfl (p_iar rfl rfl rfl rfl) ?_
            refine sP rfl rfl rfl (pA rfl rfl) ?_
            refine lNil ?_
            have hne : u1 ≠ u2 := by simpa using hc5
            refine ⟨_, _, [.cells g 87 ((m.set kk u1).flatMap encF ++ List.replicate (cap * 8 - l.length * 8) .any)], [], ?_, ⟨kk + 1, k2 + 1, m.set kk u1, rfl, by omega, hk4, hC.keep hul (by omega) hvl hne, rfl, rfl⟩, ⟨rfl, avI (wrapI (by omega) (by omega)), rfl, avI (wrapI (by omega) (by omega)), trivial⟩, ?_⟩
            · omega
            · show [HObj.cells g _ (spl _ (0 + kk * 8) _)] = _
              rw [Nat.zero_add, flat_spl encF8 (by omega)]
              rfl
          · refine wSkip ?_
            refine wReg ?_
            refine sP rfl rfl rfl (pM rfl rfl) ?_
            refine sP rfl rfl rfl (p_iar rfl rfl rfl rfl) ?_
            refine sP rfl rfl rfl (pA rfl rfl) ?_
            refine lNil ?_
            have hne : u1 = u2 := by simpa using hc5
            refine ⟨_, _, [.cells g 87 (m.flatMap encF ++ List.replicate (cap * 8 - l.length * 8) .any)], [], ?_, ⟨kk, k2 + 1, m, rfl, by omega, hk4, hC.skip hul (by omega) (by rw [hvl, hne]), rfl, rfl⟩, ⟨rfl, rfl, rfl, avI (wrapI (by omega) (by omega)), trivial⟩, rfl⟩
            omega
        · have hk5 : k + k2 = l.length := by have h := hc4; simp at h; omega
          rw [hk5] at hC
          have hRl : (List.replicate (cap * 8 - l.length * 8) .any : List AV).length = cap * 8 - l.length * 8 := List.length_replicate
          refine wExit ?_
          refine wSeq ?_
          refine wReg ?_
          refine sP rfl rfl rfl (pM rfl rfl) ?_
          refine sP rfl rfl rfl (pM rfl rfl) ?_
          refine sP rfl rfl rfl (p_slice_ow kk l.length rfl rfl Try.underlying26 ty87 ⟨_, _, rfl, rfl⟩ rfl (by omega) (Nat.le_refl _) hnc (by omega)) ?_
          refine sClear (k := 8) 0 rfl rfl rfl Try.underlying26 ze87 rfl (by decide) rfl rfl (by omega) (by rw [fLen]; omega) ?_
          refine lNil ?_
          refine wSeq ?_
          refine wReg ?_
          refine sP rfl rfl rfl (pM rfl rfl) ?_
          refine sP rfl rfl rfl (pM rfl rfl) ?_
          refine sP rfl rfl rfl (p_slice_ow 0 kk rfl rfl Try.underlying26 ty87 rfl ⟨_, _, rfl, rfl⟩ (Nat.zero_le _) (by omega) hnc (by omega)) ?_
          refine sP rfl rfl rfl (pA rfl rfl) ?_
          refine lNil ?_
          refine wCellsRow 0 8 kk rfl (by omega) hcm (by simp only [List.length_append, List.length_take, List.length_replicate, flat_len_ encF8]; omega) ?_
          refine wRet ?_
          refine ⟨_, [_], [], rfl, ⟨_, rfl, ?_⟩, rgm_tmp (r := []) rfl Sub.refl⟩
          rw [factRow, ← hC.all.1, fRow rfl (by omega)]
          congr 2
          rw [hC.all.1, ← hC.all.2]
      · refine wSkip ?_
        refine wReg ?_
        refine sP rfl rfl rfl (pM rfl rfl) ?_
        refine sP rfl rfl rfl (p_iar rfl rfl rfl rfl) ?_
        refine sP rfl rfl rfl (pA rfl rfl) ?_
        refine lNil ?_
        have hne : x ≠ y := by simpa using hc3
        refine ⟨_, _, [.cells g 87 (l.flatMap encF ++ List.replicate (cap * 8 - l.length * 8) .any)], [], ?_, ⟨k + 1, rfl, by omega, hk, compact_next hx hk1 hy hne hcp, rfl, rfl⟩, ⟨rfl, avI (wrapI (by omega) (by omega)), trivial⟩, rfl⟩
        omega
    · have hge : k = l.length := by have h := hc2; simp at h; omega
      rw [hge, List.take_length] at hcp
      refine wExit ?_
      refine wSeq ?_
      refine wReg ?_
      refine sP rfl rfl rfl (pM rfl rfl) ?_
      refine sP rfl rfl rfl (pA rfl rfl) ?_
      refine lNil ?_
      refine wCellsRow 0 8 l.length rfl hnc hcm (by simp only [List.length_append, List.length_replicate, flat_len_ encF8]; omega) ?_
      refine wRet ?_
      refine ⟨_, [_], [], rfl, ⟨_, rfl, ?_⟩, rgm_tmp (r := []) rfl Sub.refl⟩
      rw [hcp, factRow, fRowAll]
end Go.Proofs.Ytmhkalalcmkpbaa

namespace Go.Proofs.Ytmhkalalcmkpbaa
open Go Go.Shelf Go.RowKit
open Go.Sort (HoldsK size_flatK get_flatK size_putRowK putRowK PermIn SortedIn flatK)
set_option linter.unusedVariables false
set_option linter.unusedSimpArgs false

theorem CmR.one {l : List FactT} {av : AV} {h' : List HObj} (h : CmR l av h') : ∃ p, h' = [p] := by
  obtain ⟨v, _, h2⟩ := h; exact ⟨_, h2⟩
theorem CmR.pq {l : List FactT} {av : AV} {p : HObj} (h : CmR l av [p]) : ∃ v', av = .x v' ∧ p = factRow v' l := by
  obtain ⟨v, h1, h2⟩ := h; exact ⟨v, h1, by simpa using h2⟩

set_option maxRecDepth 100000 in
theorem fclone_m {K : Prop} (l : List FactT) (hn : l.length < 1000000) : MFn Try.prog K 111 [slF l] [] (CmR l) := by
  refine mfn Try.func111 rfl (by kernel_rfl) 8 rfl _ rfl (Nat.le_of_ble_eq_true rfl) (fun X w0 => ?_)
  refine wSeq ?_
  refine wReg ?_
  refine sP rfl rfl rfl (pA rfl rfl) ?_
  refine lNil ?_
  refine wSeq ?_
  refine wSeq ?_
  refine wReg ?_
  refine sP rfl rfl rfl (pMs rfl rfl) ?_
  refine sSlNil rfl rfl rfl rfl rfl Try.underlying26 (fun b hbn => ?_)
  refine lNil ?_
  refine wCond rfl (fun hc1 => ?_) (fun hc1 => ?_)
  · refine wNilrow 87 8 ?_
    refine wSeq ?_
    refine wReg ?_
    refine sP rfl rfl rfl (pA rfl rfl) ?_
    refine lNil ?_
    refine wRet ?_
    have hl : l = [] := by
      have := hbn hc1
      exact List.eq_nil_of_length_eq_zero (by omega)
    subst hl
    exact ⟨_, [factRow (.slice none 0 0) []], [], rfl, ⟨_, rfl, rfl⟩, rgm_tmp (r := []) rfl Sub.refl⟩
  · refine wSkip ?_
    refine wSeq ?_
    refine wReg ?_
    refine sBuild0 rfl rfl rfl rfl ze87 Try.underlying26 ty87 (by decide) (fun v5 => ?_)
    refine sP rfl rfl rfl (pMs rfl rfl) ?_
    refine sAppendL (enc := encF) (l := []) 0 l rfl rfl rfl rfl Try.underlying26 ro87 rfl rfl rfl (fun _ => rfl) (by rw [List.length_nil]; omega) (by rw [List.length_nil]; omega) (fun v7 => ?_)
    refine sP rfl rfl rfl (pA rfl rfl) ?_
    refine lNil ?_
    refine wRet ?_
    exact ⟨_, [factRow v7 ([] ++ l)], [], rfl, ⟨v7, rfl, rfl⟩, rgm_tmp (r := []) rfl Sub.refl⟩

theorem flat_getG {α β : Type} {enc : α → List β} {k : Nat} (hk : ∀ x, (enc x).length = k) : ∀ (l : List α) (i j : Nat) (x : α), l[i]? = some x → j < k → (l.flatMap enc)[i * k + j]? = (enc x)[j]?
  | [], i, j, x, h, _ => by simp at h
  | y :: l, 0, j, x, h, hj => by
    obtain rfl : y = x := by simpa using h
    rw [List.flatMap_cons, Nat.zero_mul, Nat.zero_add, List.getElem?_append_left (by rw [hk]; exact hj)]
  | y :: l, i + 1, j, x, h, hj => by
    rw [List.flatMap_cons, List.getElem?_append_right (by rw [hk, Nat.add_mul, Nat.one_mul]; omega), hk, show (i + 1) * k + j - k = i * k + j by rw [Nat.add_mul, Nat.one_mul]; omega]
    exact flat_getG hk l i j x (by simpa using h) hj
theorem flat_lenG {α β : Type} {enc : α → List β} {k : Nat} (hk : ∀ x, (enc x).length = k) : ∀ l : List α, (l.flatMap enc).length = l.length * k
  | [] => by simp
  | x :: l => by rw [List.flatMap_cons, List.length_append, hk, flat_lenG hk l, List.length_cons, Nat.add_mul, Nat.one_mul, Nat.add_comm]
theorem encV8 (x : FactT) : (encV x).length = 8 := rfl
theorem flatV (d : Array FactT) (j : Nat) (h : j < d.size * 8) : (d.toList.flatMap encV)[j]? = some ((flatK encV 8 d)[j]!) := by
  have hi : j / 8 < d.toList.length := by rw [Array.length_toList]; omega
  have e := flat_getG encV8 d.toList (j / 8) (j % 8) _ (List.getElem?_eq_getElem hi) (Nat.mod_lt _ (by decide))
  rw [show j / 8 * 8 + j % 8 = j by omega] at e
  rw [e, get_flatK _ _ _ _ h]
  have hi2 : j / 8 < d.size := by simpa using hi
  have e2 : d[j / 8]! = d.toList[j / 8] := by simp [hi2]
  rw [e2]
  have hm : j % 8 < (encV d.toList[j / 8]).length := by rw [encV8]; exact Nat.mod_lt _ (by decide)
  rw [List.getElem?_eq_getElem hm]
  congr 1
  exact (getElem!_pos (encV d.toList[j / 8]) (j % 8) hm).symm
theorem vals_flat (l : List FactT) : AV.vals (l.flatMap encF) = l.flatMap encV ∧ AV.exL (l.flatMap encF) = true := by
  have app : ∀ a b : List AV, AV.vals (a ++ b) = AV.vals a ++ AV.vals b ∧ (AV.exL a = true → AV.exL b = true → AV.exL (a ++ b) = true) := by
    intro a b
    induction a with
    | nil => exact ⟨rfl, fun _ h => h⟩
    | cons c a ih =>
      refine ⟨by simp only [List.cons_append, AV.vals, ih.1], fun h1 h2 => ?_⟩
      simp only [AV.exL, Bool.and_eq_true] at h1
      simp only [List.cons_append, AV.exL, Bool.and_eq_true]
      exact ⟨h1.1, ih.2 h1.2 h2⟩
  induction l with
  | nil => exact ⟨rfl, rfl⟩
  | cons x l ih =>
    rw [List.flatMap_cons, List.flatMap_cons]
    exact ⟨by rw [(app _ _).1, ih.1]; rfl, (app _ _).2 rfl ih.2⟩
theorem vals_rep {O : Nat → Prop} {w : World} (l : List FactT) : RepC O w (l.flatMap encF) (fun j => (l.flatMap encV)[j]?) :=
  (AV.repC_vals_ (l.flatMap encF) (vals_flat l).2 _ (by rw [flat_lenG encV8, flat_lenG encF8])).2 (vals_flat l).1.symm

def SfR (l : List FactT) (v : Value) (av : AV) (h' : List HObj) : Prop := av = .tup [] ∧ ∃ s, s.Perm l ∧ s.Pairwise (fun a b => ltF b a = false) ∧ h' = [factRow v s]
theorem SfR.one {l : List FactT} {v : Value} {av : AV} {h' : List HObj} (h : SfR l v av h') : ∃ p, h' = [p] := by
  obtain ⟨_, s, _, _, h2⟩ := h; exact ⟨_, h2⟩
theorem SfR.pq {l : List FactT} {v : Value} {av : AV} {p : HObj} (h : SfR l v av [p]) : av = .tup [] ∧ ∃ s, s.Perm l ∧ s.Pairwise (fun a b => ltF b a = false) ∧ p = factRow v s := by
  obtain ⟨h1, s, h2, h3, h4⟩ := h; exact ⟨h1, s, h2, h3, by simpa using h4⟩
theorem sort_enter (args : Array Value) (w : World) : (callFunc 112 args).run Try.prog w = .ok (.enter 112 args) w := enter_of Try.func112 (by kernel_rfl) rfl args w
theorem fsortf_m (v : Value) (l : List FactT) (hn : l.length < 1000000) : MFn Try.prog False 112 [.x v, .x (.func (.func 113) #[] #[])] [factRow v l] (SfR l v) := by
  refine ⟨sort_enter, fun O w args env hl hr => ?_⟩
  have hargs : args = #[v, .func (.func 113) #[] #[]] := by
    apply Array.ext'
    have := (AV.repC_vals_ (O := owned O [factRow v l]) (w := w) [.x v, .x (.func (.func 113) #[] #[])] rfl args.toList (by simpa using hl)).1 (by
      have e : (fun j => args.toList[j]?) = (fun j => args[j]?) := funext fun j => Array.getElem?_toList
      rw [e]; exact hr)
    rw [this]; rfl
  subst hargs
  obtain ⟨vs, hown, hvl, hvr⟩ := env.objs (factRow v l) (by simp)
  have hvs : vs = l.flatMap encV := by
    rw [← (vals_flat l).1]
    exact (AV.repC_vals_ (l.flatMap encF) (vals_flat l).2 vs hvl).1 hvr
  subst hvs
  by_cases h0 : l.length = 0
  · have hl0 : l = [] := List.eq_nil_of_length_eq_zero h0
    subst hl0
    have hv : ∃ p cap, v = .slice p 0 cap := by
      rcases hown.2 with ⟨rfl, _⟩ | ⟨g, cap, cur, rfl, _⟩
      · exact ⟨_, _, rfl⟩
      · exact ⟨_, _, rfl⟩
    obtain ⟨p, cap, rfl⟩ := hv
    refine (AnyF.slices_SortFunc_none sortFact p cap _ w).mono ?_
    rintro e w' ⟨rfl, rfl⟩
    exact ⟨_, _, _, rfl, ⟨rfl, [], .refl _, .nil, rfl⟩, env, by simp only [Rep]; exact ⟨_, rfl, rfl, by simp [RepC]⟩⟩
  · rcases hown.2 with ⟨rfl, h1⟩ | ⟨g, cap, cur, rfl, hb, hh, hnc, hcm, hsz, htk⟩
    · exact absurd h1 h0
    have hd : l.toArray.size = l.length := by simp
    have hH : HoldsK encV 8 w g 0 l.toArray := by
      intro j hj
      rw [size_flatK, hd] at hj
      have h1 : w.cell? ⟨g, 0 + j, none⟩ = some ((flatK encV 8 l.toArray)[j]!) := by
        have := hown.cells (g := g) rfl j _ (flatV l.toArray j (by rw [hd]; exact hj))
        rw [add_plain] at this
        exact this
      exact ⟨h1, by simp [World.frozen?, hh]⟩
    have hlt := (Array.getElem?_eq_some_iff.1 hh).1
    have h := sortf_c g 0 cap l.toArray w hH hlt (by rw [hd]; omega)
    rw [hd] at h
    refine h.mono ?_
    rintro e w' ⟨rfl, d', q, os, hp, hs, hw⟩
    have hds : d'.size = l.length := by have := hp.1; rw [hd] at this; exact this
    have hperm : d'.toList.Perm l := by
      have h3 := hp.2.2
      rw [← hds] at h3
      have e1 : d'.extract 0 d'.size = d' := by simp
      have e2 : l.toArray.extract 0 d'.size = l.toArray := by rw [hds, ← hd]; simp
      rw [e1, e2] at h3
      simpa using h3
    have hpw : d'.toList.Pairwise (fun a b => ltF b a = false) := by
      rw [List.pairwise_iff_getElem]
      intro i j hi hj hij
      have h3 := hs i j (Nat.zero_le _) hij (by simp at hj; omega)
      rw [flt_of] at h3
      have hi' : i < d'.size := by simpa using hi
      have hj' : j < d'.size := by simpa using hj
      simpa [hi', hj'] using h3
    have hgr : w.grownBy w' (some g) := by
      rw [hw]
      refine ⟨rfl, rfl, rfl, ?_, fun k hk hne => ?_⟩
      · show w.heap.size ≤ (Sort.grow _ os).heap.size
        rw [Sort.size_grow, size_putRowK]
        show w.heap.size ≤ w.heap.size + _
        omega
      · show (Sort.grow _ os).heap[k]? = _
        rw [Sort.heap_grow_old _ _ (by rw [size_putRowK]; exact hk)]
        show (w.heap.modify g _)[k]? = _
        rw [Array.getElem?_modify, if_neg (by rintro rfl; exact hne rfl)]
    have hheap : w'.heap[g]? = some (.cells (Sort.putCells id 0 (flatK encV 8 d') cur) 87 (0, 0)) := by
      rw [hw]
      show (Sort.grow _ os).heap[g]? = _
      rw [Sort.heap_grow_old _ _ (by rw [size_putRowK]; exact hlt)]
      simp [putRowK, Sort.putRow, Sort.mapBlock, Sort.ahead, Array.getElem?_modify, hh, Sort.onCells]
    have hlen2 : d'.toList.length = l.length := by rw [Array.length_toList, hds]
    have hown' : w'.ownsRow 0 87 8 (.slice (some ⟨g, 0, none⟩) l.length cap) l.length (d'.toList.flatMap encV) := by
      refine ⟨by rw [flat_lenG encV8, hlen2], .inr ⟨g, cap, _, rfl, Nat.zero_le _, hheap, hnc, hcm, by simpa [Sort.putCells] using hsz, ?_⟩⟩
      apply List.ext_getElem?
      intro j
      rw [List.getElem?_take, Array.getElem?_toList]
      by_cases hj : j < l.length * 8
      · have hjc : j < cur.size := by rw [hsz]; have := Nat.mul_le_mul_right 8 hnc; omega
        rw [if_pos hj, flatV d' j (by rw [hds]; exact hj)]
        simp only [Sort.putCells, Array.getElem?_mapIdx, Array.getElem?_eq_getElem hjc, Option.map_some]
        rw [if_pos (by rw [size_flatK, hds]; omega)]
        simp
      · rw [if_neg hj, List.getElem?_eq_none (by rw [flat_lenG encV8, hlen2]; omega)]
    have e5 : factRow (.slice (some ⟨g, 0, none⟩) l.length cap) d'.toList = .row (.slice (some ⟨g, 0, none⟩) l.length cap) 87 8 l.length (d'.toList.flatMap encF) := by rw [factRow, hlen2]
    refine ⟨_, _, [factRow (.slice (some ⟨g, 0, none⟩) l.length cap) d'.toList], rfl, ⟨rfl, _, hperm, hpw, rfl⟩, ?_, by simp only [Rep]; exact ⟨_, rfl, rfl, by simp [RepC]⟩⟩
    have := Env.set_ (q := factRow (.slice (some ⟨g, 0, none⟩) l.length cap) d'.toList) env (i := 0) rfl hgr (fun h => h.elim) (by rw [e5]; exact ⟨_, hown', by rw [flat_lenG encV8, flat_lenG encF8], vals_rep _⟩) (fun c hc => .inl hc) (fun c hc => by
      obtain rfl : g = c := by simpa [factRow, HObj.blk, Value.ownBlock] using hc
      exact Nat.lt_of_lt_of_le hlt hgr.size)
    exact this

set_option maxRecDepth 100000 in
theorem fsort_p (l : List FactT) (hn : l.length < 1000000) : PFn Try.prog False 46 [slF l] (slF (sortK ltF l)) := by
  refine pfn Try.func46 rfl (by kernel_rfl) 10 rfl _ rfl (Nat.le_of_ble_eq_true rfl) (fun X w0 => ?_)
  refine wSeq ?_
  refine wReg ?_
  refine sP rfl rfl rfl (pA rfl rfl) ?_
  refine lNil ?_
  refine wSeq ?_
  refine wReg ?_
  refine sP rfl rfl rfl (pMs rfl rfl) ?_
  refine sM0 rfl rfl rfl rfl (fclone_m l hn) ⟨Sub.refl, trivial⟩ (fun _ _ h => h.one) (fun av q hr => ?_)
  obtain ⟨v, rfl, rfl⟩ := hr.pq
  refine sP rfl rfl rfl (pA rfl rfl) ?_
  refine lNil ?_
  refine wSeq ?_
  refine wReg ?_
  refine sP rfl rfl rfl (pM rfl rfl) ?_
  refine sM1 0 rfl rfl rfl (fsortf_m v l hn) ⟨Sub.refl, Sub.refl, trivial⟩ (fun _ _ h => h.one) (fun av q hr => ?_)
  obtain ⟨rfl, s, hperm, hpw, rfl⟩ := hr.pq
  refine lNil ?_
  refine wSeq ?_
  refine wReg ?_
  refine sP rfl rfl rfl (pM rfl rfl) ?_
  refine sM1 0 rfl rfl rfl (fcomp_m v s (by rw [hperm.length_eq]; exact hn)) ⟨Sub.refl, trivial⟩ (fun _ _ h => h.one) (fun av q hr => ?_)
  obtain ⟨v2, rfl, rfl⟩ := hr.pq
  refine sP rfl rfl rfl (pA rfl rfl) ?_
  refine lNil ?_
  refine wRet ?_
  rw [compact_sortK stoF l s hperm hpw]
  exact rgs1 (rg_tmp (gives_row (List.mem_of_getElem? (i := 0) rfl)))
end Go.Proofs.Ytmhkalalcmkpbaa

namespace Go.Proofs.Ytmhkalalcmkpbaa
open Go Go.RowKit
set_option linter.unusedVariables false
set_option linter.unusedSimpArgs false

theorem freadE_long {s : ByteArray} (h : 4096 < (rdN (s, 0)).1) : freadE s = 3 := if_pos h
theorem freadE_done {s : ByteArray} (h : ¬ 4096 < (rdN (s, 0)).1) (h2 : doneE (rF s).2 ≠ 0) : freadE s = doneE (rF s).2 := by unfold freadE; rw [if_neg h, if_pos h2]
theorem freadE_may {s : ByteArray} (h : ¬ 4096 < (rdN (s, 0)).1) (h2 : doneE (rF s).2 = 0) : freadE s = mayG chkF ltF (rF s).1 := by unfold freadE; rw [if_neg h, if_neg (by simpa using h2)]
theorem freadL_err {s : ByteArray} (h : freadE s ≠ 0) : freadL s = [] := if_pos h
theorem freadL_ok {s : ByteArray} (h : freadE s = 0) : freadL s = (rF s).1 := if_neg (by simpa using h)
theorem sub_nilF {l : List FactT} (h : l = []) : Sub (.x (.slice none 0 0)) (slF l) := by subst h; exact Sub.nil_
/-- What the loop has read, and what is left. -/
structure RdI (s : ByteArray) (i : Nat) (acc : List FactT) (st : ByteArray × Int) : Prop where
  len : acc.length = i
  le : i ≤ (rdN (s, 0)).1
  size : st.1.size < 9223372036854775807
  eq : rF s = (acc ++ (rdFs ((rdN (s, 0)).1 - i) st).1, (rdFs ((rdN (s, 0)).1 - i) st).2)
theorem RdI.start {s : ByteArray} (hs : s.size < 9223372036854775807) : RdI s 0 [] (rdN (s, 0)).2 := ⟨rfl, Nat.zero_le _, Nat.lt_of_le_of_lt (rdN_size (s, 0)) hs, rfl⟩
theorem RdI.step {s : ByteArray} {i : Nat} {acc : List FactT} {st : ByteArray × Int} (h : RdI s i acc st) (hi : i < (rdN (s, 0)).1) (he : st.2 = 0) : RdI s (i + 1) (acc ++ [(rdF st).1]) (rdF st).2 := by
  refine ⟨by simp [h.len], hi, Nat.lt_of_le_of_lt (rF7_size st).2.2.2.2.2.2 h.size, ?_⟩
  rw [h.eq, show (rdN (s, 0)).1 - i = ((rdN (s, 0)).1 - (i + 1)) + 1 by omega, rdFs_step _ _ he]
  simp
theorem RdI.stop {s : ByteArray} {i : Nat} {acc : List FactT} {st : ByteArray × Int} (h : RdI s i acc st) (hb : (decide ((i : Int) < ((rdN (s, 0)).1 : Nat)) && decide (st.2 = 0)) = false) : rF s = (acc, st) := by
  have e : rdFs ((rdN (s, 0)).1 - i) st = ([], st) := by
    by_cases hi : i < (rdN (s, 0)).1
    · have : ¬ st.2 = 0 := by
        intro hz
        rw [decide_eq_true hz, Bool.and_true, decide_eq_false_iff_not] at hb
        omega
      exact rdFs_stop _ _ this
    · rw [show (rdN (s, 0)).1 - i = 0 by omega]; rfl
  rw [h.eq, e]; simp
theorem RdI.ok {s : ByteArray} {i : Nat} {acc : List FactT} {st : ByteArray × Int} (h : RdI s i acc st) : ∀ f ∈ acc, okF f := fun f hf => by
  have := rdFs_ok (rdN (s, 0)).1 (rdN (s, 0)).2 f
  have e := h.eq
  unfold rF at e
  rw [e] at this
  exact this (by simp [hf])
theorem and_t {a b : Bool} (h : (a && b) = true) : a = true ∧ b = true := by simpa using h
theorem snoc_flat (acc : List FactT) (d : FactT) : (acc ++ [d]).flatMap encF = acc.flatMap encF ++ encF d := by simp

set_option maxRecDepth 100000 in
theorem rfread_p (s : ByteArray) (hs : s.size < 9223372036854775807) : PFn Try.prog False 44 [sA s] (.tup [slF (freadL s), iA (freadE s)]) := by
  refine pfn Try.func44 rfl (by kernel_rfl) 56 rfl _ rfl (Nat.le_of_ble_eq_true rfl) (fun X w0 => ?_)
  refine wSeq ?_
  refine wReg ?_
  refine sP rfl rfl rfl (pA rfl rfl) ?_
  refine sP rfl rfl rfl (pA rfl rfl) ?_
  refine lNil ?_
  refine wSeq ?_
  refine wReg ?_
  refine sP rfl rfl rfl (pM rfl rfl) ?_
  refine sP rfl rfl rfl (p_build rfl ze127 pl127 rfl rfl) ?_
  refine sP rfl rfl rfl (p_call rfl (rrnum_p (s, 0) hs) ⟨Sub.refl, trivial⟩) ?_
  refine sP rfl rfl rfl (pMt rfl rfl) ?_
  refine sP rfl rfl rfl (p_extract rfl rfl rfl) ?_
  refine sP rfl rfl rfl (p_extract rfl rfl rfl) ?_
  refine sAlloc rfl rfl rfl rfl ze127 (fun g4 => ?_)
  refine sStore 0 rfl rfl rfl rfl rfl ty127 rfl rfl rfl (Nat.le_of_ble_eq_true rfl) ?_
  refine sP rfl rfl rfl (pA rfl rfl) ?_
  refine lNil ?_
  refine wSeq ?_
  refine wCut (fun L h => ∃ b : Bool, b = (decide ((rdN (s, 0)).2.2 = 0) && decide ((((rdN (s, 0)).1 : Nat) : Int) > 4096)) ∧ L = [(4, .x (.pointer (some ⟨g4, 0, none⟩))), (5, iA ((rdN (s, 0)).1 : Nat)), (24, bA b)] ∧ h = [.cells g4 127 [sA (rdN (s, 0)).2.1, iA (rdN (s, 0)).2.2]]) ?_ ?_
  · cases hb : (decide ((rdN (s, 0)).2.2 = 0)) with
    | true =>
      refine wReg ?_
      refine sP rfl rfl rfl (p_fieldAddr_own rfl rfl fl127_1 ty3 (by decide)) ?_
      refine sP rfl rfl rfl (pLdO1 0 rfl rfl rfl ty3 rfl) ?_
      refine sP rfl rfl rfl (p_icmp rfl rfl rfl (congrArg some hb)) ?_
      refine sP rfl rfl rfl (pM rfl rfl) ?_
      refine sG rfl rfl rfl rfl rfl (pM rfl rfl) ?_
      refine sG rfl rfl rfl rfl rfl (p_icmp rfl rfl rfl rfl) ?_
      refine sP rfl rfl rfl (p_pick rfl rfl rfl) ?_
      refine lNil ?_
      exact ⟨_, [.cells g4 127 [sA (rdN (s, 0)).2.1, iA (rdN (s, 0)).2.2]], [], ⟨_, (by rfl), rfl, rfl⟩, ⟨rfl, rfl, rfl, trivial⟩, rfl⟩
    | false =>
      refine wReg ?_
      refine sP rfl rfl rfl (p_fieldAddr_own rfl rfl fl127_1 ty3 (by decide)) ?_
      refine sP rfl rfl rfl (pLdO1 0 rfl rfl rfl ty3 rfl) ?_
      refine sP rfl rfl rfl (p_icmp rfl rfl rfl (congrArg some hb)) ?_
      refine sP rfl rfl rfl (pM rfl rfl) ?_
      refine sU rfl rfl rfl (by decide) rfl rfl ?_
      refine sU rfl rfl rfl (by decide) rfl rfl ?_
      refine sP rfl rfl rfl (p_pick rfl rfl rfl) ?_
      refine lNil ?_
      exact ⟨_, [.cells g4 127 [sA (rdN (s, 0)).2.1, iA (rdN (s, 0)).2.2]], [], ⟨_, (by rfl), rfl, rfl⟩, ⟨rfl, rfl, rfl, trivial⟩, rfl⟩
  · rintro L h ⟨b, hb, rfl, rfl⟩
    refine wCond rfl (fun hc1 => ?_) (fun hc1 => ?_)
    · refine wSeq ?_
      refine wReg ?_
      refine sP rfl rfl rfl (pA rfl rfl) ?_
      refine sP rfl rfl rfl (pA rfl rfl) ?_
      refine lNil ?_
      refine wRet ?_
      have he : freadE s = 3 := freadE_long (by have h := (and_t (hb.symm.trans hc1)).2; simp at h; omega)
      exact rgs2 (rg_tmp (gives_sub (sub_nilF (freadL_err (by rw [he]; decide))))) (rg_tmp (gives_sub (Sub.of_eq (avI he.symm))))
    · have hlen : ¬ 4096 < (rdN (s, 0)).1 := fun h => by
        have h0 : (rdN (s, 0)).2.2 = 0 := Classical.byContradiction fun h0 => by rw [rdN_zeroE h0] at h; omega
        have hb2 := hb.symm.trans hc1
        rw [decide_eq_true h0, Bool.true_and, decide_eq_false_iff_not] at hb2
        omega
      refine wSkip ?_
      refine wSeq ?_
      refine wReg ?_
      refine sP rfl rfl rfl (pA rfl rfl) ?_
      refine lNil ?_
      refine wSeq ?_
      refine wNilrow 87 8 ?_
      refine wSeq ?_
      refine wReg ?_
      refine sP rfl rfl rfl (pA rfl rfl) ?_
      refine lNil ?_
      refine wBlock ?_
      refine wLoop (fun mm L h => ∃ i st acc v, mm = (rdN (s, 0)).1 - i ∧ RdI s i acc st ∧ L = [(4, .x (.pointer (some ⟨g4, 0, none⟩))), (5, iA ((rdN (s, 0)).1 : Nat)), (6, .x v), (7, iA (i : Nat))] ∧ h = [.cells g4 127 [sA st.1, iA st.2], .row v 87 8 acc.length (acc.flatMap encF)]) ⟨_, _, _, _, ⟨0, (rdN (s, 0)).2, [], .slice none 0 0, rfl, RdI.start hs, rfl, rfl⟩, ⟨rfl, rfl, rfl, rfl, trivial⟩, rfl⟩ ?_
      rintro mm L h ⟨i, st, acc, v, rfl, hI, rfl, rfl⟩
      refine wSeq ?_
      refine wCut (fun L h => ∃ b : Bool, b = (decide ((i : Int) < ((rdN (s, 0)).1 : Nat)) && decide (st.2 = 0)) ∧ L = [(4, .x (.pointer (some ⟨g4, 0, none⟩))), (5, iA ((rdN (s, 0)).1 : Nat)), (6, .x v), (7, iA (i : Nat)), (32, bA b)] ∧ h = [.cells g4 127 [sA st.1, iA st.2], .row v 87 8 acc.length (acc.flatMap encF)]) ?_ ?_
      · cases hb : (decide ((i : Int) < ((rdN (s, 0)).1 : Nat))) with
        | true =>
          refine wReg ?_
          refine sP rfl rfl rfl (pM rfl rfl) ?_
          refine sP rfl rfl rfl (pM rfl rfl) ?_
          refine sP rfl rfl rfl (p_icmp rfl rfl rfl (congrArg some hb)) ?_
          refine sP rfl rfl rfl (pM rfl rfl) ?_
          refine sG rfl rfl rfl rfl rfl (p_fieldAddr_own rfl rfl fl127_1 ty3 (by decide)) ?_
          refine sG rfl rfl rfl rfl rfl (pLdO1 0 rfl rfl rfl ty3 rfl) ?_
          refine sG rfl rfl rfl rfl rfl (p_icmp rfl rfl rfl rfl) ?_
          refine sP rfl rfl rfl (p_pick rfl rfl rfl) ?_
          refine lNil ?_
          exact ⟨_, [.cells g4 127 [sA st.1, iA st.2], .row v 87 8 acc.length (acc.flatMap encF)], [], ⟨_, (by rfl), rfl, rfl⟩, ⟨rfl, rfl, rfl, rfl, rfl, trivial⟩, rfl⟩
        | false =>
          refine wReg ?_
          refine sP rfl rfl rfl (pM rfl rfl) ?_
          refine sP rfl rfl rfl (pM rfl rfl) ?_
          refine sP rfl rfl rfl (p_icmp rfl rfl rfl (congrArg some hb)) ?_
          refine sP rfl rfl rfl (pM rfl rfl) ?_
          refine sU rfl rfl rfl (by decide) rfl rfl ?_
          refine sU rfl rfl rfl (by decide) rfl rfl ?_
          refine sU rfl rfl rfl (by decide) rfl rfl ?_
          refine sP rfl rfl rfl (p_pick rfl rfl rfl) ?_
          refine lNil ?_
          exact ⟨_, [.cells g4 127 [sA st.1, iA st.2], .row v 87 8 acc.length (acc.flatMap encF)], [], ⟨_, (by rfl), rfl, rfl⟩, ⟨rfl, rfl, rfl, rfl, rfl, trivial⟩, rfl⟩
      · rintro L h ⟨b, hb, rfl, rfl⟩
        refine wCond rfl (fun hc2 => ?_) (fun hc2 => ?_)
        · have hin : i < (rdN (s, 0)).1 := by have h := (and_t (hb.symm.trans hc2)).1; simp at h; omega
          have hst0 : st.2 = 0 := by have h := (and_t (hb.symm.trans hc2)).2; simpa using h
          refine wSkip ?_
          refine wSeq ?_
          refine wBlock ?_
          refine wSeq ?_
          refine wReg ?_
          refine sP rfl rfl rfl (pLdW 0 rfl rfl rfl ty127 rfl) ?_
          refine sP rfl rfl rfl (p_call rfl (rtake_p st hI.size) ⟨Sub.refl, trivial⟩) ?_
          refine sP rfl rfl rfl (pMt rfl rfl) ?_
          refine sP rfl rfl rfl (p_extract rfl rfl rfl) ?_
          refine sP rfl rfl rfl (p_extract rfl rfl rfl) ?_
          refine sAlloc rfl rfl rfl rfl ze127 (fun g8 => ?_)
          refine sAlloc rfl rfl rfl rfl ze87 (fun g9 => ?_)
          refine sStore (2) rfl rfl rfl rfl rfl ty127 rfl rfl rfl (Nat.le_of_ble_eq_true rfl) ?_
          refine sStore (3) rfl rfl rfl rfl rfl ty87 rfl rfl rfl (Nat.le_of_ble_eq_true rfl) ?_
          refine lNil ?_
          refine wSeq ?_
          refine wReg ?_
          refine sP rfl rfl rfl (pLdW (2) rfl rfl rfl ty127 rfl) ?_
          refine sStore 0 rfl rfl rfl rfl rfl ty127 rfl rfl rfl (Nat.le_of_ble_eq_true rfl) ?_
          refine lNil ?_
          refine wReg ?_
          refine sP rfl rfl rfl (pM rfl rfl) ?_
          refine sP rfl rfl rfl (pLdW (3) rfl rfl rfl ty87 rfl) ?_
          refine sP rfl rfl rfl (p_buildSlice rfl ze87 Try.underlying26 ty87 (by decide) (by decide) rfl rfl rfl) ?_
          refine sAppend (news := encF (rdF st).1) (mm := 1) 1 rfl rfl rfl rfl Try.underlying26 ro87 rfl rfl rfl rfl (by have := hI.len; omega) (by have := hI.len; omega) (fun v44 => ?_)
          refine sP rfl rfl rfl (pA rfl rfl) ?_
          refine lNil ?_
          refine wReg ?_
          refine sP rfl rfl rfl (pM rfl rfl) ?_
          refine sP rfl rfl rfl (p_iar rfl rfl rfl rfl) ?_
          refine sP rfl rfl rfl (pA rfl rfl) ?_
          refine lNil ?_
          refine ⟨_, _, [.cells g4 127 [sA (rdF st).2.1, iA (rdF st).2.2], .row v44 87 8 (acc.length + 1) (acc.flatMap encF ++ encF (rdF st).1)], _, ?_, ⟨i + 1, (rdF st).2, acc ++ [(rdF st).1], v44, rfl, hI.step hin hst0, rfl, ?_⟩, ⟨rfl, rfl, rfl, avI (wrapI (by omega) (by omega)), trivial⟩, rfl⟩
          · omega
          · rw [snoc_flat, List.length_append]; rfl
        · have hF := hI.stop (hb.symm.trans hc2)
          refine wExit ?_
          refine wFreeze 1 6 rfl rfl ?_
          refine wSeq ?_
          refine wSeq ?_
          refine wReg ?_
          refine sP rfl rfl rfl (pLdW 0 rfl rfl rfl ty127 rfl) ?_
          refine sP rfl rfl rfl (p_call rfl (rrdone_p st) ⟨Sub.refl, trivial⟩) ?_
          refine sP rfl rfl rfl (pA rfl rfl) ?_
          refine lNil ?_
          refine wSeq ?_
          refine wReg ?_
          refine sP rfl rfl rfl (pM rfl rfl) ?_
          refine sP rfl rfl rfl (p_icmp rfl rfl rfl rfl) ?_
          refine lNil ?_
          refine wCond rfl (fun hc3 => ?_) (fun hc3 => ?_)
          · refine wSeq ?_
            refine wReg ?_
            refine sP rfl rfl rfl (pM rfl rfl) ?_
            refine sP rfl rfl rfl (pA rfl rfl) ?_
            refine sP rfl rfl rfl (pA rfl rfl) ?_
            refine lNil ?_
            refine wRet ?_
            have hd : doneE (rF s).2 ≠ 0 := by rw [hF]; simpa using hc3
            have he : freadE s = doneE st := by rw [freadE_done hlen hd, hF]
            exact rgs2 (rg_tmp (gives_sub (sub_nilF (freadL_err (by rw [freadE_done hlen hd]; exact hd))))) (rg_tmp (gives_sub (Sub.of_eq (avI he.symm))))
          · have hd0 : doneE (rF s).2 = 0 := by rw [hF]; simpa using hc3
            refine wSkip ?_
            refine wSeq ?_
            refine wSeq ?_
            refine wReg ?_
            refine sP rfl rfl rfl (pMs rfl rfl) ?_
            refine sP rfl rfl rfl (p_call rfl (rfchecks_p acc (by have := hI.len; have := hI.le; omega) hI.ok) ⟨Sub.refl, trivial⟩) ?_
            refine sP rfl rfl rfl (pA rfl rfl) ?_
            refine lNil ?_
            refine wSeq ?_
            refine wReg ?_
            refine sP rfl rfl rfl (pM rfl rfl) ?_
            refine sP rfl rfl rfl (p_icmp rfl rfl rfl rfl) ?_
            refine lNil ?_
            refine wCond rfl (fun hc4 => ?_) (fun hc4 => ?_)
            · refine wSeq ?_
              refine wReg ?_
              refine sP rfl rfl rfl (pM rfl rfl) ?_
              refine sP rfl rfl rfl (pA rfl rfl) ?_
              refine sP rfl rfl rfl (pA rfl rfl) ?_
              refine lNil ?_
              refine wRet ?_
              have hm : mayG chkF ltF acc ≠ 0 := by simpa using hc4
              have he : freadE s = mayG chkF ltF acc := by rw [freadE_may hlen hd0, hF]
              exact rgs2 (rg_tmp (gives_sub (sub_nilF (freadL_err (by rw [he]; exact hm))))) (rg_tmp (gives_sub (Sub.of_eq (avI he.symm))))
            · refine wSkip ?_
              refine wSeq ?_
              refine wReg ?_
              refine sP rfl rfl rfl (pMs rfl rfl) ?_
              refine sP rfl rfl rfl (pAs rfl rfl) ?_
              refine sP rfl rfl rfl (pA rfl rfl) ?_
              refine lNil ?_
              refine wRet ?_
              have hm : mayG chkF ltF acc = 0 := by simpa using hc4
              have he : freadE s = 0 := by rw [freadE_may hlen hd0, hF]; exact hm
              have hl : freadL s = acc := by rw [freadL_ok he, hF]
              rw [hl]
              exact rgs2 (rg_tmp (gives_sub Sub.refl)) (rg_tmp (gives_sub (Sub.of_eq (avI he.symm))))
end Go.Proofs.Ytmhkalalcmkpbaa

namespace Go.Proofs.Ytmhkalalcmkpbaa
open Go Go.RowKit
set_option linter.unusedVariables false
set_option linter.unusedSimpArgs false

/-- Is the thing at k less than d? -/
def lessAt (acc : List FactT) (k : Nat) (d : FactT) : Bool := match acc[k]? with | some y => ltF y d | none => false
theorem lessAt_some {acc : List FactT} {k : Nat} {d y : FactT} (h : acc[k]? = some y) : lessAt acc k d = ltF y d := by unfold lessAt; rw [h]
theorem lessAt_none {acc : List FactT} {k : Nat} {d : FactT} (h : decide ((k : Int) < (acc.length : Nat)) = false) : lessAt acc k d = false := by
  unfold lessAt; rw [List.getElem?_eq_none (by have := of_decide_eq_false h; omega)]
theorem sortK_in {l : List FactT} {i : Nat} {d : FactT} (hd : l[i]? = some d) (h : inF (sortK ltF (l.take i)) d = true) : sortK ltF (l.take (i + 1)) = sortK ltF (l.take i) := by
  rw [List.take_add_one, hd]
  show sortK ltF (l.take i ++ [d]) = _
  rw [sortK_snoc]
  unfold insK
  unfold inF at h
  rw [List.any_eq_true] at h
  obtain ⟨y, hy, he⟩ := h
  have : y = d := by simpa using he
  subst this
  rw [if_pos hy]
theorem sortK_new {l : List FactT} {i k : Nat} {d : FactT} (hd : l[i]? = some d) (h : inF (sortK ltF (l.take i)) d = false) (hk : k ≤ (sortK ltF (l.take i)).length) (h1 : ∀ (j : Nat) y, j < k → (sortK ltF (l.take i))[j]? = some y → ltF y d = true) (h2 : lessAt (sortK ltF (l.take i)) k d = false) :
    sortK ltF (l.take (i + 1)) = [] ++ ((sortK ltF (l.take i)).take k).drop 0 ++ [d] ++ ((sortK ltF (l.take i)).take (sortK ltF (l.take i)).length).drop k := by
  have hn : d ∉ sortK ltF (l.take i) := by
    intro hm
    unfold inF at h
    rw [List.any_eq_false] at h
    exact h d hm (by simp)
  rw [List.take_length, List.nil_append, List.drop_zero]
  have := ins_atG hn hk h1 (fun y hy => by rw [lessAt_some hy] at h2; exact h2)
  rw [← this, ← sortK_snoc]
  congr 1
  rw [List.take_add_one, hd]; rfl
theorem slF_eq {a b : List FactT} (h : a = b) : AV.sl 8 a.length (a.flatMap encF) = slF b := by rw [h]

theorem lessAt_lt {acc : List FactT} {k : Nat} {d : FactT} (h : lessAt acc k d = true) : k < acc.length := by
  rcases Nat.lt_or_ge k acc.length with g | g
  · exact g
  · unfold lessAt at h; rw [List.getElem?_eq_none g] at h; cases h

set_option maxRecDepth 100000 in
theorem rfsort_p (l : List FactT) (hn : l.length < 1000000) : PFn Try.prog False 48 [slF l] (slF (sortK ltF l)) := by
  refine pfn Try.func48 rfl (by kernel_rfl) 55 rfl _ rfl (Nat.le_of_ble_eq_true rfl) (fun X w0 => ?_)
  refine wSeq ?_
  refine wReg ?_
  refine sP rfl rfl rfl (pA rfl rfl) ?_
  refine lNil ?_
  refine wSeq ?_
  refine wReg ?_
  refine sP rfl rfl rfl (pA rfl rfl) ?_
  refine lNil ?_
  refine wNilrow 87 8 ?_
  refine wFreeze 0 3 rfl rfl ?_
  refine wSeq ?_
  refine wSeq ?_
  refine wReg ?_
  refine sP rfl rfl rfl (pA rfl rfl) ?_
  refine lNil ?_
  refine wBlock ?_
  refine wLoop (fun mm L h => ∃ i acc, mm = l.length - i ∧ i ≤ l.length ∧ acc = sortK ltF (l.take i) ∧ acc.length ≤ 1000000 ∧ L = [(0, slF l), (3, slF acc), (4, iA (i : Nat))] ∧ h = []) ⟨_, _, _, _, ⟨0, [], rfl, Nat.zero_le _, rfl, Nat.zero_le _, rfl, rfl⟩, ⟨rfl, rfl, rfl, trivial⟩, rfl⟩ ?_
  rintro mm L h ⟨i, acc, rfl, hi, ha, hal, rfl, rfl⟩
  refine wSeq ?_
  refine wSeq ?_
  refine wReg ?_
  refine sP rfl rfl rfl (pM rfl rfl) ?_
  refine sP rfl rfl rfl (pMs rfl rfl) ?_
  refine sP rfl rfl rfl (p_len_sl rfl rfl Try.underlying26) ?_
  refine sP rfl rfl rfl (p_icmp rfl rfl rfl rfl) ?_
  refine lNil ?_
  refine wCond rfl (fun hc1 => ?_) (fun hc1 => ?_)
  · have hlt : i < l.length := by simpa using hc1
    obtain ⟨d, hd⟩ := getL hlt
    have hal2 : acc.length ≤ i := by rw [ha]; have := sortK_length_le (lt := ltF) (l.take i); rw [List.length_take] at this; omega
    refine wSkip ?_
    refine wSeq ?_
    refine wBlock ?_
    refine wSeq ?_
    refine wSeq ?_
    refine wReg ?_
    refine sP rfl rfl rfl (pMs rfl rfl) ?_
    refine sP rfl rfl rfl (pMs rfl rfl) ?_
    refine sP rfl rfl rfl (pM rfl rfl) ?_
    refine sP rfl rfl rfl (pIdx i rfl rfl Try.underlying26 ty87 (by decide) rfl (fun _ => rfl) rfl rfl hd) ?_
    refine sP rfl rfl rfl (pLdE rfl rfl ty87 rfl) ?_
    refine sP rfl rfl rfl (p_call rfl (rfin_p acc d (by omega)) ⟨Sub.refl, Sub.refl, trivial⟩) ?_
    refine lNil ?_
    refine wCond rfl (fun hc2 => ?_) (fun hc2 => ?_)
    · refine wExit ?_
      refine wReg ?_
      refine sP rfl rfl rfl (pM rfl rfl) ?_
      refine sP rfl rfl rfl (p_iar rfl rfl rfl rfl) ?_
      refine sP rfl rfl rfl (pA rfl rfl) ?_
      refine lNil ?_
      have hs : acc = sortK ltF (l.take (i + 1)) := by rw [ha] at hc2 ⊢; exact (sortK_in hd hc2).symm
      refine ⟨_, _, [], [], ?_, ⟨i + 1, acc, rfl, hlt, hs, hal, rfl, rfl⟩, ⟨rfl, rfl, avI (wrapI (by omega) (by omega)), trivial⟩, rfl⟩
      omega
    · refine wSkip ?_
      refine wSeq ?_
      refine wReg ?_
      refine sP rfl rfl rfl (pA rfl rfl) ?_
      refine lNil ?_
      refine wSeq ?_
      refine wBlock ?_
      refine wLoop (fun mm L h => ∃ k, mm = acc.length - k ∧ k ≤ acc.length ∧ (∀ (j : Nat) y, j < k → acc[j]? = some y → ltF y d = true) ∧ L = [(0, slF l), (3, slF acc), (4, iA (i : Nat)), (5, iA (k : Nat))] ∧ h = []) ⟨_, _, _, _, ⟨0, rfl, Nat.zero_le _, fun j y hj => absurd hj (by omega), rfl, rfl⟩, ⟨rfl, rfl, rfl, rfl, trivial⟩, rfl⟩ ?_
      rintro mm L h ⟨k, rfl, hk, h1, rfl, rfl⟩
      refine wSeq ?_
      refine wCut (fun L h => ∃ b : Bool, b = (lessAt acc k d) ∧ L = [(0, slF l), (3, slF acc), (4, iA (i : Nat)), (5, iA (k : Nat)), (33, bA b)] ∧ h = []) ?_ ?_
      · cases hb : (decide ((k : Int) < (acc.length : Nat))) with
        | true =>
          obtain ⟨y, hy⟩ := getL (l := acc) (i := k) (by have := of_decide_eq_true hb; omega)
          refine wDraw 15 (by kernel_rfl) (by kernel_rfl) ?_
          refine sP rfl rfl rfl (pM rfl rfl) ?_
          refine sP rfl rfl rfl (pMs rfl rfl) ?_
          refine sP rfl rfl rfl (p_len_sl rfl rfl Try.underlying26) ?_
          refine sP rfl rfl rfl (p_icmp rfl rfl rfl (congrArg some hb)) ?_
          refine sP rfl rfl rfl (pM rfl rfl) ?_
          refine sG rfl rfl rfl rfl rfl (pMs rfl rfl) ?_
          refine sG rfl rfl rfl rfl rfl (pM rfl rfl) ?_
          refine sG rfl rfl rfl rfl rfl (pIdx k rfl rfl Try.underlying26 ty87 (by decide) rfl (fun _ => rfl) rfl rfl hy) ?_
          refine sG rfl rfl rfl rfl rfl (pLdE rfl rfl ty87 rfl) ?_
          refine sG rfl rfl rfl rfl rfl (pMs rfl rfl) ?_
          refine sG rfl rfl rfl rfl rfl (pM rfl rfl) ?_
          refine sG rfl rfl rfl rfl rfl (pIdx i rfl rfl Try.underlying26 ty87 (by decide) rfl (fun _ => rfl) rfl rfl hd) ?_
          refine sG rfl rfl rfl rfl rfl (pLdE rfl rfl ty87 rfl) ?_
          refine sG rfl rfl rfl rfl rfl (p_call rfl (rfless_p y d) ⟨Sub.refl, Sub.refl, trivial⟩) ?_
          refine sP rfl rfl rfl (p_pick rfl rfl rfl) ?_
          refine lTail ?_
          refine lNil ?_
          exact ⟨_, [], [], ⟨_, (by exact (lessAt_some hy).symm), rfl, rfl⟩, ⟨rfl, rfl, rfl, rfl, rfl, trivial⟩, rfl⟩
        | false =>
          refine wDraw 15 (by kernel_rfl) (by kernel_rfl) ?_
          refine sP rfl rfl rfl (pM rfl rfl) ?_
          refine sP rfl rfl rfl (pMs rfl rfl) ?_
          refine sP rfl rfl rfl (p_len_sl rfl rfl Try.underlying26) ?_
          refine sP rfl rfl rfl (p_icmp rfl rfl rfl (congrArg some hb)) ?_
          refine sP rfl rfl rfl (pM rfl rfl) ?_
          refine sU rfl rfl rfl (by decide) rfl rfl ?_
          refine sU rfl rfl rfl (by decide) rfl rfl ?_
          refine sU rfl rfl rfl (by decide) rfl rfl ?_
          refine sU rfl rfl rfl (by decide) rfl rfl ?_
          refine sU rfl rfl rfl (by decide) rfl rfl ?_
          refine sU rfl rfl rfl (by decide) rfl rfl ?_
          refine sU rfl rfl rfl (by decide) rfl rfl ?_
          refine sU rfl rfl rfl (by decide) rfl rfl ?_
          refine sU rfl rfl rfl (by decide) rfl rfl ?_
          refine sP rfl rfl rfl (p_pick rfl rfl rfl) ?_
          refine lTail ?_
          refine lNil ?_
          exact ⟨_, [], [], ⟨_, (by exact (lessAt_none hb).symm), rfl, rfl⟩, ⟨rfl, rfl, rfl, rfl, rfl, trivial⟩, rfl⟩
      · rintro L h ⟨b, hb, rfl, rfl⟩
        refine wCond rfl (fun hc3 => ?_) (fun hc3 => ?_)
        · refine wSkip ?_
          refine wBlock ?_
          refine wReg ?_
          refine sP rfl rfl rfl (pM rfl rfl) ?_
          refine sP rfl rfl rfl (p_iar rfl rfl rfl rfl) ?_
          refine sP rfl rfl rfl (pA rfl rfl) ?_
          refine lNil ?_
          have hb2 := hb.symm.trans hc3
          refine ⟨_, _, [], [], ?_, ⟨k + 1, rfl, lessAt_lt hb2, fun j y hj hy => ?_, rfl, rfl⟩, ⟨rfl, rfl, rfl, avI (wrapI (by omega) (by omega)), trivial⟩, rfl⟩
          · have := lessAt_lt hb2; omega
          · rcases Nat.lt_or_ge j k with h | h
            · exact h1 j y h hy
            · obtain rfl : j = k := by omega
              rw [lessAt_some hy] at hb2; exact hb2
        · have hb2 := hb.symm.trans hc3
          have hlens : ((acc.take k).drop 0).length ≤ 1000000 := by rw [List.length_drop, List.length_take]; omega
          have hlen2 : ((acc.take acc.length).drop k).length ≤ 1000000 := by rw [List.length_drop, List.length_take]; omega
          refine wExit ?_
          refine wNilrow 87 8 ?_
          refine wSeq ?_
          refine wReg ?_
          refine sP rfl rfl rfl (pA rfl rfl) ?_
          refine lNil ?_
          refine wSeq ?_
          refine wReg ?_
          refine sP rfl rfl rfl (pM rfl rfl) ?_
          refine sP rfl rfl rfl (pMs rfl rfl) ?_
          refine sP rfl rfl rfl (pM rfl rfl) ?_
          refine sP rfl rfl rfl (pCut 0 k rfl rfl Try.underlying26 ty87 (fun _ => rfl) rfl ⟨_, _, rfl, rfl⟩ (Nat.zero_le _) hk) ?_
          refine sAppendL (enc := encF) (l := []) 0 ((acc.take k).drop 0) rfl rfl rfl rfl Try.underlying26 ro87 rfl rfl rfl (fun _ => rfl) (by have := hlens; rw [List.length_nil]; omega) (by have := hlens; rw [List.length_nil]; omega) (fun v40 => ?_)
          refine sP rfl rfl rfl (pA rfl rfl) ?_
          refine lNil ?_
          refine wSeq ?_
          refine wReg ?_
          refine sP rfl rfl rfl (pM rfl rfl) ?_
          refine sP rfl rfl rfl (pMs rfl rfl) ?_
          refine sP rfl rfl rfl (pM rfl rfl) ?_
          refine sP rfl rfl rfl (pIdx i rfl rfl Try.underlying26 ty87 (by decide) rfl (fun _ => rfl) rfl rfl hd) ?_
          refine sP rfl rfl rfl (pLdE rfl rfl ty87 rfl) ?_
          refine sP rfl rfl rfl (p_buildSlice rfl ze87 Try.underlying26 ty87 (by decide) (by decide) rfl rfl rfl) ?_
          refine sAppendL (enc := encF) (l := [] ++ (acc.take k).drop 0) 0 [d] rfl rfl rfl rfl Try.underlying26 ro87 rfl rfl rfl (fun _ => rfl) (by have := hlens; simp only [List.length_append, List.length_nil, List.length_singleton] at *; omega) (by have := hlens; simp only [List.length_append, List.length_nil, List.length_singleton] at *; omega) (fun v47 => ?_)
          refine sP rfl rfl rfl (pA rfl rfl) ?_
          refine lNil ?_
          refine wSeq ?_
          refine wReg ?_
          refine sP rfl rfl rfl (pM rfl rfl) ?_
          refine sP rfl rfl rfl (pMs rfl rfl) ?_
          refine sP rfl rfl rfl (pM rfl rfl) ?_
          refine sP rfl rfl rfl (pCut k acc.length rfl rfl Try.underlying26 ty87 (fun _ => rfl) ⟨_, _, rfl, rfl⟩ rfl hk (Nat.le_refl _)) ?_
          refine sAppendL (enc := encF) (l := [] ++ (acc.take k).drop 0 ++ [d]) 0 ((acc.take acc.length).drop k) rfl rfl rfl rfl Try.underlying26 ro87 rfl rfl rfl (fun _ => rfl) (by have := hlens; have := hlen2; simp only [List.length_append, List.length_nil, List.length_singleton] at *; omega) (by have := hlens; have := hlen2; simp only [List.length_append, List.length_nil, List.length_singleton] at *; omega) (fun v52 => ?_)
          refine sP rfl rfl rfl (pA rfl rfl) ?_
          refine lNil ?_
          refine wFreeze 0 6 rfl rfl ?_
          refine wReg ?_
          refine sP rfl rfl rfl (pMs rfl rfl) ?_
          refine sP rfl rfl rfl (pAs rfl rfl) ?_
          refine lNil ?_
          refine wReg ?_
          refine sP rfl rfl rfl (pM rfl rfl) ?_
          refine sP rfl rfl rfl (p_iar rfl rfl rfl rfl) ?_
          refine sP rfl rfl rfl (pA rfl rfl) ?_
          refine lNil ?_
          have hs : [] ++ (acc.take k).drop 0 ++ [d] ++ (acc.take acc.length).drop k = sortK ltF (l.take (i + 1)) := by rw [ha] at hc2 hk h1 hb2 ⊢; exact (sortK_new hd hc2 hk h1 hb2).symm
          refine ⟨_, _, [], _, ?_, ⟨i + 1, sortK ltF (l.take (i + 1)), rfl, hlt, rfl, ?_, rfl, rfl⟩, ⟨rfl, slF_eq hs, avI (wrapI (by omega) (by omega)), trivial⟩, rfl⟩
          · omega
          · have := sortK_length_le (lt := ltF) (l.take (i + 1)); rw [List.length_take] at this; omega
  · have hge : i = l.length := by
      have h : ¬ i < l.length := by simpa using hc1
      omega
    refine wExit ?_
    refine wSeq ?_
    refine wReg ?_
    refine sP rfl rfl rfl (pMs rfl rfl) ?_
    refine sP rfl rfl rfl (pAs rfl rfl) ?_
    refine lNil ?_
    refine wRet ?_
    subst hge
    rw [List.take_length] at ha
    subst ha
    exact rgs1 (rg_tmp (gives_sub Sub.refl))
end Go.Proofs.Ytmhkalalcmkpbaa

namespace Go.Proofs.Ytmhkalalcmkpbaa
open Go Go.RowKit
set_option linter.unusedVariables false
set_option linter.unusedSimpArgs false

set_option maxRecDepth 100000 in
theorem fone_m (p : Nat) (st : ByteArray × Int) (hs : st.1.size < 9223372036854775807) : MFn Try.prog False 104 [nP p] [rdO p st] (RdR p (fA (rdF st).1) (rdF st).2) := by
  refine mfn Try.func104 rfl (by kernel_rfl) 27 rfl _ rfl (Nat.le_of_ble_eq_true rfl) (fun X w0 => ?_)
  obtain ⟨z1, z2, z3, z4, z5, z6, z7⟩ := rF7_size st
  refine wSeq ?_
  refine wReg ?_
  refine sAlloc rfl rfl rfl rfl ze87 (fun g2 => ?_)
  refine lNil ?_
  refine wSeq ?_
  refine wReg ?_
  refine sP rfl rfl rfl (pM rfl rfl) ?_
  refine sM1 0 rfl rfl rfl (rdnum_m p st (by omega)) ⟨Sub.refl, trivial⟩ (fun _ _ h => h.one) (fun av q hr => ?_)
  obtain ⟨rfl, rfl⟩ := hr.pq
  refine sP rfl rfl rfl (pM rfl rfl) ?_
  refine sM1 0 rfl rfl rfl (rdnum_m p (rF1 st) (by omega)) ⟨Sub.refl, trivial⟩ (fun _ _ h => h.one) (fun av q hr => ?_)
  obtain ⟨rfl, rfl⟩ := hr.pq
  refine sP rfl rfl rfl (p_build (res := [iA ((rdN st).1 : Nat), iA ((rdN (rF1 st)).1 : Nat)]) rfl ze23 pl23 rfl rfl) ?_
  refine sP rfl rfl rfl (pM rfl rfl) ?_
  refine sM1 0 rfl rfl rfl (rdnum_m p (rF2 st) (by omega)) ⟨Sub.refl, trivial⟩ (fun _ _ h => h.one) (fun av q hr => ?_)
  obtain ⟨rfl, rfl⟩ := hr.pq
  refine sP rfl rfl rfl (pM rfl rfl) ?_
  refine sM1 0 rfl rfl rfl (rdnum_m p (rF3 st) (by omega)) ⟨Sub.refl, trivial⟩ (fun _ _ h => h.one) (fun av q hr => ?_)
  obtain ⟨rfl, rfl⟩ := hr.pq
  refine sP rfl rfl rfl (p_build (res := [iA ((rdN (rF2 st)).1 : Nat), iA ((rdN (rF3 st)).1 : Nat), iA 0]) rfl ze25 pl25 rfl rfl) ?_
  refine sP rfl rfl rfl (pM rfl rfl) ?_
  refine sM1 0 rfl rfl rfl (rdnum_m p (rF4 st) (by omega)) ⟨Sub.refl, trivial⟩ (fun _ _ h => h.one) (fun av q hr => ?_)
  obtain ⟨rfl, rfl⟩ := hr.pq
  refine sP rfl rfl rfl (pM rfl rfl) ?_
  refine sM1 0 rfl rfl rfl (rdtext_m p (rF5 st) (by omega)) ⟨Sub.refl, trivial⟩ (fun _ _ h => h.one) (fun av q hr => ?_)
  obtain ⟨rfl, rfl⟩ := hr.pq
  refine sP rfl rfl rfl (pM rfl rfl) ?_
  refine sM1 0 rfl rfl rfl (rdtext_m p (rF6 st) (by omega)) ⟨Sub.refl, trivial⟩ (fun _ _ h => h.one) (fun av q hr => ?_)
  obtain ⟨rfl, rfl⟩ := hr.pq
  refine sP rfl rfl rfl (p_build (res := [iA ((rdN st).1 : Nat), iA ((rdN (rF1 st)).1 : Nat), iA ((rdN (rF2 st)).1 : Nat), iA ((rdN (rF3 st)).1 : Nat), iA 0, iA ((rdN (rF4 st)).1 : Nat), sA (rdT (rF5 st)).1, sA (rdT (rF6 st)).1]) rfl ze87 pl87 rfl rfl) ?_
  refine sAlloc rfl rfl rfl rfl ze87 (fun g3 => ?_)
  refine sStore 2 rfl rfl rfl rfl rfl ty87 rfl rfl rfl (Nat.le_of_ble_eq_true rfl) ?_
  refine lNil ?_
  refine wSeq ?_
  refine wReg ?_
  refine sP rfl rfl rfl (p_fieldAddr_own rfl rfl fl87_0 ty23 (by decide)) ?_
  refine sP rfl rfl rfl (p_fieldAddr_own rfl rfl fl23_0 ty3 (by decide)) ?_
  refine sP rfl rfl rfl (pLdO1 2 rfl rfl rfl ty3 rfl) ?_
  refine sP rfl rfl rfl (p_fieldAddr_own rfl rfl fl87_1 ty25 (by decide)) ?_
  refine sP rfl rfl rfl (p_fieldAddr_own rfl rfl fl25_2 ty3 (by decide)) ?_
  refine sStore1 2 rfl rfl rfl rfl rfl ty3 rfl rfl (Nat.le_of_ble_eq_true rfl) ?_
  refine lNil ?_
  refine wSeq ?_
  refine wReg ?_
  refine sP rfl rfl rfl (pLdW 2 rfl rfl rfl ty87 rfl) ?_
  refine sStore 1 rfl rfl rfl rfl rfl ty87 rfl rfl rfl (Nat.le_of_ble_eq_true rfl) ?_
  refine lNil ?_
  refine wRet ?_
  exact ⟨_, [rdO p (rF7 st)], _, rfl, ⟨rfl, rfl⟩, rgm_cell rfl rfl (List.mem_of_getElem? (i := 1) rfl) ty87 rfl Sub.refl⟩
set_option maxRecDepth 100000 in
theorem fread_p (s : ByteArray) (hs : s.size < 9223372036854775807) : PFn Try.prog False 43 [sA s] (.tup [slF (freadL s), iA (freadE s)]) := by
  refine pfn Try.func43 rfl (by kernel_rfl) 40 rfl _ rfl (Nat.le_of_ble_eq_true rfl) (fun X w0 => ?_)
  refine wSeq ?_
  refine wReg ?_
  refine sP rfl rfl rfl (pA rfl rfl) ?_
  refine sP rfl rfl rfl (pA rfl rfl) ?_
  refine lNil ?_
  refine wSeq ?_
  refine wReg ?_
  refine sP rfl rfl rfl (pM rfl rfl) ?_
  refine sM0 rfl rfl rfl rfl (new_m s) ⟨Sub.refl, trivial⟩ (fun _ _ ⟨_, h⟩ => h.one) (fun av q hr => ?_)
  obtain ⟨p, hr⟩ := hr
  obtain ⟨rfl, rfl⟩ := hr.pq
  refine sP rfl rfl rfl (pA rfl rfl) ?_
  refine lNil ?_
  refine wSeq ?_
  refine wReg ?_
  refine sP rfl rfl rfl (pM rfl rfl) ?_
  refine sM1 0 rfl rfl rfl (rdnum_m p (s, 0) hs) ⟨Sub.refl, trivial⟩ (fun _ _ h => h.one) (fun av q hr => ?_)
  obtain ⟨rfl, rfl⟩ := hr.pq
  refine sP rfl rfl rfl (pA rfl rfl) ?_
  refine lNil ?_
  refine wSeq ?_
  refine wSeq ?_
  refine wReg ?_
  refine sP rfl rfl rfl (pM rfl rfl) ?_
  refine sP rfl rfl rfl (p_icmp rfl rfl rfl rfl) ?_
  refine lNil ?_
  refine wCond rfl (fun hc1 => ?_) (fun hc1 => ?_)
  · refine wSeq ?_
    refine wReg ?_
    refine sP rfl rfl rfl (pA rfl rfl) ?_
    refine sP rfl rfl rfl (pA rfl rfl) ?_
    refine lNil ?_
    refine wRet ?_
    have he : freadE s = 3 := freadE_long (by have h := hc1; simp at h; omega)
    exact rgs2 (rg_tmp (gives_sub (sub_nilF (freadL_err (by rw [he]; decide))))) (rg_tmp (gives_sub (Sub.of_eq (avI he.symm))))
  · have hlen : ¬ 4096 < (rdN (s, 0)).1 := by have h := hc1; simp at h; omega
    refine wSkip ?_
    refine wSeq ?_
    refine wReg ?_
    refine sP rfl rfl rfl (pA rfl rfl) ?_
    refine lNil ?_
    refine wNilrow 87 8 ?_
    refine wSeq ?_
    refine wBlock ?_
    refine wLoop (fun mm L h => ∃ i st acc v, mm = (rdN (s, 0)).1 - i ∧ RdI s i acc st ∧ L = [(4, nP p), (5, iA ((rdN (s, 0)).1 : Nat)), (6, .x v)] ∧ h = [rdO p st, .row v 87 8 acc.length (acc.flatMap encF)]) ⟨_, _, _, _, ⟨0, (rdN (s, 0)).2, [], .slice none 0 0, rfl, RdI.start hs, rfl, rfl⟩, ⟨rfl, rfl, rfl, trivial⟩, rfl⟩ ?_
    rintro mm L h ⟨i, st, acc, v, rfl, hI, rfl, rfl⟩
    refine wSeq ?_
    refine wCut (fun L h => ∃ b : Bool, b = (decide ((acc.length : Int) < ((rdN (s, 0)).1 : Nat)) && decide (st.2 = 0)) ∧ L = [(4, nP p), (5, iA ((rdN (s, 0)).1 : Nat)), (6, .x v), (23, bA b)] ∧ h = [rdO p st, .row v 87 8 acc.length (acc.flatMap encF)]) ?_ ?_
    · cases hb : (decide ((acc.length : Int) < ((rdN (s, 0)).1 : Nat))) with
      | true =>
        refine wReg ?_
        refine sP rfl rfl rfl (pM rfl rfl) ?_
        refine sP rfl rfl rfl (p_len_row rfl rfl (List.mem_of_getElem? (i := 1) rfl) Try.underlying26) ?_
        refine sP rfl rfl rfl (pM rfl rfl) ?_
        refine sP rfl rfl rfl (p_icmp rfl rfl rfl (congrArg some hb)) ?_
        refine sP rfl rfl rfl (pM rfl rfl) ?_
        refine sG rfl rfl rfl rfl rfl (pM rfl rfl) ?_
        refine sWant rfl rfl rfl ?_
        refine sM1 0 rfl rfl rfl (rderr_m p st) ⟨Sub.refl, trivial⟩ (fun _ _ h => h.one) (fun av q hr => ?_)
        obtain ⟨rfl, rfl⟩ := hr.pq
        refine sG rfl rfl rfl rfl rfl (p_icmp rfl rfl rfl rfl) ?_
        refine sP rfl rfl rfl (p_pick rfl rfl rfl) ?_
        refine lNil ?_
        exact ⟨_, [rdO p st, .row v 87 8 acc.length (acc.flatMap encF)], [], ⟨_, (by exact rfl), rfl, rfl⟩, ⟨rfl, rfl, rfl, rfl, trivial⟩, rfl⟩
      | false =>
        refine wReg ?_
        refine sP rfl rfl rfl (pM rfl rfl) ?_
        refine sP rfl rfl rfl (p_len_row rfl rfl (List.mem_of_getElem? (i := 1) rfl) Try.underlying26) ?_
        refine sP rfl rfl rfl (pM rfl rfl) ?_
        refine sP rfl rfl rfl (p_icmp rfl rfl rfl (congrArg some hb)) ?_
        refine sP rfl rfl rfl (pM rfl rfl) ?_
        refine sU rfl rfl rfl (by decide) rfl rfl ?_
        refine sU rfl rfl rfl (by decide) rfl rfl ?_
        refine sU rfl rfl rfl (by decide) rfl rfl ?_
        refine sP rfl rfl rfl (p_pick rfl rfl rfl) ?_
        refine lNil ?_
        exact ⟨_, [rdO p st, .row v 87 8 acc.length (acc.flatMap encF)], [], ⟨_, (by exact rfl), rfl, rfl⟩, ⟨rfl, rfl, rfl, rfl, trivial⟩, rfl⟩
    · rintro L h ⟨b, hb, rfl, rfl⟩
      refine wCond rfl (fun hc2 => ?_) (fun hc2 => ?_)
      · have hin : i < (rdN (s, 0)).1 := by have h := (and_t (hb.symm.trans hc2)).1; have := hI.len; simp at h; omega
        have hst0 : st.2 = 0 := by have h := (and_t (hb.symm.trans hc2)).2; simpa using h
        refine wSkip ?_
        refine wBlock ?_
        refine wReg ?_
        refine sP rfl rfl rfl (pM rfl rfl) ?_
        refine sP rfl rfl rfl (pM rfl rfl) ?_
        refine sM1 0 rfl rfl rfl (fone_m p st hI.size) ⟨Sub.refl, trivial⟩ (fun _ _ h => h.one) (fun av q hr => ?_)
        obtain ⟨rfl, rfl⟩ := hr.pq
        refine sP rfl rfl rfl (p_buildSlice rfl ze87 Try.underlying26 ty87 (by decide) (by decide) rfl rfl rfl) ?_
        refine sAppendL (enc := encF) (l := acc) 1 [(rdF st).1] rfl rfl rfl rfl Try.underlying26 ro87 rfl rfl rfl (fun _ => rfl) (by have := hI.len; rw [List.length_singleton]; omega) (by have := hI.len; rw [List.length_singleton]; omega) (fun v28 => ?_)
        refine sP rfl rfl rfl (pA rfl rfl) ?_
        refine lNil ?_
        refine ⟨_, _, [rdO p (rdF st).2, .row v28 87 8 (acc ++ [(rdF st).1]).length ((acc ++ [(rdF st).1]).flatMap encF)], _, ?_, ⟨i + 1, (rdF st).2, acc ++ [(rdF st).1], v28, rfl, hI.step hin hst0, rfl, rfl⟩, ⟨rfl, rfl, rfl, trivial⟩, rfl⟩
        omega
      · have hF := hI.stop (by have := hb.symm.trans hc2; rw [hI.len] at this; exact this)
        refine wExit ?_
        refine wFreeze 1 6 rfl rfl ?_
        refine wSeq ?_
        refine wSeq ?_
        refine wReg ?_
        refine sP rfl rfl rfl (pM rfl rfl) ?_
        refine sM1 0 rfl rfl rfl (rddone_m p st) ⟨Sub.refl, trivial⟩ (fun _ _ h => h.one) (fun av q hr => ?_)
        obtain ⟨rfl, rfl⟩ := hr.pq
        refine sP rfl rfl rfl (pA rfl rfl) ?_
        refine lNil ?_
        refine wSeq ?_
        refine wReg ?_
        refine sP rfl rfl rfl (pM rfl rfl) ?_
        refine sP rfl rfl rfl (p_icmp rfl rfl rfl rfl) ?_
        refine lNil ?_
        refine wCond rfl (fun hc3 => ?_) (fun hc3 => ?_)
        · refine wSeq ?_
          refine wReg ?_
          refine sP rfl rfl rfl (pM rfl rfl) ?_
          refine sP rfl rfl rfl (pA rfl rfl) ?_
          refine sP rfl rfl rfl (pA rfl rfl) ?_
          refine lNil ?_
          refine wRet ?_
          have hd : doneE (rF s).2 ≠ 0 := by rw [hF]; simpa using hc3
          have he : freadE s = doneE st := by rw [freadE_done hlen hd, hF]
          exact rgs2 (rg_tmp (gives_sub (sub_nilF (freadL_err (by rw [freadE_done hlen hd]; exact hd))))) (rg_tmp (gives_sub (Sub.of_eq (avI he.symm))))
        · have hd0 : doneE (rF s).2 = 0 := by rw [hF]; simpa using hc3
          refine wSkip ?_
          refine wSeq ?_
          refine wSeq ?_
          refine wReg ?_
          refine sP rfl rfl rfl (pMs rfl rfl) ?_
          refine sP rfl rfl rfl (p_call rfl (fmay_p acc (by have := hI.len; have := hI.le; omega) hI.ok) ⟨Sub.refl, trivial⟩) ?_
          refine sP rfl rfl rfl (pA rfl rfl) ?_
          refine lNil ?_
          refine wSeq ?_
          refine wReg ?_
          refine sP rfl rfl rfl (pM rfl rfl) ?_
          refine sP rfl rfl rfl (p_icmp rfl rfl rfl rfl) ?_
          refine lNil ?_
          refine wCond rfl (fun hc4 => ?_) (fun hc4 => ?_)
          · refine wSeq ?_
            refine wReg ?_
            refine sP rfl rfl rfl (pM rfl rfl) ?_
            refine sP rfl rfl rfl (pA rfl rfl) ?_
            refine sP rfl rfl rfl (pA rfl rfl) ?_
            refine lNil ?_
            refine wRet ?_
            have hm : mayG chkF ltF acc ≠ 0 := by simpa using hc4
            have he : freadE s = mayG chkF ltF acc := by rw [freadE_may hlen hd0, hF]
            exact rgs2 (rg_tmp (gives_sub (sub_nilF (freadL_err (by rw [he]; exact hm))))) (rg_tmp (gives_sub (Sub.of_eq (avI he.symm))))
          · refine wSkip ?_
            refine wSeq ?_
            refine wReg ?_
            refine sP rfl rfl rfl (pMs rfl rfl) ?_
            refine sP rfl rfl rfl (pAs rfl rfl) ?_
            refine sP rfl rfl rfl (pA rfl rfl) ?_
            refine lNil ?_
            refine wRet ?_
            have hm : mayG chkF ltF acc = 0 := by simpa using hc4
            have he : freadE s = 0 := by rw [freadE_may hlen hd0, hF]; exact hm
            have hl : freadL s = acc := by rw [freadL_ok he, hF]
            rw [hl]
            exact rgs2 (rg_tmp (gives_sub Sub.refl)) (rg_tmp (gives_sub (Sub.of_eq (avI he.symm))))
end Go.Proofs.Ytmhkalalcmkpbaa

namespace Go.Proofs.Ytmhkalalcmkpbaa
open Go Go.RowKit
set_option linter.unusedVariables false
set_option linter.unusedSimpArgs false

set_option maxRecDepth 100000 in
theorem one_p {K : Prop} (r n : Int) (s t : ByteArray) : PFn Try.prog K 101 [iA r, iA n, sA s, sA t] (fA (oneF r n s t)) := by
  refine pfn Try.func101 rfl (by kernel_rfl) 18 rfl _ rfl (Nat.le_of_ble_eq_true rfl) (fun X w0 => ?_)
  refine wSeq ?_
  refine wReg ?_
  refine sAlloc rfl rfl rfl rfl ze87 (fun g8 => ?_)
  refine lNil ?_
  refine wSeq ?_
  refine wReg ?_
  refine sP rfl rfl rfl (pM rfl rfl) ?_
  refine sP rfl rfl rfl (pM rfl rfl) ?_
  refine sP rfl rfl rfl (p_build (res := [iA r, iA n]) rfl ze23 pl23 rfl rfl) ?_
  refine sP rfl rfl rfl (pM rfl rfl) ?_
  refine sP rfl rfl rfl (pM rfl rfl) ?_
  refine sP rfl rfl rfl (p_build (res := [iA n, iA 0, iA r]) rfl ze25 pl25 rfl rfl) ?_
  refine sP rfl rfl rfl (pM rfl rfl) ?_
  refine sP rfl rfl rfl (pM rfl rfl) ?_
  refine sP rfl rfl rfl (p_build (res := encF (oneF r n s t)) rfl ze87 pl87 rfl rfl) ?_
  refine sStore 0 rfl rfl rfl rfl rfl ty87 rfl rfl rfl (Nat.le_of_ble_eq_true rfl) ?_
  refine lNil ?_
  refine wRet ?_
  exact rgs1 (rg_cell rfl (List.mem_of_getElem? (i := 0) rfl) ty87 (.inl ⟨rfl, Nat.le_refl _, rfl⟩) (gives_sub Sub.refl))

theorem aw_ok : ∀ f ∈ [awA, awB], okF f := by
  intro f hf
  simp only [List.mem_cons, List.not_mem_nil, or_false] at hf
  rcases hf with rfl | rfl
  · exact ⟨by decide, by decide⟩
  · exact ⟨by decide, by decide⟩
theorem awsort_p : PFn Try.prog False 46 [slF [awB, awA, awB]] (slF [awA, awB]) := by
  have h := fsort_p [awB, awA, awB] (by decide)
  rw [aw_sort] at h
  exact h
theorem awput_p : PFn Try.prog False 45 [slF [awA, awB]] (.tup [sA (fputS [awA, awB]), iA 0]) := aw_put ▸ fput_p [awA, awB] (by decide) aw_ok
theorem awput_size : (fputS [awA, awB]).size < 9223372036854775807 := by
  rw [fputS_ok aw_put, ByteArray.size_append]
  have h1 := numS_size ([awA, awB] : List FactT).length
  have h2 := factsB_size [awA, awB] aw_ok (by decide)
  omega
theorem awread_p : PFn Try.prog False 43 [sA (fputS [awA, awB])] (.tup [slF [awA, awB], iA 0]) := by
  have h := fread_p (fputS [awA, awB]) awput_size
  obtain ⟨h1, h2⟩ := fread_put aw_put
  rw [h1, h2] at h
  exact h
theorem awsame_p : PFn Try.prog False 47 [slF [awA, awB], slF [awA, awB]] (bA true) := by
  have h := rfsame_p [awA, awB] [awA, awB] (by decide) (by decide)
  rw [decide_eq_true rfl] at h
  exact h
theorem awchk1_p : PFn Try.prog False 102 [fA ((1, 2), (2, 0, 2), 3, ⟨#[98]⟩, ⟨#[120]⟩)] (iA 5) := aw_chk1 ▸ fcheck_p ((1, 2), (2, 0, 2), 3, ⟨#[98]⟩, ⟨#[120]⟩) ⟨by decide, by decide⟩
theorem awchk2_p : PFn Try.prog False 102 [fA (oneF 1 2 ⟨#[]⟩ ⟨#[120]⟩)] (iA 14) := aw_chk2 ▸ fcheck_p (oneF 1 2 ⟨#[]⟩ ⟨#[120]⟩) ⟨by decide, by decide⟩
theorem awchk3_p : PFn Try.prog False 102 [fA ((0, 0), (0, 0, 0), 0, ⟨#[]⟩, ⟨#[]⟩)] (iA 2) := aw_chk3 ▸ fcheck_p ((0, 0), (0, 0, 0), 0, ⟨#[]⟩, ⟨#[]⟩) ⟨by decide, by decide⟩
theorem awless_p : PFn Try.prog False 49 [fA awA, fA awB] (bA true) := aw_less ▸ fless_p awA awB

set_option maxHeartbeats 1000000 in
set_option maxRecDepth 100000 in
theorem awake15_p : PFn Try.prog False 42 [] (bA true) := by
  refine pfn Try.func42 rfl (by kernel_rfl) 69 rfl _ rfl (Nat.le_of_ble_eq_true rfl) (fun X w0 => ?_)
  refine wSeq ?_
  refine wReg ?_
  refine sP rfl rfl rfl (pA rfl rfl) ?_
  refine lNil ?_
  refine wSeq ?_
  refine wReg ?_
  refine sP rfl rfl rfl (p_call rfl (one_p 1 2 ⟨#[98]⟩ ⟨#[120]⟩) ⟨Sub.refl, Sub.refl, Sub.refl, Sub.refl, trivial⟩) ?_
  refine sP rfl rfl rfl (p_call rfl (one_p 0 1 ⟨#[97]⟩ ⟨#[121]⟩) ⟨Sub.refl, Sub.refl, Sub.refl, Sub.refl, trivial⟩) ?_
  refine sP rfl rfl rfl (p_call rfl (one_p 1 2 ⟨#[98]⟩ ⟨#[120]⟩) ⟨Sub.refl, Sub.refl, Sub.refl, Sub.refl, trivial⟩) ?_
  refine sP rfl rfl rfl (p_buildSlice (res := [awB, awA, awB].flatMap encF) rfl ze87 Try.underlying26 ty87 (by decide) (by decide) rfl rfl rfl) ?_
  refine sP rfl rfl rfl (p_call rfl (awsort_p) ⟨Sub.refl, trivial⟩) ?_
  refine sP rfl rfl rfl (pAs rfl rfl) ?_
  refine lNil ?_
  refine wSeq ?_
  refine wReg ?_
  refine sP rfl rfl rfl (pMs rfl rfl) ?_
  refine sP rfl rfl rfl (p_call rfl (awput_p) ⟨Sub.refl, trivial⟩) ?_
  refine sP rfl rfl rfl (pMt rfl rfl) ?_
  refine sP rfl rfl rfl (p_extract rfl rfl rfl) ?_
  refine sP rfl rfl rfl (p_extract rfl rfl rfl) ?_
  refine sP rfl rfl rfl (pA rfl rfl) ?_
  refine sP rfl rfl rfl (pA rfl rfl) ?_
  refine lNil ?_
  refine wSeq ?_
  refine wReg ?_
  refine sP rfl rfl rfl (pM rfl rfl) ?_
  refine sP rfl rfl rfl (p_call rfl (awread_p) ⟨Sub.refl, trivial⟩) ?_
  refine sP rfl rfl rfl (pMt rfl rfl) ?_
  refine sP rfl rfl rfl (p_extract rfl rfl rfl) ?_
  refine sP rfl rfl rfl (p_extract rfl rfl rfl) ?_
  refine sP rfl rfl rfl (pAs rfl rfl) ?_
  refine sP rfl rfl rfl (pA rfl rfl) ?_
  refine lNil ?_
  refine wSeq ?_
  refine wReg ?_
  refine sP rfl rfl rfl (p_call rfl (one_p 1 2 ⟨#[98]⟩ ⟨#[120]⟩) ⟨Sub.refl, Sub.refl, Sub.refl, Sub.refl, trivial⟩) ?_
  refine sP rfl rfl rfl (p_call rfl (one_p 1 2 ⟨#[]⟩ ⟨#[120]⟩) ⟨Sub.refl, Sub.refl, Sub.refl, Sub.refl, trivial⟩) ?_
  refine sAlloc rfl rfl rfl rfl ze87 (fun g6 => ?_)
  refine sAlloc rfl rfl rfl rfl ze87 (fun g7 => ?_)
  refine sStore 0 rfl rfl rfl rfl rfl ty87 rfl rfl rfl (Nat.le_of_ble_eq_true rfl) ?_
  refine sStore 1 rfl rfl rfl rfl rfl ty87 rfl rfl rfl (Nat.le_of_ble_eq_true rfl) ?_
  refine lNil ?_
  refine wKeep [(1, slF [awA, awB]), (3, iA 0), (4, slF [awA, awB]), (5, iA 0), (6, .x (.pointer (some ⟨g6, 0, none⟩))), (7, .x (.pointer (some ⟨g7, 0, none⟩)))] [.cells g6 87 (encF awB), .cells g7 87 (encF (oneF 1 2 ⟨#[]⟩ ⟨#[120]⟩))] [] ⟨rfl, rfl, rfl, rfl, rfl, rfl, trivial⟩ rfl ?_
  refine wSeq ?_
  refine wReg ?_
  refine sP rfl rfl rfl (p_fieldAddr_own rfl rfl fl87_1 ty25 (by decide)) ?_
  refine sP rfl rfl rfl (p_fieldAddr_own rfl rfl fl25_2 ty3 (by decide)) ?_
  refine sStore1 0 rfl rfl rfl rfl rfl ty3 rfl rfl (Nat.le_of_ble_eq_true rfl) ?_
  refine lNil ?_
  refine wKeep [(1, slF [awA, awB]), (3, iA 0), (4, slF [awA, awB]), (5, iA 0), (6, .x (.pointer (some ⟨g6, 0, none⟩))), (7, .x (.pointer (some ⟨g7, 0, none⟩)))] [.cells g6 87 (encF ((1, 2), (2, 0, 2), 3, ⟨#[98]⟩, ⟨#[120]⟩)), .cells g7 87 (encF (oneF 1 2 ⟨#[]⟩ ⟨#[120]⟩))] [] ⟨rfl, rfl, rfl, rfl, rfl, rfl, trivial⟩ rfl ?_
  refine wSeq ?_
  refine wDraw 43 (by kernel_rfl) (by kernel_rfl) ?_
  refine sP rfl rfl rfl (pMs rfl rfl) ?_
  refine sP rfl rfl rfl (p_call rfl (one_p 0 1 ⟨#[97]⟩ ⟨#[121]⟩) ⟨Sub.refl, Sub.refl, Sub.refl, Sub.refl, trivial⟩) ?_
  refine sP rfl rfl rfl (p_call rfl (one_p 1 2 ⟨#[98]⟩ ⟨#[120]⟩) ⟨Sub.refl, Sub.refl, Sub.refl, Sub.refl, trivial⟩) ?_
  refine sP rfl rfl rfl (p_buildSlice (res := [awA, awB].flatMap encF) rfl ze87 Try.underlying26 ty87 (by decide) (by decide) rfl rfl rfl) ?_
  refine sP rfl rfl rfl (p_call rfl (awsame_p) ⟨Sub.refl, Sub.refl, trivial⟩) ?_
  refine sP rfl rfl rfl (pM rfl rfl) ?_
  refine sG rfl rfl rfl rfl rfl (pM rfl rfl) ?_
  refine sG rfl rfl rfl rfl rfl (p_icmp rfl rfl rfl rfl) ?_
  refine sP rfl rfl rfl (p_pick rfl rfl rfl) ?_
  refine sP rfl rfl rfl (pM rfl rfl) ?_
  refine sG rfl rfl rfl rfl rfl (pMs rfl rfl) ?_
  refine sG rfl rfl rfl rfl rfl (pMs rfl rfl) ?_
  refine sG rfl rfl rfl rfl rfl (p_call rfl (awsame_p) ⟨Sub.refl, Sub.refl, trivial⟩) ?_
  refine sP rfl rfl rfl (p_pick rfl rfl rfl) ?_
  refine sP rfl rfl rfl (pM rfl rfl) ?_
  refine sG rfl rfl rfl rfl rfl (pM rfl rfl) ?_
  refine sG rfl rfl rfl rfl rfl (p_icmp rfl rfl rfl rfl) ?_
  refine sP rfl rfl rfl (p_pick rfl rfl rfl) ?_
  refine sP rfl rfl rfl (pM rfl rfl) ?_
  refine sG rfl rfl rfl rfl rfl (pLdW 0 rfl rfl rfl ty87 rfl) ?_
  refine sG rfl rfl rfl rfl rfl (p_call rfl (awchk1_p) ⟨Sub.refl, trivial⟩) ?_
  refine sG rfl rfl rfl rfl rfl (p_icmp rfl rfl rfl rfl) ?_
  refine sP rfl rfl rfl (p_pick rfl rfl rfl) ?_
  refine sP rfl rfl rfl (pM rfl rfl) ?_
  refine sG rfl rfl rfl rfl rfl (pLdW 1 rfl rfl rfl ty87 rfl) ?_
  refine sG rfl rfl rfl rfl rfl (p_call rfl (awchk2_p) ⟨Sub.refl, trivial⟩) ?_
  refine sG rfl rfl rfl rfl rfl (p_icmp rfl rfl rfl rfl) ?_
  refine sP rfl rfl rfl (p_pick rfl rfl rfl) ?_
  refine sP rfl rfl rfl (pM rfl rfl) ?_
  refine sG rfl rfl rfl rfl rfl (p_build (res := encF ((0, 0), (0, 0, 0), 0, ⟨#[]⟩, ⟨#[]⟩)) rfl ze87 pl87 rfl rfl) ?_
  refine sG rfl rfl rfl rfl rfl (p_call rfl (awchk3_p) ⟨Sub.refl, trivial⟩) ?_
  refine sG rfl rfl rfl rfl rfl (p_icmp rfl rfl rfl rfl) ?_
  refine sP rfl rfl rfl (p_pick rfl rfl rfl) ?_
  refine sP rfl rfl rfl (pM rfl rfl) ?_
  refine sG rfl rfl rfl rfl rfl (pMs rfl rfl) ?_
  refine sG rfl rfl rfl rfl rfl (pIdx (l := [awA, awB]) (enc := encF) 0 rfl rfl Try.underlying26 ty87 (by decide) rfl (fun _ => rfl) rfl rfl rfl) ?_
  refine sG rfl rfl rfl rfl rfl (pLdE rfl rfl ty87 rfl) ?_
  refine sG rfl rfl rfl rfl rfl (pMs rfl rfl) ?_
  refine sG rfl rfl rfl rfl rfl (pIdx (l := [awA, awB]) (enc := encF) 1 rfl rfl Try.underlying26 ty87 (by decide) rfl (fun _ => rfl) rfl rfl rfl) ?_
  refine sG rfl rfl rfl rfl rfl (pLdE rfl rfl ty87 rfl) ?_
  refine sG rfl rfl rfl rfl rfl (p_call rfl (awless_p) ⟨Sub.refl, Sub.refl, trivial⟩) ?_
  refine sP rfl rfl rfl (p_pick rfl rfl rfl) ?_
  refine sP rfl rfl rfl (pA rfl rfl) ?_
  refine lTail ?_
  refine lNil ?_
  refine wRet ?_
  exact rgs1 (rg_tmp (gives_sub (Sub.of_eq (rfl))))
end Go.Proofs.Ytmhkalalcmkpbaa

namespace Go.Proofs.Ytmhkalalcmkpbaa
open Go Go.RowKit
set_option linter.unusedVariables false
set_option linter.unusedSimpArgs false

def fewOne (f : FactT) : Bool := decide (f.2.2.2.1.size ≤ 100) && decide (f.2.2.2.2.size ≤ 1000)
def fewF (l : List FactT) : Bool := decide (l.length ≤ 30) && l.all fewOne
theorem fewOne_no {d : FactT} (h : (decide ((100 : Int) < (d.2.2.2.1.size : Nat)) || decide ((1000 : Int) < (d.2.2.2.2.size : Nat))) = true) : fewOne d = false := by
  unfold fewOne
  rw [Bool.or_eq_true, decide_eq_true_eq, decide_eq_true_eq] at h
  rw [Bool.and_eq_false_iff, decide_eq_false_iff_not, decide_eq_false_iff_not]
  omega
theorem fewOne_yes {d : FactT} (h : (decide ((100 : Int) < (d.2.2.2.1.size : Nat)) || decide ((1000 : Int) < (d.2.2.2.2.size : Nat))) = false) : fewOne d = true := by
  unfold fewOne
  rw [Bool.or_eq_false_iff, decide_eq_false_iff_not, decide_eq_false_iff_not] at h
  rw [Bool.and_eq_true, decide_eq_true_eq, decide_eq_true_eq]
  omega
theorem fewF_long {l : List FactT} (h : 30 < l.length) : fewF l = false := by
  unfold fewF; rw [decide_eq_false (by omega)]; rfl
theorem fewF_no {l : List FactT} {i : Nat} {d : FactT} (hd : l[i]? = some d) (h : fewOne d = false) : fewF l = false := by
  unfold fewF
  rw [Bool.and_eq_false_iff]
  exact .inr (List.all_eq_false.2 ⟨d, List.mem_of_getElem? hd, by rw [h]; decide⟩)
theorem fewF_yes {l : List FactT} (hl : ¬ 30 < l.length) (h : ∀ (j : Nat) y, l[j]? = some y → fewOne y = true) : fewF l = true := by
  unfold fewF
  rw [Bool.and_eq_true, decide_eq_true_eq]
  refine ⟨by omega, List.all_eq_true.2 fun y hy => ?_⟩
  obtain ⟨j, hj⟩ := List.mem_iff_getElem?.1 hy
  exact h j y hj
theorem fewF_ok {l : List FactT} (h : fewF l = true) : l.length ≤ 30 ∧ ∀ f ∈ l, okF f := by
  unfold fewF at h
  rw [Bool.and_eq_true, decide_eq_true_eq] at h
  refine ⟨h.1, fun f hf => ?_⟩
  have h2 := List.all_eq_true.1 h.2 f hf
  unfold fewOne at h2
  rw [Bool.and_eq_true, decide_eq_true_eq, decide_eq_true_eq] at h2
  exact ⟨by omega, by omega⟩
section
variable {P : Program} {K : Prop} {N : Nat} {X : Nat → Prop} {h : List HObj} {f : Nat → AV} {o : Oper}
theorem p_beq {t t' : TypeId} {x y : Operand} {a b : Bool} {r : Bool} (ho : o.op = .binOp .eql t x y t') (hx : evalT f x = .x (.bool a)) (hy : evalT f y = .x (.bool b)) (ht : P.underlying t = some .bool) (hr : (a == b) = r) : PureOp P K N X h f o (.x (.bool r)) := pure_run fun ac w w0 env H => by
  rw [ho] at H
  have g1 := H x (by simp [Op.operands])
  have g2 := H y (by simp [Op.operands])
  rw [hx, rep_x] at g1
  rw [hy, rep_x] at g2
  refine ⟨.bool r, ?_, rep_x.2 rfl⟩
  subst hr
  have := run_eql_bool (P := P) w t a b ht
  simp [execOp, ho, g1, g2, eqGuard, this]
end
theorem lt3 (x y : FactT) : (ltF x y = true ∧ ltF y x = false ∧ decide (x = y) = false) ∨ (ltF x y = false ∧ ltF y x = true ∧ decide (x = y) = false) ∨ (ltF x y = false ∧ ltF y x = false ∧ decide (x = y) = true) := by
  cases h1 : ltF x y with
  | true =>
    refine .inl ⟨rfl, stoF.asymm h1, decide_eq_false fun e => ?_⟩
    subst e; rw [stoF.irrefl] at h1; cases h1
  | false =>
    cases h2 : ltF y x with
    | true =>
      refine .inr (.inl ⟨rfl, rfl, decide_eq_false fun e => ?_⟩)
      subst e; rw [stoF.irrefl] at h2; cases h2
    | false => exact .inr (.inr ⟨rfl, rfl, decide_eq_true (stoF.total x y h1 h2)⟩)
theorem less_is {x y : FactT} {b : Bool} (h : ltF x y = b) : PFn Try.prog False 49 [fA x, fA y] (bA b) := by
  have h2 := fless_p (K := False) x y
  rw [h] at h2; exact h2

set_option maxRecDepth 100000 in
theorem few_p (l : List FactT) : PFn Try.prog False 41 [slF l] (bA (fewF l)) := by
  refine pfn Try.func41 rfl (by kernel_rfl) 29 rfl _ rfl (Nat.le_of_ble_eq_true rfl) (fun X w0 => ?_)
  refine wSeq ?_
  refine wReg ?_
  refine sP rfl rfl rfl (pA rfl rfl) ?_
  refine lNil ?_
  refine wSeq ?_
  refine wSeq ?_
  refine wReg ?_
  refine sP rfl rfl rfl (pMs rfl rfl) ?_
  refine sP rfl rfl rfl (p_len_sl rfl rfl Try.underlying26) ?_
  refine sP rfl rfl rfl (p_icmp rfl rfl rfl rfl) ?_
  refine lNil ?_
  refine wCond rfl (fun hc1 => ?_) (fun hc1 => ?_)
  · refine wSeq ?_
    refine wReg ?_
    refine sP rfl rfl rfl (pA rfl rfl) ?_
    refine lNil ?_
    refine wRet ?_
    have h : 30 < l.length := by have h := hc1; simp at h; omega
    exact rgs1 (rg_tmp (gives_sub (Sub.of_eq (avB (fewF_long h).symm))))
  · have hlen : ¬ 30 < l.length := by have h := hc1; simp at h; omega
    refine wSkip ?_
    refine wSeq ?_
    refine wSeq ?_
    refine wReg ?_
    refine sP rfl rfl rfl (pA rfl rfl) ?_
    refine lNil ?_
    refine wBlock ?_
    refine wLoop (fun mm L h => ∃ i, mm = l.length - i ∧ i ≤ l.length ∧ (∀ (j : Nat) y, j < i → l[j]? = some y → fewOne y = true) ∧ L = [(0, slF l), (3, iA (i : Nat))] ∧ h = []) ⟨_, _, _, _, ⟨0, rfl, Nat.zero_le _, fun j y hj => absurd hj (by omega), rfl, rfl⟩, ⟨rfl, rfl, trivial⟩, rfl⟩ ?_
    rintro mm L h ⟨i, rfl, hi, h0, rfl, rfl⟩
    refine wSeq ?_
    refine wSeq ?_
    refine wReg ?_
    refine sP rfl rfl rfl (pM rfl rfl) ?_
    refine sP rfl rfl rfl (pMs rfl rfl) ?_
    refine sP rfl rfl rfl (p_len_sl rfl rfl Try.underlying26) ?_
    refine sP rfl rfl rfl (p_icmp rfl rfl rfl rfl) ?_
    refine lNil ?_
    refine wCond rfl (fun hc2 => ?_) (fun hc2 => ?_)
    · have hlt : i < l.length := by simpa using hc2
      obtain ⟨d, hd⟩ := getL hlt
      refine wSkip ?_
      refine wSeq ?_
      refine wBlock ?_
      refine wCut (fun L h => ∃ b : Bool, b = (decide ((100 : Int) < (d.2.2.2.1.size : Nat)) || decide ((1000 : Int) < (d.2.2.2.2.size : Nat))) ∧ L = [(0, slF l), (3, iA (i : Nat)), (28, bA b)] ∧ h = []) ?_ ?_
      · cases hb : (decide ((100 : Int) < (d.2.2.2.1.size : Nat))) with
        | true =>
          refine wReg ?_
          refine sP rfl rfl rfl (pMs rfl rfl) ?_
          refine sP rfl rfl rfl (pM rfl rfl) ?_
          refine sP rfl rfl rfl (pIdx i rfl rfl Try.underlying26 ty87 (by decide) rfl (fun _ => rfl) rfl rfl hd) ?_
          refine sP rfl rfl rfl (p_fieldAddr_ip rfl rfl fl87_3 ty9 (by decide)) ?_
          refine sP rfl rfl rfl (pLd1 rfl rfl ty9) ?_
          refine sP rfl rfl rfl (p_len_str rfl rfl Try.underlying9) ?_
          refine sP rfl rfl rfl (p_icmp rfl rfl rfl (congrArg some hb)) ?_
          refine sP rfl rfl rfl (pM rfl rfl) ?_
          refine sU rfl rfl rfl (by decide) rfl rfl ?_
          refine sU rfl rfl rfl (by decide) rfl rfl ?_
          refine sU rfl rfl rfl (by decide) rfl rfl ?_
          refine sU rfl rfl rfl (by decide) rfl rfl ?_
          refine sU rfl rfl rfl (by decide) rfl rfl ?_
          refine sU rfl rfl rfl (by decide) rfl rfl ?_
          refine sU rfl rfl rfl (by decide) rfl rfl ?_
          refine sP rfl rfl rfl (p_pick rfl rfl rfl) ?_
          refine lNil ?_
          exact ⟨_, [], [], ⟨_, (by exact rfl), rfl, rfl⟩, ⟨rfl, rfl, rfl, trivial⟩, rfl⟩
        | false =>
          refine wReg ?_
          refine sP rfl rfl rfl (pMs rfl rfl) ?_
          refine sP rfl rfl rfl (pM rfl rfl) ?_
          refine sP rfl rfl rfl (pIdx i rfl rfl Try.underlying26 ty87 (by decide) rfl (fun _ => rfl) rfl rfl hd) ?_
          refine sP rfl rfl rfl (p_fieldAddr_ip rfl rfl fl87_3 ty9 (by decide)) ?_
          refine sP rfl rfl rfl (pLd1 rfl rfl ty9) ?_
          refine sP rfl rfl rfl (p_len_str rfl rfl Try.underlying9) ?_
          refine sP rfl rfl rfl (p_icmp rfl rfl rfl (congrArg some hb)) ?_
          refine sP rfl rfl rfl (pM rfl rfl) ?_
          refine sG rfl rfl rfl rfl rfl (pMs rfl rfl) ?_
          refine sG rfl rfl rfl rfl rfl (pM rfl rfl) ?_
          refine sG rfl rfl rfl rfl rfl (pIdx i rfl rfl Try.underlying26 ty87 (by decide) rfl (fun _ => rfl) rfl rfl hd) ?_
          refine sG rfl rfl rfl rfl rfl (p_fieldAddr_ip rfl rfl fl87_4 ty9 (by decide)) ?_
          refine sG rfl rfl rfl rfl rfl (pLd1 rfl rfl ty9) ?_
          refine sG rfl rfl rfl rfl rfl (p_len_str rfl rfl Try.underlying9) ?_
          refine sG rfl rfl rfl rfl rfl (p_icmp rfl rfl rfl rfl) ?_
          refine sP rfl rfl rfl (p_pick rfl rfl rfl) ?_
          refine lNil ?_
          exact ⟨_, [], [], ⟨_, (by exact rfl), rfl, rfl⟩, ⟨rfl, rfl, rfl, trivial⟩, rfl⟩
      · rintro L h ⟨b, hb, rfl, rfl⟩
        refine wCond rfl (fun hc3 => ?_) (fun hc3 => ?_)
        · refine wSeq ?_
          refine wReg ?_
          refine sP rfl rfl rfl (pA rfl rfl) ?_
          refine lNil ?_
          refine wRet ?_
          exact rgs1 (rg_tmp (gives_sub (Sub.of_eq (avB (fewF_no hd (fewOne_no (hb.symm.trans hc3))).symm))))
        · refine wSkip ?_
          refine wReg ?_
          refine sP rfl rfl rfl (pM rfl rfl) ?_
          refine sP rfl rfl rfl (p_iar rfl rfl rfl rfl) ?_
          refine sP rfl rfl rfl (pA rfl rfl) ?_
          refine lNil ?_
          refine ⟨_, _, [], [], ?_, ⟨i + 1, rfl, hlt, fun j y hj hy => ?_, rfl, rfl⟩, ⟨rfl, avI (wrapI (by omega) (by omega)), trivial⟩, rfl⟩
          · omega
          · rcases Nat.lt_or_ge j i with h | h
            · exact h0 j y h hy
            · obtain rfl : j = i := by omega
              rw [hd] at hy; injection hy with hy; rw [← hy]; exact fewOne_yes (hb.symm.trans hc3)
    · have hge : ¬ i < l.length := by simpa using hc2
      refine wExit ?_
      refine wSeq ?_
      refine wReg ?_
      refine sP rfl rfl rfl (pA rfl rfl) ?_
      refine lNil ?_
      refine wRet ?_
      exact rgs1 (rg_tmp (gives_sub (Sub.of_eq (avB (fewF_yes hlen (fun j y hy => h0 j y (by have := (List.getElem?_eq_some_iff.1 hy).1; omega) hy)).symm))))
end Go.Proofs.Ytmhkalalcmkpbaa
