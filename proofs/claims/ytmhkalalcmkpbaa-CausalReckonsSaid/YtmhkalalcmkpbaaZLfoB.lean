/-
  Fcomp Fsort Frc Frs Fread Aw15 LfoB
-/
import Derived.Test.YtmhkalalcmkpbaaZC4
import Derived.Test.YtmhkalalcmkpbaaZC5
import Derived.Test.YtmhkalalcmkpbaaZC6
import Derived.Test.YtmhkalalcmkpbaaZFacBack2
import Derived.Test.YtmhkalalcmkpbaaZFlay
import Derived.Test.YtmhkalalcmkpbaaZFput
import Derived.Test.YtmhkalalcmkpbaaZFr
import Derived.Test.YtmhkalalcmkpbaaZFrb
import Derived.Test.YtmhkalalcmkpbaaZOrdC
import Derived.Test.YtmhkalalcmkpbaaZRdr
import Derived.Shelf.SlSortCmp.NoneTotal
import Derived.Laws.Small
namespace Go.Proofs.Ytmhkalalcmkpbaa
open Go Go.RowKit
set_option linter.unusedVariables false
set_option linter.unusedSimpArgs false

theorem encF8 (x : FactT) : (encF x).length = 8 := rfl
theorem fAt {l : List FactT} {rest : List AV} {i off : Nat} {x : FactT} (h : l[i]? = some x) (ho : off = i * 8) : ((l.flatMap encF ++ rest).drop off).take 8 = encF x := by
  subst ho; exact flat_at encF8 h
theorem fLen (l : List FactT) (rest : List AV) : (l.flatMap encF ++ rest).length = l.length * 8 + rest.length := by rw [List.length_append, flat_len_ encF8]
theorem fLe {l : List FactT} {rest : List AV} {i off : Nat} (h : i < l.length) (ho : off = i * 8) : off + 8 ≤ (l.flatMap encF ++ rest).length := by rw [fLen]; omega
theorem fRow {m : List FactT} {l : List FactT} {rest tail : List AV} {kk : Nat} (hm : m.take kk = l) (hk : kk ≤ m.length) : ((m.flatMap encF ++ rest).take (0 + kk * 8) ++ tail).take (kk * 8) = l.flatMap encF := by
  have e : (m.flatMap encF ++ rest).take (0 + kk * 8) = l.flatMap encF := by
    rw [Nat.zero_add, List.take_append_of_le_length (by rw [flat_len_ encF8]; exact Nat.mul_le_mul_right 8 hk), flat_take_ encF8, hm]
  have e2 : (l.flatMap encF).length = kk * 8 := by rw [flat_len_ encF8, ← hm, List.length_take, Nat.min_eq_left hk]
  rw [e, List.take_append_of_le_length (by omega), List.take_of_length_le (by omega)]
theorem fRowAll (l : List FactT) (rest : List AV) : (l.flatMap encF ++ rest).take (l.length * 8) = l.flatMap encF := by
  have e2 : (l.flatMap encF).length = l.length * 8 := flat_len_ encF8 l
  rw [← e2, List.take_left]
def factRow (v : Value) (l : List FactT) : HObj := .row v 87 8 l.length (l.flatMap encF)
def CmR (l : List FactT) (av : AV) (h' : List HObj) : Prop := ∃ v', av = .x v' ∧ h' = [factRow v' l]

set_option maxHeartbeats 1000000 in
set_option maxRecDepth 100000 in
theorem fcomp_m {K : Prop} (v : Value) (l : List FactT) (hn : l.length < 1000000) : MFn Try.prog K 114 [.x v] [factRow v l] (CmR (compact l)) := by
  refine mfn Try.func114 rfl (by kernel_rfl) 61 rfl _ rfl (Nat.le_of_ble_eq_true rfl) (fun X w0 => ?_)
  refine wSeq ?_
  refine wReg ?_
  refine sP rfl rfl rfl (pA rfl rfl) ?_
  refine lNil ?_
  refine wSeq ?_
  refine wSeq ?_
  refine wReg ?_
  refine sP rfl rfl rfl (pM rfl rfl) ?_
  refine sP rfl rfl rfl (p_len_row rfl rfl (List.mem_of_getElem? (i := 0) rfl) Try.underlying26) ?_
  refine sP rfl rfl rfl (p_icmp rfl rfl rfl rfl) ?_
  refine lNil ?_
  refine wCond rfl (fun hc1 => ?_) (fun hc1 => ?_)
  · refine wSeq ?_
    refine wReg ?_
    refine sP rfl rfl rfl (pM rfl rfl) ?_
    refine sP rfl rfl rfl (pA rfl rfl) ?_
    refine lNil ?_
    refine wRet ?_
    have h : l.length < 2 := by have h := hc1; simp at h; omega
    rw [compact_short h]
    exact ⟨_, [factRow v l], [], rfl, ⟨v, rfl, rfl⟩, rgm_tmp (r := []) rfl Sub.refl⟩
  · have h2 : 2 ≤ l.length := by have h := hc1; simp at h; omega
    refine wRowCells 0 rfl (by omega) (fun g cap hv hnc hcm => ?_)
    subst hv
    refine wSkip ?_
    refine wSeq ?_
    refine wSeq ?_
    refine wReg ?_
    refine sP rfl rfl rfl (pA rfl rfl) ?_
    refine lNil ?_
    refine wBlock ?_
    refine wLoop (fun mm L h => ∃ k, mm = l.length - k ∧ 1 ≤ k ∧ k ≤ l.length ∧ compact (l.take k) = l.take k ∧ L = [(0, .x (.slice (some ⟨g, 0, none⟩) l.length cap)), (3, iA (k : Nat))] ∧ h = [.cells g 87 (l.flatMap encF ++ List.replicate (cap * 8 - l.length * 8) .any)]) ⟨_, _, _, _, ⟨1, rfl, Nat.le_refl _, by omega, compact_short (by rw [List.length_take]; omega), rfl, rfl⟩, ⟨rfl, rfl, trivial⟩, rfl⟩ ?_
    rintro mm L h ⟨k, rfl, hk1, hkn, hcp, rfl, rfl⟩
    refine wSeq ?_
    refine wSeq ?_
    refine wReg ?_
    refine sP rfl rfl rfl (pM rfl rfl) ?_
    refine sP rfl rfl rfl (pM rfl rfl) ?_
    refine sP rfl rfl rfl (p_len_x rfl rfl Try.underlying26) ?_
    refine sP rfl rfl rfl (p_icmp rfl rfl rfl rfl) ?_
    refine lNil ?_
    refine wCond rfl (fun hc2 => ?_) (fun hc2 => ?_)
    · have hk : k < l.length := by have h := hc2; simp at h; omega
      obtain ⟨x, hx⟩ := getL hk
      obtain ⟨y, hy⟩ := getL (l := l) (i := k - 1) (by omega)
      have hz : IntKind.i64.wrap ((k : Int) - 1) = ((k - 1 : Nat) : Int) := by rw [wrapI (by omega) (by omega)]; omega
      refine wSkip ?_
      refine wSeq ?_
      refine wBlock ?_
      refine wSeq ?_
      refine wDraw 10 (by kernel_rfl) (by kernel_rfl) ?_
      refine sP rfl rfl rfl (pM rfl rfl) ?_
      refine sP rfl rfl rfl (pM rfl rfl) ?_
      refine sP rfl rfl rfl (p_indexAddr_ow (k) rfl rfl Try.underlying26 ty87 rfl rfl hk) ?_
      refine sP rfl rfl rfl (pLdO 0 rfl rfl rfl ty87 (fLe hk (by omega)) (fAt hx (by omega))) ?_
      refine sP rfl rfl rfl (pM rfl rfl) ?_
      refine sP rfl rfl rfl (pM rfl rfl) ?_
      refine sP rfl rfl rfl (p_iar rfl rfl rfl rfl) ?_
      refine sP rfl rfl rfl (p_indexAddr_ow (k - 1) rfl rfl Try.underlying26 ty87 rfl hz (by omega)) ?_
      refine sP rfl rfl rfl (pLdO 0 rfl rfl rfl ty87 (fLe (i := k - 1) (by omega) (by omega)) (fAt hy (by omega))) ?_
      refine sP rfl rfl rfl (p_eqs rfl rfl rfl rfl rfl guardF (fun w => eqF w x y)) ?_
      refine lTail ?_
      refine lNil ?_
      refine wCond rfl (fun hc3 => ?_) (fun hc3 => ?_)
      · have hxy : x = y := by simpa using hc3
        refine wSeq ?_
        refine wReg ?_
        refine sP rfl rfl rfl (pM rfl rfl) ?_
        refine sP rfl rfl rfl (pM rfl rfl) ?_
        refine sP rfl rfl rfl (p_slice_ow k l.length rfl rfl Try.underlying26 ty87 ⟨_, _, rfl, rfl⟩ rfl (by omega) (Nat.le_refl _) hnc (by omega)) ?_
        refine sP rfl rfl rfl (pA rfl rfl) ?_
        refine lNil ?_
        refine wSeq ?_
        refine wSeq ?_
        refine wReg ?_
        refine sP rfl rfl rfl (pA rfl rfl) ?_
        refine lNil ?_
        refine wBlock ?_
        refine wLoop (fun mm L h => ∃ kk k2 m, mm = l.length - (k + k2) ∧ 1 ≤ k2 ∧ k + k2 ≤ l.length ∧ CompG l m (k + k2) kk ∧ L = [(0, .x (.slice (some ⟨g, 0, none⟩) l.length cap)), (3, iA (kk : Nat)), (4, .x (.slice (some ⟨g, 0 + k * 8, none⟩) (l.length - k) (cap - k))), (5, iA (k2 : Nat))] ∧ h = [.cells g 87 (m.flatMap encF ++ List.replicate (cap * 8 - l.length * 8) .any)]) ⟨_, _, _, _, ⟨k, 1, l, rfl, Nat.le_refl _, hk, CompG.start hx hk1 (by rw [hy, hxy]) hcp, rfl, rfl⟩, ⟨rfl, rfl, rfl, rfl, trivial⟩, rfl⟩ ?_
        rintro mm L h ⟨kk, k2, m, rfl, hk2, hk3, hC, rfl, rfl⟩
        have hms := hC.size
        have hlt := hC.lt
        refine wSeq ?_
        refine wSeq ?_
        refine wReg ?_
        refine sP rfl rfl rfl (pM rfl rfl) ?_
        refine sP rfl rfl rfl (pM rfl rfl) ?_
        refine sP rfl rfl rfl (p_len_x rfl rfl Try.underlying26) ?_
        refine sP rfl rfl rfl (p_icmp rfl rfl rfl rfl) ?_
        refine lNil ?_
        refine wCond rfl (fun hc4 => ?_) (fun hc4 => ?_)
        · have hk4 : k + (k2 + 1) ≤ l.length := by have h := hc4; simp at h; omega
          obtain ⟨u1, hul⟩ : ∃ u, l[k + k2]? = some u := getL (by omega)
          obtain ⟨u2, hvl⟩ : ∃ u, l[k + k2 - 1]? = some u := getL (by omega)
          have hu : m[k + k2]? = some u1 := by rw [hC.high _ (by omega)]; exact hul
          have hv : m[k + k2 - 1]? = some u2 := by rw [hC.high _ (by omega)]; exact hvl
          have hz2 : IntKind.i64.wrap ((k2 : Int) - 1) = ((k2 - 1 : Nat) : Int) := by rw [wrapI (by omega) (by omega)]; omega
          refine wSkip ?_
          refine wSeq ?_
          refine wBlock ?_
          refine wSeq ?_
          refine wDraw 10 (by kernel_rfl) (by kernel_rfl) ?_
          refine sP rfl rfl rfl (pM rfl rfl) ?_
          refine sP rfl rfl rfl (pM rfl rfl) ?_
          refine sP rfl rfl rfl (p_indexAddr_ow (k2) rfl rfl Try.underlying26 ty87 rfl rfl (by omega)) ?_
          refine sP rfl rfl rfl (pLdO 0 rfl rfl rfl ty87 (fLe (i := k + k2) (by omega) (by omega)) (fAt hu (by omega))) ?_
          refine sP rfl rfl rfl (pM rfl rfl) ?_
          refine sP rfl rfl rfl (pM rfl rfl) ?_
          refine sP rfl rfl rfl (p_iar rfl rfl rfl rfl) ?_
          refine sP rfl rfl rfl (p_indexAddr_ow (k2 - 1) rfl rfl Try.underlying26 ty87 rfl hz2 (by omega)) ?_
          refine sP rfl rfl rfl (pLdO 0 rfl rfl rfl ty87 (fLe (i := k + k2 - 1) (by omega) (by omega)) (fAt hv (by omega))) ?_
          refine sP rfl rfl rfl (p_nes rfl rfl rfl rfl rfl guardF (fun w => eqF w u1 u2)) ?_
          refine lTail ?_
          refine lNil ?_
          refine wCond rfl (fun hc5 => ?_) (fun hc5 => ?_)
          · refine wSeq ?_
            refine wReg ?_
            refine sP rfl rfl rfl (pM rfl rfl) ?_
            refine sP rfl rfl rfl (pM rfl rfl) ?_
            refine sP rfl rfl rfl (pM rfl rfl) ?_
            refine sP rfl rfl rfl (pM rfl rfl) ?_
            refine sP rfl rfl rfl (p_indexAddr_ow (k2) rfl rfl Try.underlying26 ty87 rfl rfl (by omega)) ?_
            refine sP rfl rfl rfl (pLdO 0 rfl rfl rfl ty87 (fLe (i := k + k2) (by omega) (by omega)) (fAt hu (by omega))) ?_
            refine sP rfl rfl rfl (p_indexAddr_ow (kk) rfl rfl Try.underlying26 ty87 rfl rfl (by omega)) ?_
            refine sStore 0 rfl rfl rfl rfl rfl ty87 rfl rfl rfl (fLe (i := kk) (by omega) (by omega)) ?_
            refine lNil ?_
            refine wReg ?_
            refine sP rfl rfl rfl (pM rfl rfl) ?_
            refine sP rfl rfl rfl (p_iar rfl rfl rfl rfl) ?_
            refine sP rfl rfl rfl (pA rfl rfl) ?_
            refine lNil ?_
            refine wReg ?_
            refine sP rfl rfl rfl (pM rfl rfl) ?_
            refine sP rfl rfl rfl (p_iar rfl rfl rfl rfl) ?_
            refine sP rfl rfl rfl (pA rfl rfl) ?_
            refine lNil ?_
            have hne : u1 ≠ u2 := by simpa using hc5
            refine ⟨_, _, [.cells g 87 ((m.set kk u1).flatMap encF ++ List.replicate (cap * 8 - l.length * 8) .any)], [], ?_, ⟨kk + 1, k2 + 1, m.set kk u1, rfl, by omega, hk4, hC.keep hul (by omega) hvl hne, rfl, rfl⟩, ⟨rfl, avI (wrapI (by omega) (by omega)), rfl, avI (wrapI (by omega) (by omega)), trivial⟩, ?_⟩
            · omega
            · show [HObj.cells g _ (spl _ (0 + kk * 8) _)] = _
              rw [Nat.zero_add, flat_spl encF8 (by omega)]
              rfl
          · refine wSkip ?_
            refine wReg ?_
            refine sP rfl rfl rfl (pM rfl rfl) ?_
            refine sP rfl rfl rfl (p_iar rfl rfl rfl rfl) ?_
            refine sP rfl rfl rfl (pA rfl rfl) ?_
            refine lNil ?_
            have hne : u1 = u2 := by simpa using hc5
            refine ⟨_, _, [.cells g 87 (m.flatMap encF ++ List.replicate (cap * 8 - l.length * 8) .any)], [], ?_, ⟨kk, k2 + 1, m, rfl, by omega, hk4, hC.skip hul (by omega) (by rw [hvl, hne]), rfl, rfl⟩, ⟨rfl, rfl, rfl, avI (wrapI (by omega) (by omega)), trivial⟩, rfl⟩
            omega
        · have hk5 : k + k2 = l.length := by have h := hc4; simp at h; omega
          rw [hk5] at hC
          have hRl : (List.replicate (cap * 8 - l.length * 8) .any : List AV).length = cap * 8 - l.length * 8 := List.length_replicate
          refine wExit ?_
          refine wSeq ?_
          refine wReg ?_
          refine sP rfl rfl rfl (pM rfl rfl) ?_
          refine sP rfl rfl rfl (pM rfl rfl) ?_
          refine sP rfl rfl rfl (p_slice_ow kk l.length rfl rfl Try.underlying26 ty87 ⟨_, _, rfl, rfl⟩ rfl (by omega) (Nat.le_refl _) hnc (by omega)) ?_
          refine sClear (k := 8) 0 rfl rfl rfl Try.underlying26 ze87 rfl (by decide) rfl rfl (by omega) (by rw [fLen]; omega) ?_
          refine lNil ?_
          refine wSeq ?_
          refine wReg ?_
          refine sP rfl rfl rfl (pM rfl rfl) ?_
          refine sP rfl rfl rfl (pM rfl rfl) ?_
          refine sP rfl rfl rfl (p_slice_ow 0 kk rfl rfl Try.underlying26 ty87 rfl ⟨_, _, rfl, rfl⟩ (Nat.zero_le _) (by omega) hnc (by omega)) ?_
          refine sP rfl rfl rfl (pA rfl rfl) ?_
          refine lNil ?_
          refine wCellsRow 0 8 kk rfl (by omega) hcm (by simp only [List.length_append, List.length_take, List.length_replicate, flat_len_ encF8]; omega) ?_
          refine wRet ?_
          refine ⟨_, [_], [], rfl, ⟨_, rfl, ?_⟩, rgm_tmp (r := []) rfl Sub.refl⟩
          rw [factRow, ← hC.all.1, fRow rfl (by omega)]
          congr 2
          rw [hC.all.1, ← hC.all.2]
      · refine wSkip ?_
        refine wReg ?_
        refine sP rfl rfl rfl (pM rfl rfl) ?_
        refine sP rfl rfl rfl (p_iar rfl rfl rfl rfl) ?_
        refine sP rfl rfl rfl (pA rfl rfl) ?_
        refine lNil ?_
        have hne : x ≠ y := by simpa using hc3
        refine ⟨_, _, [.cells g 87 (l.flatMap encF ++ List.replicate (cap * 8 - l.length * 8) .any)], [], ?_, ⟨k + 1, rfl, by omega, hk, compact_next hx hk1 hy hne hcp, rfl, rfl⟩, ⟨rfl, avI (wrapI (by omega) (by omega)), trivial⟩, rfl⟩
        omega
    · have hge : k = l.length := by have h := hc2; simp at h; omega
      rw [hge, List.take_length] at hcp
      refine wExit ?_
      refine wSeq ?_
      refine wReg ?_
      refine sP rfl rfl rfl (pM rfl rfl) ?_
      refine sP rfl rfl rfl (pA rfl rfl) ?_
      refine lNil ?_
      refine wCellsRow 0 8 l.length rfl hnc hcm (by simp only [List.length_append, List.length_replicate, flat_len_ encF8]; omega) ?_
      refine wRet ?_
      refine ⟨_, [_], [], rfl, ⟨_, rfl, ?_⟩, rgm_tmp (r := []) rfl Sub.refl⟩
      rw [hcp, factRow, fRowAll]
end Go.Proofs.Ytmhkalalcmkpbaa

namespace Go.Proofs.Ytmhkalalcmkpbaa
open Go Go.Shelf Go.RowKit
open Go.Sort (HoldsK size_flatK get_flatK size_putRowK putRowK PermIn SortedIn flatK)
set_option linter.unusedVariables false
set_option linter.unusedSimpArgs false

theorem CmR.one {l : List FactT} {av : AV} {h' : List HObj} (h : CmR l av h') : ∃ p, h' = [p] := by
  obtain ⟨v, _, h2⟩ := h; exact ⟨_, h2⟩
theorem CmR.pq {l : List FactT} {av : AV} {p : HObj} (h : CmR l av [p]) : ∃ v', av = .x v' ∧ p = factRow v' l := by
  obtain ⟨v, h1, h2⟩ := h; exact ⟨v, h1, by simpa using h2⟩

set_option maxRecDepth 100000 in
theorem fclone_m {K : Prop} (l : List FactT) (hn : l.length < 1000000) : MFn Try.prog K 111 [slF l] [] (CmR l) := by
  refine mfn Try.func111 rfl (by kernel_rfl) 8 rfl _ rfl (Nat.le_of_ble_eq_true rfl) (fun X w0 => ?_)
  refine wSeq ?_
  refine wReg ?_
  refine sP rfl rfl rfl (pA rfl rfl) ?_
  refine lNil ?_
  refine wSeq ?_
  refine wSeq ?_
  refine wReg ?_
  refine sP rfl rfl rfl (pMs rfl rfl) ?_
  refine sSlNil rfl rfl rfl rfl rfl Try.underlying26 (fun b hbn => ?_)
  refine lNil ?_
  refine wCond rfl (fun hc1 => ?_) (fun hc1 => ?_)
  · refine wNilrow 87 8 ?_
    refine wSeq ?_
    refine wReg ?_
    refine sP rfl rfl rfl (pA rfl rfl) ?_
    refine lNil ?_
    refine wRet ?_
    have hl : l = [] := by
      have := hbn hc1
      exact List.eq_nil_of_length_eq_zero (by omega)
    subst hl
    exact ⟨_, [factRow (.slice none 0 0) []], [], rfl, ⟨_, rfl, rfl⟩, rgm_tmp (r := []) rfl Sub.refl⟩
  · refine wSkip ?_
    refine wSeq ?_
    refine wReg ?_
    refine sBuild0 rfl rfl rfl rfl ze87 Try.underlying26 ty87 (by decide) (fun v5 => ?_)
    refine sP rfl rfl rfl (pMs rfl rfl) ?_
    refine sAppendL (enc := encF) (l := []) 0 l rfl rfl rfl rfl Try.underlying26 ro87 rfl rfl rfl (fun _ => rfl) (by rw [List.length_nil]; omega) (by rw [List.length_nil]; omega) (fun v7 => ?_)
    refine sP rfl rfl rfl (pA rfl rfl) ?_
    refine lNil ?_
    refine wRet ?_
    exact ⟨_, [factRow v7 ([] ++ l)], [], rfl, ⟨v7, rfl, rfl⟩, rgm_tmp (r := []) rfl Sub.refl⟩

theorem flat_getG {α β : Type} {enc : α → List β} {k : Nat} (hk : ∀ x, (enc x).length = k) : ∀ (l : List α) (i j : Nat) (x : α), l[i]? = some x → j < k → (l.flatMap enc)[i * k + j]? = (enc x)[j]?
  | [], i, j, x, h, _ => by simp at h
  | y :: l, 0, j, x, h, hj => by
    obtain rfl : y = x := by simpa using h
    rw [List.flatMap_cons, Nat.zero_mul, Nat.zero_add, List.getElem?_append_left (by rw [hk]; exact hj)]
  | y :: l, i + 1, j, x, h, hj => by
    rw [List.flatMap_cons, List.getElem?_append_right (by rw [hk, Nat.add_mul, Nat.one_mul]; omega), hk, show (i + 1) * k + j - k = i * k + j by rw [Nat.add_mul, Nat.one_mul]; omega]
    exact flat_getG hk l i j x (by simpa using h) hj
theorem flat_lenG {α β : Type} {enc : α → List β} {k : Nat} (hk : ∀ x, (enc x).length = k) : ∀ l : List α, (l.flatMap enc).length = l.length * k
  | [] => by simp
  | x :: l => by rw [List.flatMap_cons, List.length_append, hk, flat_lenG hk l, List.length_cons, Nat.add_mul, Nat.one_mul, Nat.add_comm]
theorem encV8 (x : FactT) : (encV x).length = 8 := rfl
theorem flatV (d : Array FactT) (j : Nat) (h : j < d.size * 8) : (d.toList.flatMap encV)[j]? = some ((flatK encV 8 d)[j]!) := by
  have hi : j / 8 < d.toList.length := by rw [Array.length_toList]; omega
  have e := flat_getG encV8 d.toList (j / 8) (j % 8) _ (List.getElem?_eq_getElem hi) (Nat.mod_lt _ (by decide))
  rw [show j / 8 * 8 + j % 8 = j by omega] at e
  rw [e, get_flatK _ _ _ _ h]
  have hi2 : j / 8 < d.size := by simpa using hi
  have e2 : d[j / 8]! = d.toList[j / 8] := by simp [hi2]
  rw [e2]
  have hm : j % 8 < (encV d.toList[j / 8]).length := by rw [encV8]; exact Nat.mod_lt _ (by decide)
  rw [List.getElem?_eq_getElem hm]
  congr 1
  exact (getElem!_pos (encV d.toList[j / 8]) (j % 8) hm).symm
theorem vals_flat (l : List FactT) : AV.vals (l.flatMap encF) = l.flatMap encV ∧ AV.exL (l.flatMap encF) = true := by
  have app : ∀ a b : List AV, AV.vals (a ++ b) = AV.vals a ++ AV.vals b ∧ (AV.exL a = true → AV.exL b = true → AV.exL (a ++ b) = true) := by
    intro a b
    induction a with
    | nil => exact ⟨rfl, fun _ h => h⟩
    | cons c a ih =>
      refine ⟨by simp only [List.cons_append, AV.vals, ih.1], fun h1 h2 => ?_⟩
      simp only [AV.exL, Bool.and_eq_true] at h1
      simp only [List.cons_append, AV.exL, Bool.and_eq_true]
      exact ⟨h1.1, ih.2 h1.2 h2⟩
  induction l with
  | nil => exact ⟨rfl, rfl⟩
  | cons x l ih =>
    rw [List.flatMap_cons, List.flatMap_cons]
    exact ⟨by rw [(app _ _).1, ih.1]; rfl, (app _ _).2 rfl ih.2⟩
theorem vals_rep {O : Nat → Prop} {w : World} (l : List FactT) : RepC O w (l.flatMap encF) (fun j => (l.flatMap encV)[j]?) :=
  (AV.repC_vals_ (l.flatMap encF) (vals_flat l).2 _ (by rw [flat_lenG encV8, flat_lenG encF8])).2 (vals_flat l).1.symm

def SfR (l : List FactT) (v : Value) (av : AV) (h' : List HObj) : Prop := av = .tup [] ∧ ∃ s, s.Perm l ∧ s.Pairwise (fun a b => ltF b a = false) ∧ h' = [factRow v s]
theorem SfR.one {l : List FactT} {v : Value} {av : AV} {h' : List HObj} (h : SfR l v av h') : ∃ p, h' = [p] := by
  obtain ⟨_, s, _, _, h2⟩ := h; exact ⟨_, h2⟩
theorem SfR.pq {l : List FactT} {v : Value} {av : AV} {p : HObj} (h : SfR l v av [p]) : av = .tup [] ∧ ∃ s, s.Perm l ∧ s.Pairwise (fun a b => ltF b a = false) ∧ p = factRow v s := by
  obtain ⟨h1, s, h2, h3, h4⟩ := h; exact ⟨h1, s, h2, h3, by simpa using h4⟩
theorem sort_enter (args : Array Value) (w : World) : (callFunc 112 args).run Try.prog w = .ok (.enter 112 args) w := enter_of Try.func112 (by kernel_rfl) rfl args w
theorem fsortf_m (v : Value) (l : List FactT) (hn : l.length < 1000000) : MFn Try.prog False 112 [.x v, .x (.func (.func 113) #[] #[])] [factRow v l] (SfR l v) := by
  refine ⟨sort_enter, fun O w args env hl hr => ?_⟩
  have hargs : args = #[v, .func (.func 113) #[] #[]] := by
    apply Array.ext'
    have := (AV.repC_vals_ (O := owned O [factRow v l]) (w := w) [.x v, .x (.func (.func 113) #[] #[])] rfl args.toList (by simpa using hl)).1 (by
      have e : (fun j => args.toList[j]?) = (fun j => args[j]?) := funext fun j => Array.getElem?_toList
      rw [e]; exact hr)
    rw [this]; rfl
  subst hargs
  obtain ⟨vs, hown, hvl, hvr⟩ := env.objs (factRow v l) (by simp)
  have hvs : vs = l.flatMap encV := by
    rw [← (vals_flat l).1]
    exact (AV.repC_vals_ (l.flatMap encF) (vals_flat l).2 vs hvl).1 hvr
  subst hvs
  by_cases h0 : l.length = 0
  · have hl0 : l = [] := List.eq_nil_of_length_eq_zero h0
    subst hl0
    have hv : ∃ p cap, v = .slice p 0 cap := by
      rcases hown.2 with ⟨rfl, _⟩ | ⟨g, cap, cur, rfl, _⟩
      · exact ⟨_, _, rfl⟩
      · exact ⟨_, _, rfl⟩
    obtain ⟨p, cap, rfl⟩ := hv
    refine (AnyF.slices_SortFunc_none sortFact p cap _ w).mono ?_
    rintro e w' ⟨rfl, rfl⟩
    exact ⟨_, _, _, rfl, ⟨rfl, [], .refl _, .nil, rfl⟩, env, by simp only [Rep]; exact ⟨_, rfl, rfl, by simp [RepC]⟩⟩
  · rcases hown.2 with ⟨rfl, h1⟩ | ⟨g, cap, cur, rfl, hb, hh, hnc, hcm, hsz, htk⟩
    · exact absurd h1 h0
    have hd : l.toArray.size = l.length := by simp
    have hH : HoldsK encV 8 w g 0 l.toArray := by
      intro j hj
      rw [size_flatK, hd] at hj
      have h1 : w.cell? ⟨g, 0 + j, none⟩ = some ((flatK encV 8 l.toArray)[j]!) := by
        have := hown.cells (g := g) rfl j _ (flatV l.toArray j (by rw [hd]; exact hj))
        rw [add_plain] at this
        exact this
      exact ⟨h1, by simp [World.frozen?, hh]⟩
    have hlt := (Array.getElem?_eq_some_iff.1 hh).1
    have h := sortf_c g 0 cap l.toArray w hH hlt (by rw [hd]; omega)
    rw [hd] at h
    refine h.mono ?_
    rintro e w' ⟨rfl, d', q, os, hp, hs, hw⟩
    have hds : d'.size = l.length := by have := hp.1; rw [hd] at this; exact this
    have hperm : d'.toList.Perm l := by
      have h3 := hp.2.2
      rw [← hds] at h3
      have e1 : d'.extract 0 d'.size = d' := by simp
      have e2 : l.toArray.extract 0 d'.size = l.toArray := by rw [hds, ← hd]; simp
      rw [e1, e2] at h3
      simpa using h3
    have hpw : d'.toList.Pairwise (fun a b => ltF b a = false) := by
      rw [List.pairwise_iff_getElem]
      intro i j hi hj hij
      have h3 := hs i j (Nat.zero_le _) hij (by simp at hj; omega)
      rw [flt_of] at h3
      have hi' : i < d'.size := by simpa using hi
      have hj' : j < d'.size := by simpa using hj
      simpa [hi', hj'] using h3
    have hgr : w.grownBy w' (some g) := by
      rw [hw]
      refine ⟨rfl, rfl, rfl, ?_, fun k hk hne => ?_⟩
      · show w.heap.size ≤ (Sort.grow _ os).heap.size
        rw [Sort.size_grow, size_putRowK]
        show w.heap.size ≤ w.heap.size + _
        omega
      · show (Sort.grow _ os).heap[k]? = _
        rw [Sort.heap_grow_old _ _ (by rw [size_putRowK]; exact hk)]
        show (w.heap.modify g _)[k]? = _
        rw [Array.getElem?_modify, if_neg (by rintro rfl; exact hne rfl)]
    have hheap : w'.heap[g]? = some (.cells (Sort.putCells id 0 (flatK encV 8 d') cur) 87 (0, 0)) := by
      rw [hw]
      show (Sort.grow _ os).heap[g]? = _
      rw [Sort.heap_grow_old _ _ (by rw [size_putRowK]; exact hlt)]
      simp [putRowK, Sort.putRow, Sort.mapBlock, Sort.ahead, Array.getElem?_modify, hh, Sort.onCells]
    have hlen2 : d'.toList.length = l.length := by rw [Array.length_toList, hds]
    have hown' : w'.ownsRow 0 87 8 (.slice (some ⟨g, 0, none⟩) l.length cap) l.length (d'.toList.flatMap encV) := by
      refine ⟨by rw [flat_lenG encV8, hlen2], .inr ⟨g, cap, _, rfl, Nat.zero_le _, hheap, hnc, hcm, by simpa [Sort.putCells] using hsz, ?_⟩⟩
      apply List.ext_getElem?
      intro j
      rw [List.getElem?_take, Array.getElem?_toList]
      by_cases hj : j < l.length * 8
      · have hjc : j < cur.size := by rw [hsz]; have := Nat.mul_le_mul_right 8 hnc; omega
        rw [if_pos hj, flatV d' j (by rw [hds]; exact hj)]
        simp only [Sort.putCells, Array.getElem?_mapIdx, Array.getElem?_eq_getElem hjc, Option.map_some]
        rw [if_pos (by rw [size_flatK, hds]; omega)]
        simp
      · rw [if_neg hj, List.getElem?_eq_none (by rw [flat_lenG encV8, hlen2]; omega)]
    have e5 : factRow (.slice (some ⟨g, 0, none⟩) l.length cap) d'.toList = .row (.slice (some ⟨g, 0, none⟩) l.length cap) 87 8 l.length (d'.toList.flatMap encF) := by rw [factRow, hlen2]
    refine ⟨_, _, [factRow (.slice (some ⟨g, 0, none⟩) l.length cap) d'.toList], rfl, ⟨rfl, _, hperm, hpw, rfl⟩, ?_, by simp only [Rep]; exact ⟨_, rfl, rfl, by simp [RepC]⟩⟩
    have := Env.set_ (q := factRow (.slice (some ⟨g, 0, none⟩) l.length cap) d'.toList) env (i := 0) rfl hgr (fun h => h.elim) (by rw [e5]; exact ⟨_, hown', by rw [flat_lenG encV8, flat_lenG encF8], vals_rep _⟩) (fun c hc => .inl hc) (fun c hc => by
      obtain rfl : g = c := by simpa [factRow, HObj.blk, Value.ownBlock] using hc
      exact Nat.lt_of_lt_of_le hlt hgr.size)
    exact this

set_option maxRecDepth 100000 in
theorem fsort_p (l : List FactT) (hn : l.length < 1000000) : PFn Try.prog False 46 [slF l] (slF (sortK ltF l)) := by
  refine pfn Try.func46 rfl (by kernel_rfl) 10 rfl _ rfl (Nat.le_of_ble_eq_true rfl) (fun X w0 => ?_)
  refine wSeq ?_
  refine wReg ?_
  refine sP rfl rfl rfl (pA rfl rfl) ?_
  refine lNil ?_
  refine wSeq ?_
  refine wReg ?_
  refine sP rfl rfl rfl (pMs rfl rfl) ?_
  refine sM0 rfl rfl rfl rfl (fclone_m l hn) ⟨Sub.refl, trivial⟩ (fun _ _ h => h.one) (fun av q hr => ?_)
  obtain ⟨v, rfl, rfl⟩ := hr.pq
  refine sP rfl rfl rfl (pA rfl rfl) ?_
  refine lNil ?_
  refine wSeq ?_
  refine wReg ?_
  refine sP rfl rfl rfl (pM rfl rfl) ?_
  refine sM1 0 rfl rfl rfl (fsortf_m v l hn) ⟨Sub.refl, Sub.refl, trivial⟩ (fun _ _ h => h.one) (fun av q hr => ?_)
  obtain ⟨rfl, s, hperm, hpw, rfl⟩ := hr.pq
  refine lNil ?_
  refine wSeq ?_
  refine wReg ?_
  refine sP rfl rfl rfl (pM rfl rfl) ?_
  refine sM1 0 rfl rfl rfl (fcomp_m v s (by rw [hperm.length_eq]; exact hn)) ⟨Sub.refl, trivial⟩ (fun _ _ h => h.one) (fun av q hr => ?_)
  obtain ⟨v2, rfl, rfl⟩ := hr.pq
  refine sP rfl rfl rfl (pA rfl rfl) ?_
  refine lNil ?_
  refine wRet ?_
  rw [compact_sortK stoF l s hperm hpw]
  exact rgs1 (rg_tmp (gives_row (List.mem_of_getElem? (i := 0) rfl)))
end Go.Proofs.Ytmhkalalcmkpbaa

namespace Go.Proofs.Ytmhkalalcmkpbaa
open Go Go.RowKit
set_option linter.unusedVariables false
set_option linter.unusedSimpArgs false

/-- What the loop has read, and what is left. -/
structure RdI (s : ByteArray) (i : Nat) (acc : List FactT) (st : ByteArray × Int) : Prop where
  len : acc.length = i
  le : i ≤ (rdN (s, 0)).1
  size : st.1.size < 9223372036854775807
  eq : rF s = (acc ++ (rdFs ((rdN (s, 0)).1 - i) st).1, (rdFs ((rdN (s, 0)).1 - i) st).2)
theorem RdI.start {s : ByteArray} (hs : s.size < 9223372036854775807) : RdI s 0 [] (rdN (s, 0)).2 := ⟨rfl, Nat.zero_le _, Nat.lt_of_le_of_lt (rdN_size (s, 0)) hs, rfl⟩
theorem RdI.step {s : ByteArray} {i : Nat} {acc : List FactT} {st : ByteArray × Int} (h : RdI s i acc st) (hi : i < (rdN (s, 0)).1) (he : st.2 = 0) : RdI s (i + 1) (acc ++ [(rdF st).1]) (rdF st).2 := by
  refine ⟨by simp [h.len], hi, Nat.lt_of_le_of_lt (rF7_size st).2.2.2.2.2.2 h.size, ?_⟩
  rw [h.eq, show (rdN (s, 0)).1 - i = ((rdN (s, 0)).1 - (i + 1)) + 1 by omega, rdFs_step _ _ he]
  simp
theorem RdI.ok {s : ByteArray} {i : Nat} {acc : List FactT} {st : ByteArray × Int} (h : RdI s i acc st) : ∀ f ∈ acc, okF f := fun f hf => by
  have := rdFs_ok (rdN (s, 0)).1 (rdN (s, 0)).2 f
  have e := h.eq
  unfold rF at e
  rw [e] at this
  exact this (by simp [hf])
end Go.Proofs.Ytmhkalalcmkpbaa

namespace Go.Proofs.Ytmhkalalcmkpbaa
open Go Go.RowKit
set_option linter.unusedVariables false
set_option linter.unusedSimpArgs false

end Go.Proofs.Ytmhkalalcmkpbaa

namespace Go.Proofs.Ytmhkalalcmkpbaa
open Go Go.RowKit
set_option linter.unusedVariables false
set_option linter.unusedSimpArgs false

end Go.Proofs.Ytmhkalalcmkpbaa

namespace Go.Proofs.Ytmhkalalcmkpbaa
open Go Go.RowKit
set_option linter.unusedVariables false
set_option linter.unusedSimpArgs false

end Go.Proofs.Ytmhkalalcmkpbaa

namespace Go.Proofs.Ytmhkalalcmkpbaa
open Go Go.RowKit
set_option linter.unusedVariables false
set_option linter.unusedSimpArgs false

section
variable {P : Program} {K : Prop} {N : Nat} {X : Nat → Prop} {h : List HObj} {f : Nat → AV} {o : Oper}
end
end Go.Proofs.Ytmhkalalcmkpbaa
