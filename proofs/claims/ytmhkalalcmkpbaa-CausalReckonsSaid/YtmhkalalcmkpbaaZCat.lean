/-
  Dcomp Dlay Dsort BTC Cat
-/
import Derived.Test.YtmhkalalcmkpbaaZBT2
import Derived.Test.YtmhkalalcmkpbaaZC5
import Derived.Test.YtmhkalalcmkpbaaZC6
import Derived.Test.YtmhkalalcmkpbaaZC9
import Derived.Test.YtmhkalalcmkpbaaZDel1
import Derived.Test.YtmhkalalcmkpbaaZDw
import Derived.Test.YtmhkalalcmkpbaaZOrdC
import Derived.Shelf.SlSortCmp.WholeK
import Derived.Shelf.SlSortCmp.NoneTotal
import Derived.Shelf.Spec.SlicesGrow
namespace Go.Proofs.Ytmhkalalcmkpbaa.DotS
open Go Go.RowKit
set_option linter.unusedVariables false
set_option linter.unusedSimpArgs false

theorem encF8 (x : (Int × Int)) : (encA x).length = 2 := rfl
theorem fAt {l : List (Int × Int)} {rest : List AV} {i off : Nat} {x : (Int × Int)} (h : l[i]? = some x) (ho : off = i * 2) : ((l.flatMap encA ++ rest).drop off).take 2 = encA x := by
  subst ho; exact flat_at encF8 h
theorem fLen (l : List (Int × Int)) (rest : List AV) : (l.flatMap encA ++ rest).length = l.length * 2 + rest.length := by rw [List.length_append, flat_len_ encF8]
theorem fLe {l : List (Int × Int)} {rest : List AV} {i off : Nat} (h : i < l.length) (ho : off = i * 2) : off + 2 ≤ (l.flatMap encA ++ rest).length := by rw [fLen]; omega
theorem fRow {m : List (Int × Int)} {l : List (Int × Int)} {rest tail : List AV} {kk : Nat} (hm : m.take kk = l) (hk : kk ≤ m.length) : ((m.flatMap encA ++ rest).take (0 + kk * 2) ++ tail).take (kk * 2) = l.flatMap encA := by
  have e : (m.flatMap encA ++ rest).take (0 + kk * 2) = l.flatMap encA := by
    rw [Nat.zero_add, List.take_append_of_le_length (by rw [flat_len_ encF8]; exact Nat.mul_le_mul_right 2 hk), flat_take_ encF8, hm]
  have e2 : (l.flatMap encA).length = kk * 2 := by rw [flat_len_ encF8, ← hm, List.length_take, Nat.min_eq_left hk]
  rw [e, List.take_append_of_le_length (by omega), List.take_of_length_le (by omega)]
theorem fRowAll (l : List (Int × Int)) (rest : List AV) : (l.flatMap encA ++ rest).take (l.length * 2) = l.flatMap encA := by
  have e2 : (l.flatMap encA).length = l.length * 2 := flat_len_ encF8 l
  rw [← e2, List.take_left]
def factRow (v : Value) (l : List (Int × Int)) : HObj := .row v 23 2 l.length (l.flatMap encA)
def CmR (l : List (Int × Int)) (av : AV) (h' : List HObj) : Prop := ∃ v', av = .x v' ∧ h' = [factRow v' l]

set_option maxHeartbeats 1000000 in
set_option maxRecDepth 100000 in
theorem fcomp_m {K : Prop} (v : Value) (l : List (Int × Int)) (hn : l.length < 1000000) : MFn Try.prog K 152 [.x v] [factRow v l] (CmR (compact l)) := by
  refine mfn Try.func152 rfl (by kernel_rfl) 61 rfl _ rfl (Nat.le_of_ble_eq_true rfl) (fun X w0 => ?_)
  refine wSeq ?_
  refine wReg ?_
  refine sP rfl rfl rfl (pA rfl rfl) ?_
  refine lNil ?_
  refine wSeq ?_
  refine wSeq ?_
  refine wReg ?_
  refine sP rfl rfl rfl (pM rfl rfl) ?_
  refine sP rfl rfl rfl (p_len_row rfl rfl (List.mem_of_getElem? (i := 0) rfl) Try.underlying27) ?_
  refine sP rfl rfl rfl (p_icmp rfl rfl rfl rfl) ?_
  refine lNil ?_
  refine wCond rfl (fun hc1 => ?_) (fun hc1 => ?_)
  · refine wSeq ?_
    refine wReg ?_
    refine sP rfl rfl rfl (pM rfl rfl) ?_
    refine sP rfl rfl rfl (pA rfl rfl) ?_
    refine lNil ?_
    refine wRet ?_
    have h : l.length < 2 := by have h := hc1; simp at h; omega
    rw [compact_short h]
    exact ⟨_, [factRow v l], [], rfl, ⟨v, rfl, rfl⟩, rgm_tmp (r := []) rfl Sub.refl⟩
  · have h2 : 2 ≤ l.length := by have h := hc1; simp at h; omega
    refine wRowCells 0 rfl (by omega) (fun g cap hv hnc hcm => ?_)
    subst hv
    refine wSkip ?_
    refine wSeq ?_
    refine wSeq ?_
    refine wReg ?_
    refine sP rfl rfl rfl (pA rfl rfl) ?_
    refine lNil ?_
    refine wBlock ?_
    refine wLoop (fun mm L h => ∃ k, mm = l.length - k ∧ 1 ≤ k ∧ k ≤ l.length ∧ compact (l.take k) = l.take k ∧ L = [(0, .x (.slice (some ⟨g, 0, none⟩) l.length cap)), (3, iA (k : Nat))] ∧ h = [.cells g 23 (l.flatMap encA ++ List.replicate (cap * 2 - l.length * 2) .any)]) ⟨_, _, _, _, ⟨1, rfl, Nat.le_refl _, by omega, compact_short (by rw [List.length_take]; omega), rfl, rfl⟩, ⟨rfl, rfl, trivial⟩, rfl⟩ ?_
    rintro mm L h ⟨k, rfl, hk1, hkn, hcp, rfl, rfl⟩
    refine wSeq ?_
    refine wSeq ?_
    refine wReg ?_
    refine sP rfl rfl rfl (pM rfl rfl) ?_
    refine sP rfl rfl rfl (pM rfl rfl) ?_
    refine sP rfl rfl rfl (p_len_x rfl rfl Try.underlying27) ?_
    refine sP rfl rfl rfl (p_icmp rfl rfl rfl rfl) ?_
    refine lNil ?_
    refine wCond rfl (fun hc2 => ?_) (fun hc2 => ?_)
    · have hk : k < l.length := by have h := hc2; simp at h; omega
      obtain ⟨x, hx⟩ := getL hk
      obtain ⟨y, hy⟩ := getL (l := l) (i := k - 1) (by omega)
      have hz : IntKind.i64.wrap ((k : Int) - 1) = ((k - 1 : Nat) : Int) := by rw [wrapI (by omega) (by omega)]; omega
      refine wSkip ?_
      refine wSeq ?_
      refine wBlock ?_
      refine wSeq ?_
      refine wDraw 10 (by kernel_rfl) (by kernel_rfl) ?_
      refine sP rfl rfl rfl (pM rfl rfl) ?_
      refine sP rfl rfl rfl (pM rfl rfl) ?_
      refine sP rfl rfl rfl (p_indexAddr_ow (k) rfl rfl Try.underlying27 ty23 rfl rfl hk) ?_
      refine sP rfl rfl rfl (pLdO 0 rfl rfl rfl ty23 (fLe hk (by omega)) (fAt hx (by omega))) ?_
      refine sP rfl rfl rfl (pM rfl rfl) ?_
      refine sP rfl rfl rfl (pM rfl rfl) ?_
      refine sP rfl rfl rfl (p_iar rfl rfl rfl rfl) ?_
      refine sP rfl rfl rfl (p_indexAddr_ow (k - 1) rfl rfl Try.underlying27 ty23 rfl hz (by omega)) ?_
      refine sP rfl rfl rfl (pLdO 0 rfl rfl rfl ty23 (fLe (i := k - 1) (by omega) (by omega)) (fAt hy (by omega))) ?_
      refine sP rfl rfl rfl (p_eqs rfl rfl rfl rfl rfl guardD (fun w => eqD 9998 w x y)) ?_
      refine lTail ?_
      refine lNil ?_
      refine wCond rfl (fun hc3 => ?_) (fun hc3 => ?_)
      · have hxy : x = y := by simpa using hc3
        refine wSeq ?_
        refine wReg ?_
        refine sP rfl rfl rfl (pM rfl rfl) ?_
        refine sP rfl rfl rfl (pM rfl rfl) ?_
        refine sP rfl rfl rfl (p_slice_ow k l.length rfl rfl Try.underlying27 ty23 ⟨_, _, rfl, rfl⟩ rfl (by omega) (Nat.le_refl _) hnc (by omega)) ?_
        refine sP rfl rfl rfl (pA rfl rfl) ?_
        refine lNil ?_
        refine wSeq ?_
        refine wSeq ?_
        refine wReg ?_
        refine sP rfl rfl rfl (pA rfl rfl) ?_
        refine lNil ?_
        refine wBlock ?_
        refine wLoop (fun mm L h => ∃ kk k2 m, mm = l.length - (k + k2) ∧ 1 ≤ k2 ∧ k + k2 ≤ l.length ∧ CompG l m (k + k2) kk ∧ L = [(0, .x (.slice (some ⟨g, 0, none⟩) l.length cap)), (3, iA (kk : Nat)), (4, .x (.slice (some ⟨g, 0 + k * 2, none⟩) (l.length - k) (cap - k))), (5, iA (k2 : Nat))] ∧ h = [.cells g 23 (m.flatMap encA ++ List.replicate (cap * 2 - l.length * 2) .any)]) ⟨_, _, _, _, ⟨k, 1, l, rfl, Nat.le_refl _, hk, CompG.start hx hk1 (by rw [hy, hxy]) hcp, rfl, rfl⟩, ⟨rfl, rfl, rfl, rfl, trivial⟩, rfl⟩ ?_
        rintro mm L h ⟨kk, k2, m, rfl, hk2, hk3, hC, rfl, rfl⟩
        have hms := hC.size
        have hlt := hC.lt
        refine wSeq ?_
        refine wSeq ?_
        refine wReg ?_
        refine sP rfl rfl rfl (pM rfl rfl) ?_
        refine sP rfl rfl rfl (pM rfl rfl) ?_
        refine sP rfl rfl rfl (p_len_x rfl rfl Try.underlying27) ?_
        refine sP rfl rfl rfl (p_icmp rfl rfl rfl rfl) ?_
        refine lNil ?_
        refine wCond rfl (fun hc4 => ?_) (fun hc4 => ?_)
        · have hk4 : k + (k2 + 1) ≤ l.length := by have h := hc4; simp at h; omega
          obtain ⟨u1, hul⟩ : ∃ u, l[k + k2]? = some u := getL (by omega)
          obtain ⟨u2, hvl⟩ : ∃ u, l[k + k2 - 1]? = some u := getL (by omega)
          have hu : m[k + k2]? = some u1 := by rw [hC.high _ (by omega)]; exact hul
          have hv : m[k + k2 - 1]? = some u2 := by rw [hC.high _ (by omega)]; exact hvl
          have hz2 : IntKind.i64.wrap ((k2 : Int) - 1) = ((k2 - 1 : Nat) : Int) := by rw [wrapI (by omega) (by omega)]; omega
          refine wSkip ?_
          refine wSeq ?_
          refine wBlock ?_
          refine wSeq ?_
          refine wDraw 10 (by kernel_rfl) (by kernel_rfl) ?_
          refine sP rfl rfl rfl (pM rfl rfl) ?_
          refine sP rfl rfl rfl (pM rfl rfl) ?_
          refine sP rfl rfl rfl (p_indexAddr_ow (k2) rfl rfl Try.underlying27 ty23 rfl rfl (by omega)) ?_
          refine sP rfl rfl rfl (pLdO 0 rfl rfl rfl ty23 (fLe (i := k + k2) (by omega) (by omega)) (fAt hu (by omega))) ?_
          refine sP rfl rfl rfl (pM rfl rfl) ?_
          refine sP rfl rfl rfl (pM rfl rfl) ?_
          refine sP rfl rfl rfl (p_iar rfl rfl rfl rfl) ?_
          refine sP rfl rfl rfl (p_indexAddr_ow (k2 - 1) rfl rfl Try.underlying27 ty23 rfl hz2 (by omega)) ?_
          refine sP rfl rfl rfl (pLdO 0 rfl rfl rfl ty23 (fLe (i := k + k2 - 1) (by omega) (by omega)) (fAt hv (by omega))) ?_
          refine sP rfl rfl rfl (p_nes rfl rfl rfl rfl rfl guardD (fun w => eqD 9998 w u1 u2)) ?_
          refine lTail ?_
          refine lNil ?_
          refine wCond rfl (fun hc5 => ?_) (fun hc5 => ?_)
          · refine wSeq ?_
            refine wReg ?_
            refine sP rfl rfl rfl (pM rfl rfl) ?_
            refine sP rfl rfl rfl (pM rfl rfl) ?_
            refine sP rfl rfl rfl (pM rfl rfl) ?_
            refine sP rfl rfl rfl (pM rfl rfl) ?_
            refine sP rfl rfl rfl (p_indexAddr_ow (k2) rfl rfl Try.underlying27 ty23 rfl rfl (by omega)) ?_
            refine sP rfl rfl rfl (pLdO 0 rfl rfl rfl ty23 (fLe (i := k + k2) (by omega) (by omega)) (fAt hu (by omega))) ?_
            refine sP rfl rfl rfl (p_indexAddr_ow (kk) rfl rfl Try.underlying27 ty23 rfl rfl (by omega)) ?_
            refine sStore 0 rfl rfl rfl rfl rfl ty23 rfl rfl rfl (fLe (i := kk) (by omega) (by omega)) ?_
            refine lNil ?_
            refine wReg ?_
            refine sP rfl rfl rfl (pM rfl rfl) ?_
            refine sP rfl rfl rfl (p_iar rfl rfl rfl rfl) ?_
            refine sP rfl rfl rfl (pA rfl rfl) ?_
            refine lNil ?_
            refine wReg ?_
            refine sP rfl rfl rfl (pM rfl rfl) ?_
            refine sP rfl rfl rfl (p_iar rfl rfl rfl rfl) ?_
            refine sP rfl rfl rfl (pA rfl rfl) ?_
            refine lNil ?_
            have hne : u1 ≠ u2 := by simpa using hc5
            refine ⟨_, _, [.cells g 23 ((m.set kk u1).flatMap encA ++ List.replicate (cap * 2 - l.length * 2) .any)], [], ?_, ⟨kk + 1, k2 + 1, m.set kk u1, rfl, by omega, hk4, hC.keep hul (by omega) hvl hne, rfl, rfl⟩, ⟨rfl, avI (wrapI (by omega) (by omega)), rfl, avI (wrapI (by omega) (by omega)), trivial⟩, ?_⟩
            · omega
            · show [HObj.cells g _ (spl _ (0 + kk * 2) _)] = _
              rw [Nat.zero_add, flat_spl encF8 (by omega)]
              rfl
          · refine wSkip ?_
            refine wReg ?_
            refine sP rfl rfl rfl (pM rfl rfl) ?_
            refine sP rfl rfl rfl (p_iar rfl rfl rfl rfl) ?_
            refine sP rfl rfl rfl (pA rfl rfl) ?_
            refine lNil ?_
            have hne : u1 = u2 := by simpa using hc5
            refine ⟨_, _, [.cells g 23 (m.flatMap encA ++ List.replicate (cap * 2 - l.length * 2) .any)], [], ?_, ⟨kk, k2 + 1, m, rfl, by omega, hk4, hC.skip hul (by omega) (by rw [hvl, hne]), rfl, rfl⟩, ⟨rfl, rfl, rfl, avI (wrapI (by omega) (by omega)), trivial⟩, rfl⟩
            omega
        · have hk5 : k + k2 = l.length := by have h := hc4; simp at h; omega
          rw [hk5] at hC
          have hRl : (List.replicate (cap * 2 - l.length * 2) .any : List AV).length = cap * 2 - l.length * 2 := List.length_replicate
          refine wExit ?_
          refine wSeq ?_
          refine wReg ?_
          refine sP rfl rfl rfl (pM rfl rfl) ?_
          refine sP rfl rfl rfl (pM rfl rfl) ?_
          refine sP rfl rfl rfl (p_slice_ow kk l.length rfl rfl Try.underlying27 ty23 ⟨_, _, rfl, rfl⟩ rfl (by omega) (Nat.le_refl _) hnc (by omega)) ?_
          refine sClear (k := 2) 0 rfl rfl rfl Try.underlying27 ze23 rfl (by decide) rfl rfl (by omega) (by rw [fLen]; omega) ?_
          refine lNil ?_
          refine wSeq ?_
          refine wReg ?_
          refine sP rfl rfl rfl (pM rfl rfl) ?_
          refine sP rfl rfl rfl (pM rfl rfl) ?_
          refine sP rfl rfl rfl (p_slice_ow 0 kk rfl rfl Try.underlying27 ty23 rfl ⟨_, _, rfl, rfl⟩ (Nat.zero_le _) (by omega) hnc (by omega)) ?_
          refine sP rfl rfl rfl (pA rfl rfl) ?_
          refine lNil ?_
          refine wCellsRow 0 2 kk rfl (by omega) hcm (by simp only [List.length_append, List.length_take, List.length_replicate, flat_len_ encF8]; omega) ?_
          refine wRet ?_
          refine ⟨_, [_], [], rfl, ⟨_, rfl, ?_⟩, rgm_tmp (r := []) rfl Sub.refl⟩
          rw [factRow, ← hC.all.1, fRow rfl (by omega)]
          congr 2
          rw [hC.all.1, ← hC.all.2]
      · refine wSkip ?_
        refine wReg ?_
        refine sP rfl rfl rfl (pM rfl rfl) ?_
        refine sP rfl rfl rfl (p_iar rfl rfl rfl rfl) ?_
        refine sP rfl rfl rfl (pA rfl rfl) ?_
        refine lNil ?_
        have hne : x ≠ y := by simpa using hc3
        refine ⟨_, _, [.cells g 23 (l.flatMap encA ++ List.replicate (cap * 2 - l.length * 2) .any)], [], ?_, ⟨k + 1, rfl, by omega, hk, compact_next hx hk1 hy hne hcp, rfl, rfl⟩, ⟨rfl, avI (wrapI (by omega) (by omega)), trivial⟩, rfl⟩
        omega
    · have hge : k = l.length := by have h := hc2; simp at h; omega
      rw [hge, List.take_length] at hcp
      refine wExit ?_
      refine wSeq ?_
      refine wReg ?_
      refine sP rfl rfl rfl (pM rfl rfl) ?_
      refine sP rfl rfl rfl (pA rfl rfl) ?_
      refine lNil ?_
      refine wCellsRow 0 2 l.length rfl hnc hcm (by simp only [List.length_append, List.length_replicate, flat_len_ encF8]; omega) ?_
      refine wRet ?_
      refine ⟨_, [_], [], rfl, ⟨_, rfl, ?_⟩, rgm_tmp (r := []) rfl Sub.refl⟩
      rw [hcp, factRow, fRowAll]
end Go.Proofs.Ytmhkalalcmkpbaa.DotS

namespace Go.Proofs.Ytmhkalalcmkpbaa.DotS
open Go.Shelf Go.RowKit Go.Lib Go.Sort
set_option linter.unusedVariables false
def sortFact_ren : Go.Shelf.Ren := ⟨fun | 6 => 151 | 15 => 142 | 14 => 173 | 28 => 166 | 29 => 167 | 20 => 183 | 21 => 184 | 22 => 185 | 23 => 186 | 24 => 187 | 25 => 188 | 26 => 189 | 27 => 190 | 46 => 198 | 47 => 179 | 48 => 180 | 49 => 199 | 50 => 200 | 57 => 203 | n => n, fun | 22 => 27 | 24 => 23 | 25 => 175 | 3 => 3 | 39 => 171 | 0 => 0 | 53 => 220 | 55 => 222 | 4 => 4 | 46 => 214 | 45 => 213 | 50 => 206 | 5 => 5 | 9 => 9 | 66 => 232 | 70 => 236 | 76 => 247 | 77 => 248 | n => n, fun | n => n⟩
theorem sortFact : Go.Proofs.SlLaysF0.n6 Try.prog sortFact_ren := {
  mixed := by kernel_rfl
  f6 := ⟨Try.f151.name, by decide, Try.func151.trans (congrArg some (by kernel_rfl))⟩
  f14 := ⟨Try.f173.name, by decide, Try.func173.trans (congrArg some (by kernel_rfl))⟩
  f15 := Try.func142.trans (congrArg some (by kernel_rfl))
  f20 := ⟨Try.f183.name, by decide, Try.func183.trans (congrArg some (by kernel_rfl))⟩
  f21 := ⟨Try.f184.name, by decide, Try.func184.trans (congrArg some (by kernel_rfl))⟩
  f22 := ⟨Try.f185.name, by decide, Try.func185.trans (congrArg some (by kernel_rfl))⟩
  f23 := ⟨Try.f186.name, by decide, Try.func186.trans (congrArg some (by kernel_rfl))⟩
  f24 := ⟨Try.f187.name, by decide, Try.func187.trans (congrArg some (by kernel_rfl))⟩
  f25 := ⟨Try.f188.name, by decide, Try.func188.trans (congrArg some (by kernel_rfl))⟩
  f26 := ⟨Try.f189.name, by decide, Try.func189.trans (congrArg some (by kernel_rfl))⟩
  f27 := ⟨Try.f190.name, by decide, Try.func190.trans (congrArg some (by kernel_rfl))⟩
  f28 := Try.func166.trans (congrArg some (by kernel_rfl))
  f29 := Try.func167.trans (congrArg some (by kernel_rfl))
  f46 := ⟨Try.f198.name, by decide, Try.func198.trans (congrArg some (by kernel_rfl))⟩
  f47 := Try.func179.trans (congrArg some (by kernel_rfl))
  f48 := Try.func180.trans (congrArg some (by kernel_rfl))
  f49 := ⟨Try.f199.name, by decide, Try.func199.trans (congrArg some (by kernel_rfl))⟩
  f50 := ⟨Try.f200.name, by decide, Try.func200.trans (congrArg some (by kernel_rfl))⟩
  f57 := ⟨Try.f203.name, by decide, Try.func203.trans (congrArg some (by kernel_rfl))⟩
  t0 := Try.underlying0
  a0 := Try.isAgg0
  z0 := Try.sizeOf0
  v0 := Try.zeroValue0
  t3 := Try.underlying3
  a3 := Try.isAgg3
  z3 := Try.sizeOf3
  v3 := Try.zeroValue3
  t4 := Try.underlying4
  a4 := Try.isAgg4
  z4 := Try.sizeOf4
  v4 := Try.zeroValue4
  t5 := Try.underlying5
  a5 := Try.isAgg5
  z5 := Try.sizeOf5
  v5 := Try.zeroValue5
  t9 := Try.underlying9
  a9 := Try.isAgg9
  z9 := Try.sizeOf9
  v9 := Try.zeroValue9
  t22 := Try.underlying27
  a22 := Try.isAgg27
  z22 := Try.sizeOf27
  v22 := Try.zeroValue27
  t25 := Try.underlying175
  a25 := Try.isAgg175
  z25 := Try.sizeOf175
  v25 := Try.zeroValue175
  t39 := Try.underlying171
  a39 := Try.isAgg171
  z39 := Try.sizeOf171
  v39 := Try.zeroValue171
  t45 := Try.underlying213
  a45 := Try.isAgg213
  z45 := Try.sizeOf213
  v45 := Try.zeroValue213
  t46 := Try.underlying214
  a46 := Try.isAgg214
  z46 := Try.sizeOf214
  v46 := Try.zeroValue214
  t50 := Try.underlying206
  a50 := Try.isAgg206
  z50 := Try.sizeOf206
  v50 := Try.zeroValue206
  t53 := Try.underlying220
  a53 := Try.isAgg220
  z53 := Try.sizeOf220
  v53 := Try.zeroValue220
  t55 := Try.underlying222
  a55 := Try.isAgg222
  z55 := Try.sizeOf222
  v55 := Try.zeroValue222
  t66 := Try.underlying232
  a66 := Try.isAgg232
  z66 := Try.sizeOf232
  v66 := Try.zeroValue232
  t70 := Try.underlying236
  a70 := Try.isAgg236
  z70 := Try.sizeOf236
  v70 := Try.zeroValue236
  t76 := Try.underlying247
  a76 := Try.isAgg247
  z76 := Try.sizeOf247
  v76 := Try.zeroValue247
  t77 := Try.underlying248
  a77 := Try.isAgg248
  z77 := Try.sizeOf248
  v77 := Try.zeroValue248 }

abbrev encV (d : Int × Int) : List Value := encD d
theorem exact_of {w w' : World} (h : Bl True w w') : ∃ q os, w' = Sort.grow (w.drewN q) os := by
  refine ⟨w'.drawn - w.drawn, w'.heap.extract w.heap.size w'.heap.size, ?_⟩
  have hd := h.d trivial
  have hb := h.b
  have e1 := hb.os
  have e2 := hb.tape
  have e3 := hb.output
  have e4 : w'.heap = w.heap ++ w'.heap.extract w.heap.size w'.heap.size := by
    apply Array.ext'
    apply List.ext_getElem?
    intro j
    rw [Array.toList_append]
    rcases Nat.lt_or_ge j w.heap.size with hj | hj
    · rw [List.getElem?_append_left (by simpa using hj), Array.getElem?_toList, Array.getElem?_toList]
      exact hb.block j hj
    · rw [List.getElem?_append_right (by simpa using hj), Array.getElem?_toList, Array.getElem?_toList, Array.length_toList, Array.getElem?_extract]
      split
      · congr 1; omega
      · rw [Array.getElem?_eq_none (by omega)]
  have e5 : w'.drawn = w.drawn + (w'.drawn - w.drawn) := by omega
  generalize w'.heap.extract w.heap.size w'.heap.size = os at e4
  generalize w'.drawn - w.drawn = q at e5
  cases w
  cases w'
  simp only at e1 e2 e3 e4 e5
  subst e1 e2 e3 e4 e5
  rfl
theorem agg_fact (w : World) : (isAgg 23).run Try.prog w = .ok true w := by go_simp
theorem size_fact (w : World) : (Go.sizeOf 23).run Try.prog w = .ok 2 w := by go_simp
theorem fenters (args : Array Value) (w : World) : (callFunc 130 args).run Try.prog w = .ok (.enter 130 args) w := (dorder_p (K := True) (0, 0) (0, 0)).enter args w
theorem fcmp_lays (blk off size : Nat) (w : World) : CmpLays Try.prog 130 #[] encV 2 ordD blk off size w := by
  intro m os dk _ x y
  have hr : ∀ (O : Nat → Prop) (w : World), RepC O w [dA x, dA y] (fun j => (#[Value.agg (encV x).toArray, Value.agg (encV y).toArray] ++ (#[] : Array Value))[j]?) := fun O w => by
    simp only [RepC]
    exact ⟨⟨_, rfl, (AV.rep_val (dA x) rfl _).2 rfl⟩, ⟨_, rfl, (AV.rep_val (dA y) rfl _).2 rfl⟩, trivial⟩
  refine ((dorder_p (K := True) x y).calls (fun _ => False) _ _ (fun b hb => hb.elim) rfl (hr _ _)).mono ?_
  rintro e w' ⟨r, rfl, h2, h3⟩
  rw [rep_x] at h2
  subst h2
  obtain ⟨q, os', hw⟩ := exact_of h3
  exact ⟨rfl, q, os', hw⟩
theorem flt_of (x y : (Int × Int)) : ltOf ordD x y = ltD x y := ordD_lt x y
theorem swoF : SWO (ltOf ordD) where
  irrefl x := by rw [flt_of]; exact stoD.irrefl x
  trans x y z h1 h2 := by rw [flt_of] at *; exact stoD.trans x y z h1 h2
  ntrans x y z h1 h2 := by
    rw [flt_of] at *
    cases h : ltD x z with
    | false => rfl
    | true =>
      cases h3 : ltD y x with
      | true => have := stoD.trans y x z h3 h; rw [h2] at this; cases this
      | false =>
        have := stoD.total x y h1 h3
        subst this; rw [h2] at h; cases h
theorem sortf_c (blk off cap : Nat) (d : Array (Int × Int)) (w : World) (hH : HoldsK encV 2 w blk off d) (hblk : blk < w.heap.size) (hsz : d.size < 4611686018427387904) :
    Calls Try.prog 151 #[.slice (some ⟨blk, off, none⟩) d.size cap, .func (.func 130) #[] #[]] w fun e w' =>
      e = .returned (.tuple #[]) ∧ ∃ d' n os, PermIn 0 d.size d d' ∧ SortedIn (ltOf ordD) 0 d.size d' ∧ w' = sortWorldK encV 2 w blk off n d' os :=
  AnyQ.slices_SortFunc sortFact 2 agg_fact size_fact encV (fun _ => rfl) (fun x v hv => by simp [encV, encD] at hv; rcases hv with rfl | rfl <;> rfl) ordD swoF 130 #[] blk off cap d w fenters (fcmp_lays blk off d.size w) hH hblk hsz
end Go.Proofs.Ytmhkalalcmkpbaa.DotS

namespace Go.Proofs.Ytmhkalalcmkpbaa.DotS
open Go Go.Shelf Go.RowKit
open Go.Sort (HoldsK size_flatK get_flatK size_putRowK putRowK PermIn SortedIn flatK)
set_option linter.unusedVariables false
set_option linter.unusedSimpArgs false

theorem CmR.one {l : List (Int × Int)} {av : AV} {h' : List HObj} (h : CmR l av h') : ∃ p, h' = [p] := by
  obtain ⟨v, _, h2⟩ := h; exact ⟨_, h2⟩
theorem CmR.pq {l : List (Int × Int)} {av : AV} {p : HObj} (h : CmR l av [p]) : ∃ v', av = .x v' ∧ p = factRow v' l := by
  obtain ⟨v, h1, h2⟩ := h; exact ⟨v, h1, by simpa using h2⟩

set_option maxRecDepth 100000 in
theorem fclone_m {K : Prop} (l : List (Int × Int)) (hn : l.length < 1000000) : MFn Try.prog K 150 [slD l] [] (CmR l) := by
  refine mfn Try.func150 rfl (by kernel_rfl) 8 rfl _ rfl (Nat.le_of_ble_eq_true rfl) (fun X w0 => ?_)
  refine wSeq ?_
  refine wReg ?_
  refine sP rfl rfl rfl (pA rfl rfl) ?_
  refine lNil ?_
  refine wSeq ?_
  refine wSeq ?_
  refine wReg ?_
  refine sP rfl rfl rfl (pMs rfl rfl) ?_
  refine sSlNil rfl rfl rfl rfl rfl Try.underlying27 (fun b hbn => ?_)
  refine lNil ?_
  refine wCond rfl (fun hc1 => ?_) (fun hc1 => ?_)
  · refine wNilrow 23 2 ?_
    refine wSeq ?_
    refine wReg ?_
    refine sP rfl rfl rfl (pA rfl rfl) ?_
    refine lNil ?_
    refine wRet ?_
    have hl : l = [] := by
      have := hbn hc1
      exact List.eq_nil_of_length_eq_zero (by omega)
    subst hl
    exact ⟨_, [factRow (.slice none 0 0) []], [], rfl, ⟨_, rfl, rfl⟩, rgm_tmp (r := []) rfl Sub.refl⟩
  · refine wSkip ?_
    refine wSeq ?_
    refine wReg ?_
    refine sBuild0 rfl rfl rfl rfl ze23 Try.underlying27 ty23 (by decide) (fun v5 => ?_)
    refine sP rfl rfl rfl (pMs rfl rfl) ?_
    refine sAppendL (enc := encA) (l := []) 0 l rfl rfl rfl rfl Try.underlying27 ro23 rfl rfl rfl (fun _ => rfl) (by rw [List.length_nil]; omega) (by rw [List.length_nil]; omega) (fun v7 => ?_)
    refine sP rfl rfl rfl (pA rfl rfl) ?_
    refine lNil ?_
    refine wRet ?_
    exact ⟨_, [factRow v7 ([] ++ l)], [], rfl, ⟨v7, rfl, rfl⟩, rgm_tmp (r := []) rfl Sub.refl⟩

theorem flat_getG {α β : Type} {enc : α → List β} {k : Nat} (hk : ∀ x, (enc x).length = k) : ∀ (l : List α) (i j : Nat) (x : α), l[i]? = some x → j < k → (l.flatMap enc)[i * k + j]? = (enc x)[j]?
  | [], i, j, x, h, _ => by simp at h
  | y :: l, 0, j, x, h, hj => by
    obtain rfl : y = x := by simpa using h
    rw [List.flatMap_cons, Nat.zero_mul, Nat.zero_add, List.getElem?_append_left (by rw [hk]; exact hj)]
  | y :: l, i + 1, j, x, h, hj => by
    rw [List.flatMap_cons, List.getElem?_append_right (by rw [hk, Nat.add_mul, Nat.one_mul]; omega), hk, show (i + 1) * k + j - k = i * k + j by rw [Nat.add_mul, Nat.one_mul]; omega]
    exact flat_getG hk l i j x (by simpa using h) hj
theorem flat_lenG {α β : Type} {enc : α → List β} {k : Nat} (hk : ∀ x, (enc x).length = k) : ∀ l : List α, (l.flatMap enc).length = l.length * k
  | [] => by simp
  | x :: l => by rw [List.flatMap_cons, List.length_append, hk, flat_lenG hk l, List.length_cons, Nat.add_mul, Nat.one_mul, Nat.add_comm]
theorem encV8 (x : (Int × Int)) : (encV x).length = 2 := rfl
theorem flatV (d : Array (Int × Int)) (j : Nat) (h : j < d.size * 2) : (d.toList.flatMap encV)[j]? = some ((flatK encV 2 d)[j]!) := by
  have hi : j / 2 < d.toList.length := by rw [Array.length_toList]; omega
  have e := flat_getG encV8 d.toList (j / 2) (j % 2) _ (List.getElem?_eq_getElem hi) (Nat.mod_lt _ (by decide))
  rw [show j / 2 * 2 + j % 2 = j by omega] at e
  rw [e, get_flatK _ _ _ _ h]
  have hi2 : j / 2 < d.size := by simpa using hi
  have e2 : d[j / 2]! = d.toList[j / 2] := by simp [hi2]
  rw [e2]
  have hm : j % 2 < (encV d.toList[j / 2]).length := by rw [encV8]; exact Nat.mod_lt _ (by decide)
  rw [List.getElem?_eq_getElem hm]
  congr 1
  exact (getElem!_pos (encV d.toList[j / 2]) (j % 2) hm).symm
theorem vals_flat (l : List (Int × Int)) : AV.vals (l.flatMap encA) = l.flatMap encV ∧ AV.exL (l.flatMap encA) = true := by
  have app : ∀ a b : List AV, AV.vals (a ++ b) = AV.vals a ++ AV.vals b ∧ (AV.exL a = true → AV.exL b = true → AV.exL (a ++ b) = true) := by
    intro a b
    induction a with
    | nil => exact ⟨rfl, fun _ h => h⟩
    | cons c a ih =>
      refine ⟨by simp only [List.cons_append, AV.vals, ih.1], fun h1 h2 => ?_⟩
      simp only [AV.exL, Bool.and_eq_true] at h1
      simp only [List.cons_append, AV.exL, Bool.and_eq_true]
      exact ⟨h1.1, ih.2 h1.2 h2⟩
  induction l with
  | nil => exact ⟨rfl, rfl⟩
  | cons x l ih =>
    rw [List.flatMap_cons, List.flatMap_cons]
    exact ⟨by rw [(app _ _).1, ih.1]; rfl, (app _ _).2 rfl ih.2⟩
theorem vals_rep {O : Nat → Prop} {w : World} (l : List (Int × Int)) : RepC O w (l.flatMap encA) (fun j => (l.flatMap encV)[j]?) :=
  (AV.repC_vals_ (l.flatMap encA) (vals_flat l).2 _ (by rw [flat_lenG encV8, flat_lenG encF8])).2 (vals_flat l).1.symm

def SfR (l : List (Int × Int)) (v : Value) (av : AV) (h' : List HObj) : Prop := av = .tup [] ∧ ∃ s, s.Perm l ∧ s.Pairwise (fun a b => ltD b a = false) ∧ h' = [factRow v s]
theorem SfR.one {l : List (Int × Int)} {v : Value} {av : AV} {h' : List HObj} (h : SfR l v av h') : ∃ p, h' = [p] := by
  obtain ⟨_, s, _, _, h2⟩ := h; exact ⟨_, h2⟩
theorem SfR.pq {l : List (Int × Int)} {v : Value} {av : AV} {p : HObj} (h : SfR l v av [p]) : av = .tup [] ∧ ∃ s, s.Perm l ∧ s.Pairwise (fun a b => ltD b a = false) ∧ p = factRow v s := by
  obtain ⟨h1, s, h2, h3, h4⟩ := h; exact ⟨h1, s, h2, h3, by simpa using h4⟩
theorem sort_enter (args : Array Value) (w : World) : (callFunc 151 args).run Try.prog w = .ok (.enter 151 args) w := enter_of Try.func151 (by kernel_rfl) rfl args w
theorem fsortf_m (v : Value) (l : List (Int × Int)) (hn : l.length < 1000000) : MFn Try.prog False 151 [.x v, .x (.func (.func 130) #[] #[])] [factRow v l] (SfR l v) := by
  refine ⟨sort_enter, fun O w args env hl hr => ?_⟩
  have hargs : args = #[v, .func (.func 130) #[] #[]] := by
    apply Array.ext'
    have := (AV.repC_vals_ (O := owned O [factRow v l]) (w := w) [.x v, .x (.func (.func 130) #[] #[])] rfl args.toList (by simpa using hl)).1 (by
      have e : (fun j => args.toList[j]?) = (fun j => args[j]?) := funext fun j => Array.getElem?_toList
      rw [e]; exact hr)
    rw [this]; rfl
  subst hargs
  obtain ⟨vs, hown, hvl, hvr⟩ := env.objs (factRow v l) (by simp)
  have hvs : vs = l.flatMap encV := by
    rw [← (vals_flat l).1]
    exact (AV.repC_vals_ (l.flatMap encA) (vals_flat l).2 vs hvl).1 hvr
  subst hvs
  by_cases h0 : l.length = 0
  · have hl0 : l = [] := List.eq_nil_of_length_eq_zero h0
    subst hl0
    have hv : ∃ p cap, v = .slice p 0 cap := by
      rcases hown.2 with ⟨rfl, _⟩ | ⟨g, cap, cur, rfl, _⟩
      · exact ⟨_, _, rfl⟩
      · exact ⟨_, _, rfl⟩
    obtain ⟨p, cap, rfl⟩ := hv
    refine (AnyF.slices_SortFunc_none sortFact p cap _ w).mono ?_
    rintro e w' ⟨rfl, rfl⟩
    exact ⟨_, _, _, rfl, ⟨rfl, [], .refl _, .nil, rfl⟩, env, by simp only [Rep]; exact ⟨_, rfl, rfl, by simp [RepC]⟩⟩
  · rcases hown.2 with ⟨rfl, h1⟩ | ⟨g, cap, cur, rfl, hb, hh, hnc, hcm, hsz, htk⟩
    · exact absurd h1 h0
    have hd : l.toArray.size = l.length := by simp
    have hH : HoldsK encV 2 w g 0 l.toArray := by
      intro j hj
      rw [size_flatK, hd] at hj
      have h1 : w.cell? ⟨g, 0 + j, none⟩ = some ((flatK encV 2 l.toArray)[j]!) := by
        have := hown.cells (g := g) rfl j _ (flatV l.toArray j (by rw [hd]; exact hj))
        rw [add_plain] at this
        exact this
      exact ⟨h1, by simp [World.frozen?, hh]⟩
    have hlt := (Array.getElem?_eq_some_iff.1 hh).1
    have h := sortf_c g 0 cap l.toArray w hH hlt (by rw [hd]; omega)
    rw [hd] at h
    refine h.mono ?_
    rintro e w' ⟨rfl, d', q, os, hp, hs, hw⟩
    have hds : d'.size = l.length := by have := hp.1; rw [hd] at this; exact this
    have hperm : d'.toList.Perm l := by
      have h3 := hp.2.2
      rw [← hds] at h3
      have e1 : d'.extract 0 d'.size = d' := by simp
      have e2 : l.toArray.extract 0 d'.size = l.toArray := by rw [hds, ← hd]; simp
      rw [e1, e2] at h3
      simpa using h3
    have hpw : d'.toList.Pairwise (fun a b => ltD b a = false) := by
      rw [List.pairwise_iff_getElem]
      intro i j hi hj hij
      have h3 := hs i j (Nat.zero_le _) hij (by simp at hj; omega)
      rw [flt_of] at h3
      have hi' : i < d'.size := by simpa using hi
      have hj' : j < d'.size := by simpa using hj
      simpa [hi', hj'] using h3
    have hgr : w.grownBy w' (some g) := by
      rw [hw]
      refine ⟨rfl, rfl, rfl, ?_, fun k hk hne => ?_⟩
      · show w.heap.size ≤ (Sort.grow _ os).heap.size
        rw [Sort.size_grow, size_putRowK]
        show w.heap.size ≤ w.heap.size + _
        omega
      · show (Sort.grow _ os).heap[k]? = _
        rw [Sort.heap_grow_old _ _ (by rw [size_putRowK]; exact hk)]
        show (w.heap.modify g _)[k]? = _
        rw [Array.getElem?_modify, if_neg (by rintro rfl; exact hne rfl)]
    have hheap : w'.heap[g]? = some (.cells (Sort.putCells id 0 (flatK encV 2 d') cur) 23 (0, 0)) := by
      rw [hw]
      show (Sort.grow _ os).heap[g]? = _
      rw [Sort.heap_grow_old _ _ (by rw [size_putRowK]; exact hlt)]
      simp [putRowK, Sort.putRow, Sort.mapBlock, Sort.ahead, Array.getElem?_modify, hh, Sort.onCells]
    have hlen2 : d'.toList.length = l.length := by rw [Array.length_toList, hds]
    have hown' : w'.ownsRow 0 23 2 (.slice (some ⟨g, 0, none⟩) l.length cap) l.length (d'.toList.flatMap encV) := by
      refine ⟨by rw [flat_lenG encV8, hlen2], .inr ⟨g, cap, _, rfl, Nat.zero_le _, hheap, hnc, hcm, by simpa [Sort.putCells] using hsz, ?_⟩⟩
      apply List.ext_getElem?
      intro j
      rw [List.getElem?_take, Array.getElem?_toList]
      by_cases hj : j < l.length * 2
      · have hjc : j < cur.size := by rw [hsz]; have := Nat.mul_le_mul_right 2 hnc; omega
        rw [if_pos hj, flatV d' j (by rw [hds]; exact hj)]
        simp only [Sort.putCells, Array.getElem?_mapIdx, Array.getElem?_eq_getElem hjc, Option.map_some]
        rw [if_pos (by rw [size_flatK, hds]; omega)]
        simp
      · rw [if_neg hj, List.getElem?_eq_none (by rw [flat_lenG encV8, hlen2]; omega)]
    have e5 : factRow (.slice (some ⟨g, 0, none⟩) l.length cap) d'.toList = .row (.slice (some ⟨g, 0, none⟩) l.length cap) 23 2 l.length (d'.toList.flatMap encA) := by rw [factRow, hlen2]
    refine ⟨_, _, [factRow (.slice (some ⟨g, 0, none⟩) l.length cap) d'.toList], rfl, ⟨rfl, _, hperm, hpw, rfl⟩, ?_, by simp only [Rep]; exact ⟨_, rfl, rfl, by simp [RepC]⟩⟩
    have := Env.set_ (q := factRow (.slice (some ⟨g, 0, none⟩) l.length cap) d'.toList) env (i := 0) rfl hgr (fun h => h.elim) (by rw [e5]; exact ⟨_, hown', by rw [flat_lenG encV8, flat_lenG encF8], vals_rep _⟩) (fun c hc => .inl hc) (fun c hc => by
      obtain rfl : g = c := by simpa [factRow, HObj.blk, Value.ownBlock] using hc
      exact Nat.lt_of_lt_of_le hlt hgr.size)
    exact this

set_option maxRecDepth 100000 in
theorem fsort_p (l : List (Int × Int)) (hn : l.length < 1000000) : PFn Try.prog False 117 [slD l] (slD (sortK ltD l)) := by
  refine pfn Try.func117 rfl (by kernel_rfl) 10 rfl _ rfl (Nat.le_of_ble_eq_true rfl) (fun X w0 => ?_)
  refine wSeq ?_
  refine wReg ?_
  refine sP rfl rfl rfl (pA rfl rfl) ?_
  refine lNil ?_
  refine wSeq ?_
  refine wReg ?_
  refine sP rfl rfl rfl (pMs rfl rfl) ?_
  refine sM0 rfl rfl rfl rfl (fclone_m l hn) ⟨Sub.refl, trivial⟩ (fun _ _ h => h.one) (fun av q hr => ?_)
  obtain ⟨v, rfl, rfl⟩ := hr.pq
  refine sP rfl rfl rfl (pA rfl rfl) ?_
  refine lNil ?_
  refine wSeq ?_
  refine wReg ?_
  refine sP rfl rfl rfl (pM rfl rfl) ?_
  refine sM1 0 rfl rfl rfl (fsortf_m v l hn) ⟨Sub.refl, Sub.refl, trivial⟩ (fun _ _ h => h.one) (fun av q hr => ?_)
  obtain ⟨rfl, s, hperm, hpw, rfl⟩ := hr.pq
  refine lNil ?_
  refine wSeq ?_
  refine wReg ?_
  refine sP rfl rfl rfl (pM rfl rfl) ?_
  refine sM1 0 rfl rfl rfl (fcomp_m v s (by rw [hperm.length_eq]; exact hn)) ⟨Sub.refl, trivial⟩ (fun _ _ h => h.one) (fun av q hr => ?_)
  obtain ⟨v2, rfl, rfl⟩ := hr.pq
  refine sP rfl rfl rfl (pA rfl rfl) ?_
  refine lNil ?_
  refine wRet ?_
  rw [compact_sortK stoD l s hperm hpw]
  exact rgs1 (rg_tmp (gives_row (List.mem_of_getElem? (i := 0) rfl)))
end Go.Proofs.Ytmhkalalcmkpbaa.DotS
namespace Go.Proofs.Ytmhkalalcmkpbaa
open Go Go.RowKit
theorem dsort_p (l : List (Int × Int)) (hn : l.length < 1000000) : PFn Try.prog False 117 [slD l] (slD (sortK ltD l)) := DotS.fsort_p l hn
end Go.Proofs.Ytmhkalalcmkpbaa

namespace Go.Proofs.Ytmhkalalcmkpbaa
open Go
end Go.Proofs.Ytmhkalalcmkpbaa

namespace Go.Proofs.Ytmhkalalcmkpbaa
open Go Go.Shelf Go.RowKit Go.Lib
set_option linter.unusedVariables false
set_option linter.unusedSimpArgs false

def growDot_ren : Go.Shelf.Ren := ⟨fun | 4 => 136 | n => n, fun | 22 => 27 | 25 => 23 | 3 => 3 | 4 => 4 | 9 => 9 | 20 => 20 | 0 => 0 | 2 => 3 | n => n, fun | n => n⟩
theorem growDot : Go.Proofs.Lays8.n4 Try.prog growDot_ren := {
  mixed := by kernel_rfl
  f4 := ⟨Try.f136.name, by decide, Try.func136.trans (congrArg some (by kernel_rfl))⟩
  t0 := Try.underlying0
  a0 := Try.isAgg0
  z0 := Try.sizeOf0
  v0 := Try.zeroValue0
  t3 := Try.underlying3
  a3 := Try.isAgg3
  z3 := Try.sizeOf3
  v3 := Try.zeroValue3
  t4 := Try.underlying4
  a4 := Try.isAgg4
  z4 := Try.sizeOf4
  v4 := Try.zeroValue4
  t9 := Try.underlying9
  a9 := Try.isAgg9
  z9 := Try.sizeOf9
  v9 := Try.zeroValue9
  t20 := Try.underlying20
  a20 := Try.isAgg20
  z20 := Try.sizeOf20
  v20 := Try.zeroValue20
  t22 := Try.underlying27
  a22 := Try.isAgg27
  z22 := Try.sizeOf27
  v22 := Try.zeroValue27 }

set_option maxRecDepth 100000 in
theorem dgrow_m (n : Nat) (hn : n < 1000000000) : MFn Try.prog False 136 [.x (.slice none 0 0), iA n] [] (DotS.CmR []) := by
  refine ⟨enter_of Try.func136 (by kernel_rfl) rfl, fun O w args env hl hr => ?_⟩
  have hargs : args = #[.slice none 0 0, .int .i64 n] := by
    apply Array.ext'
    have := (AV.repC_vals_ (O := owned O []) (w := w) [.x (.slice none 0 0), iA n] rfl args.toList (by simpa using hl)).1 (by
      have e : (fun j => args.toList[j]?) = (fun j => args[j]?) := funext fun j => Array.getElem?_toList
      rw [e]; exact hr)
    rw [this]; rfl
  subst hargs
  rcases Nat.eq_zero_or_pos n with h0 | h0
  · subst h0
    refine (Any8.slices_Grow_room growDot none 0 0 0 w (Nat.le_refl _) (by omega) (by omega) (by omega)).mono ?_
    rintro e w' ⟨rfl, rfl⟩
    have hp := env.push (p := DotS.factRow (.slice none 0 0) []) (Bl.refl _ _) ⟨[], World.ownsRow_nil _ _ _ _, rfl, by simp [RepC]⟩ (fun b hb => by cases hb)
    exact ⟨_, _, _, rfl, ⟨_, rfl, rfl⟩, hp, rep_x.2 rfl⟩
  · obtain ⟨ti, hti⟩ := Option.isSome_iff_exists.1 (show (Try.prog.info? 23).isSome = true by kernel_rfl)
    have hsz : ti.size = 2 := by
      have : (Try.prog.info? 23).map (·.size) = some 2 := by kernel_rfl
      rw [hti] at this; simpa using this
    have hby : ti.bytes = 16 := by
      have : (Try.prog.info? 23).map (·.bytes) = some 16 := by kernel_rfl
      rw [hti] at this; simpa using this
    have hz : ti.zero = some (.agg #[.int .i64 0, .int .i64 0]) := by
      have : (Try.prog.info? 23).map (·.zero) = some (some (.agg #[.int .i64 0, .int .i64 0])) := by kernel_rfl
      rw [hti] at this; simpa using this
    refine (Any8.slices_Grow_grow growDot ti _ hti hz (by omega) none 0 0 n [] w (Nat.le_refl _) (by omega) (by rw [hby]; omega) (by omega) (by simp) (fun _ => rfl) (fun a ha => by cases ha)).mono ?_
    rintro e w' ⟨rfl, hw⟩
    generalize hcap : grownCap w (0 + n) 0 (growDot_ren.t 25) = cap at hw ⊢
    have hge : 0 + n ≤ cap := by rw [← hcap]; exact grownCap_ge _ _ _ _
    have hle : cap ≤ maxLen := by rw [← hcap]; exact grownCap_le_maxLen _ _ _ _ (by simp only [maxLen]; omega)
    generalize hcs : (([] : List Value).toArray ++ Builtin.zeroCells (Value.agg #[.int .i64 0, .int .i64 0]).cells (0 + n - 0) ++ Builtin.zeroCells (Value.agg #[.int .i64 0, .int .i64 0]).cells (cap - (0 + n))) = cs at hw
    have hcl : cs.size = cap * 2 := by
      rw [← hcs, Array.size_append, Array.size_append, size_zeroCells, size_zeroCells]
      show 0 + (0 + n - 0) * 2 + (cap - (0 + n)) * 2 = cap * 2
      omega
    have hb : Bl False w w' := by
      rw [hw]
      exact bl_weak ((below_drewN (Below.refl _ w) 1).alloc (Nat.le_refl _) _)
    have hheap : w'.heap[w.heap.size]? = some (.cells cs 23 (0, 0)) := by
      rw [hw]; exact heap_alloc_new w.drew _
    have hown : w'.ownsRow 0 23 2 (.slice (some ⟨w.heap.size, 0, none⟩) 0 cap) 0 [] := ⟨rfl, .inr ⟨w.heap.size, cap, cs, rfl, Nat.zero_le _, hheap, Nat.zero_le _, hle, hcl, by simp⟩⟩
    have hp := env.push (p := DotS.factRow (.slice (some ⟨w.heap.size, 0, none⟩) 0 cap) []) hb ⟨[], hown, rfl, by simp [RepC]⟩ (fun b hb' => by
      obtain rfl : w.heap.size = b := by simpa [DotS.factRow, HObj.blk, Value.ownBlock] using hb'
      exact ⟨Nat.le_refl _, (Array.getElem?_eq_some_iff.1 hheap).1⟩)
    exact ⟨_, _, _, rfl, ⟨_, rfl, rfl⟩, hp, rep_x.2 rfl⟩

def encS (l : List (Int × Int)) : List AV := [slD l]
def sumL (ls : List (List (Int × Int))) : Nat := (ls.map List.length).sum
theorem sumL_take {ls : List (List (Int × Int))} {i : Nat} {d : List (Int × Int)} (h : ls[i]? = some d) : sumL (ls.take (i + 1)) = sumL (ls.take i) + d.length := by
  obtain ⟨hi, rfl⟩ := List.getElem?_eq_some_iff.1 h
  unfold sumL
  rw [← List.take_append_getElem hi, List.map_append, List.sum_append]; simp
theorem sumL_le {ls : List (List (Int × Int))} (h : ∀ l ∈ ls, l.length < 1000000) : sumL ls ≤ ls.length * 1000000 := by
  induction ls with
  | nil => exact Nat.zero_le _
  | cons d ls ih =>
    have h1 := h d (by simp)
    have h2 := ih fun l hl => h l (by simp [hl])
    unfold sumL at h2 ⊢
    rw [List.map_cons, List.sum_cons, List.length_cons]
    omega
theorem cflat_take {ls : List (List (Int × Int))} {i : Nat} {d : List (Int × Int)} (h : ls[i]? = some d) : (ls.take (i + 1)).flatten = (ls.take i).flatten ++ d := by
  obtain ⟨hi, rfl⟩ := List.getElem?_eq_some_iff.1 h
  rw [← List.take_append_getElem hi, List.flatten_append]; simp
theorem flat_len_sum (ls : List (List (Int × Int))) : ls.flatten.length = sumL ls := List.length_flatten

set_option maxRecDepth 100000 in
theorem dconcat_p (ls : List (List (Int × Int))) (hn : ls.length < 100) (hl : ∀ l ∈ ls, l.length < 1000000) : PFn Try.prog False 98 [.sl 1 ls.length (ls.flatMap encS)] (slD ls.flatten) := by
  refine pfn Try.func98 rfl (by kernel_rfl) 36 rfl _ rfl (Nat.le_of_ble_eq_true rfl) (fun X w0 => ?_)
  refine wSeq ?_
  refine wReg ?_
  refine sP rfl rfl rfl (pA rfl rfl) ?_
  refine lNil ?_
  refine wSeq ?_
  refine wReg ?_
  refine sP rfl rfl rfl (pA rfl rfl) ?_
  refine lNil ?_
  refine wSeq ?_
  refine wSeq ?_
  refine wReg ?_
  refine sP rfl rfl rfl (pMs rfl rfl) ?_
  refine sP rfl rfl rfl (p_len_sl rfl rfl Try.underlying184) ?_
  refine sP rfl rfl rfl (pM rfl rfl) ?_
  refine lNil ?_
  refine wBlock ?_
  refine wLoop (fun mm L h => ∃ i s, mm = ls.length - i ∧ i ≤ ls.length ∧ s = sumL (ls.take i) ∧ L = [(0, .sl 1 ls.length (ls.flatMap encS)), (3, iA (s : Nat)), (9, .sl 1 ls.length (ls.flatMap encS)), (10, iA ls.length), (11, iA (i : Nat))] ∧ h = []) ⟨_, _, _, _, ⟨0, 0, rfl, Nat.zero_le _, rfl, rfl, rfl⟩, ⟨rfl, rfl, rfl, rfl, rfl, trivial⟩, rfl⟩ ?_
  rintro mm L h ⟨i, s, rfl, hi, hs, rfl, rfl⟩
  have hsb : s ≤ 100000000 := by
    rw [hs]
    have h1 := sumL_le (ls := ls.take i) fun l h => hl l (List.mem_of_mem_take h)
    rw [List.length_take] at h1
    omega
  refine wSeq ?_
  refine wReg ?_
  refine sP rfl rfl rfl (p_icmp rfl rfl rfl rfl) ?_
  refine lNil ?_
  refine wSeq ?_
  refine wCond rfl (fun hc1 => ?_) (fun hc1 => ?_)
  · have hlt : i < ls.length := by simpa using hc1
    obtain ⟨d, hd⟩ := getL hlt
    have hdl := hl d (List.mem_of_getElem? hd)
    refine wSkip ?_
    refine wSeq ?_
    refine wBlock ?_
    refine wSeq ?_
    refine wReg ?_
    refine sP rfl rfl rfl (pIdx (enc := encS) (l := ls) i rfl rfl Try.underlying184 ty27 (by decide) rfl (fun _ => rfl) rfl rfl hd) ?_
    refine sP rfl rfl rfl (pLd1 rfl rfl ty27) ?_
    refine sP rfl rfl rfl (pAs rfl rfl) ?_
    refine lNil ?_
    refine wSeq ?_
    refine wReg ?_
    refine sP rfl rfl rfl (pM rfl rfl) ?_
    refine sP rfl rfl rfl (pMs rfl rfl) ?_
    refine sP rfl rfl rfl (p_len_sl rfl rfl Try.underlying27) ?_
    refine sP rfl rfl rfl (p_iar rfl rfl rfl (by show some _ = some _; rw [wrapI (by omega) (by omega)])) ?_
    refine sP rfl rfl rfl (pA rfl rfl) ?_
    refine lNil ?_
    refine wSeq ?_
    refine wReg ?_
    refine sP rfl rfl rfl (pM rfl rfl) ?_
    refine sP rfl rfl rfl (p_icmp rfl rfl rfl rfl) ?_
    refine lNil ?_
    refine wCond rfl (fun hc2 => ?_) (fun hc2 => ?_)
    · exact absurd hc2 (by simp; omega)
    · refine wSkip ?_
      refine wReg ?_
      refine sP rfl rfl rfl (p_iar rfl rfl rfl rfl) ?_
      refine sP rfl rfl rfl (pM rfl rfl) ?_
      refine lNil ?_
      refine ⟨_, _, [], [], ?_, ⟨i + 1, s + d.length, rfl, hlt, ?_, rfl, rfl⟩, ⟨rfl, avI (by rw [Int.natCast_add]), rfl, rfl, avI (wrapI (by omega) (by omega)), trivial⟩, rfl⟩
      · omega
      · rw [hs, sumL_take hd]
  · have hge : i = ls.length := by
      have h : ¬ i < ls.length := by simpa using hc1
      omega
    subst hge
    refine wExit ?_
    refine wSeq ?_
    refine wReg ?_
    refine sP rfl rfl rfl (pM rfl rfl) ?_
    refine sM0 rfl rfl rfl rfl (dgrow_m s (by omega)) ⟨Sub.refl, Sub.refl, trivial⟩ (fun _ _ h => h.one) (fun av q hr => ?_)
    obtain ⟨v, rfl, rfl⟩ := hr.pq
    refine sP rfl rfl rfl (pA rfl rfl) ?_
    refine lNil ?_
    refine wSeq ?_
    refine wSeq ?_
    refine wReg ?_
    refine sP rfl rfl rfl (pMs rfl rfl) ?_
    refine sP rfl rfl rfl (p_len_sl rfl rfl Try.underlying184) ?_
    refine sP rfl rfl rfl (pM rfl rfl) ?_
    refine lNil ?_
    refine wBlock ?_
    refine wLoop (fun mm L h => ∃ i v, mm = ls.length - i ∧ i ≤ ls.length ∧ L = [(6, .x v), (25, .sl 1 ls.length (ls.flatMap encS)), (26, iA ls.length), (27, iA (i : Nat))] ∧ h = [DotS.factRow v (ls.take i).flatten]) ⟨_, _, _, _, ⟨0, _, rfl, Nat.zero_le _, rfl, rfl⟩, ⟨rfl, rfl, rfl, rfl, trivial⟩, rfl⟩ ?_
    rintro mm L h ⟨i, v, rfl, hi, rfl, rfl⟩
    have hsb : sumL (ls.take i) ≤ 100000000 := by
      have h1 := sumL_le (ls := ls.take i) fun l h => hl l (List.mem_of_mem_take h)
      rw [List.length_take] at h1
      omega
    refine wSeq ?_
    refine wReg ?_
    refine sP rfl rfl rfl (p_icmp rfl rfl rfl rfl) ?_
    refine lNil ?_
    refine wSeq ?_
    refine wCond rfl (fun hc3 => ?_) (fun hc3 => ?_)
    · have hlt : i < ls.length := by simpa using hc3
      obtain ⟨d, hd⟩ := getL hlt
      have hdl := hl d (List.mem_of_getElem? hd)
      refine wSkip ?_
      refine wSeq ?_
      refine wBlock ?_
      refine wSeq ?_
      refine wReg ?_
      refine sP rfl rfl rfl (pIdx (enc := encS) (l := ls) i rfl rfl Try.underlying184 ty27 (by decide) rfl (fun _ => rfl) rfl rfl hd) ?_
      refine sP rfl rfl rfl (pLd1 rfl rfl ty27) ?_
      refine sP rfl rfl rfl (pAs rfl rfl) ?_
      refine lNil ?_
      refine wReg ?_
      refine sP rfl rfl rfl (pM rfl rfl) ?_
      refine sP rfl rfl rfl (pMs rfl rfl) ?_
      refine sAppendL (enc := encA) (l := (ls.take i).flatten) 0 d rfl rfl rfl rfl Try.underlying27 ro23 rfl rfl rfl (fun _ => rfl) (by rw [flat_len_sum]; omega) (by rw [flat_len_sum]; omega) (fun v33 => ?_)
      refine sP rfl rfl rfl (pA rfl rfl) ?_
      refine lNil ?_
      refine wReg ?_
      refine sP rfl rfl rfl (p_iar rfl rfl rfl rfl) ?_
      refine sP rfl rfl rfl (pM rfl rfl) ?_
      refine lNil ?_
      refine ⟨_, _, [DotS.factRow v33 (ls.take (i + 1)).flatten], [], ?_, ⟨i + 1, v33, rfl, hlt, rfl, rfl⟩, ⟨rfl, rfl, rfl, avI (wrapI (by omega) (by omega)), trivial⟩, ?_⟩
      · omega
      · rw [cflat_take hd]; rfl
    · have hge : i = ls.length := by
        have h : ¬ i < ls.length := by simpa using hc3
        omega
      subst hge
      rw [List.take_length]
      refine wExit ?_
      refine wSeq ?_
      refine wReg ?_
      refine sP rfl rfl rfl (pM rfl rfl) ?_
      refine sP rfl rfl rfl (pA rfl rfl) ?_
      refine lNil ?_
      refine wRet ?_
      exact rgs1 (rg_tmp (gives_row (List.mem_of_getElem? (i := 0) rfl)))
set_option maxRecDepth 100000 in
theorem dequal_p (a b : List (Int × Int)) (ha : a.length < 1000000) (hb : b.length < 1000000) : PFn Try.prog False 153 [slD a, slD b] (bA (decide (a = b))) := by
  refine pfn Try.func153 rfl (by kernel_rfl) 26 rfl _ rfl (Nat.le_of_ble_eq_true rfl) (fun X w0 => ?_)
  refine wSeq ?_
  refine wReg ?_
  refine sP rfl rfl rfl (pA rfl rfl) ?_
  refine lNil ?_
  refine wSeq ?_
  refine wSeq ?_
  refine wReg ?_
  refine sP rfl rfl rfl (pMs rfl rfl) ?_
  refine sP rfl rfl rfl (p_len_sl rfl rfl Try.underlying27) ?_
  refine sP rfl rfl rfl (pMs rfl rfl) ?_
  refine sP rfl rfl rfl (p_len_sl rfl rfl Try.underlying27) ?_
  refine sP rfl rfl rfl (p_icmp rfl rfl rfl rfl) ?_
  refine lNil ?_
  refine wCond rfl (fun hc1 => ?_) (fun hc1 => ?_)
  · refine wSeq ?_
    refine wReg ?_
    refine sP rfl rfl rfl (pA rfl rfl) ?_
    refine lNil ?_
    refine wRet ?_
    have hne : a.length ≠ b.length := by have h := hc1; simp at h; omega
    exact rgs1 (rg_tmp (gives_sub (Sub.of_eq (avB (decide_eq_false fun e => hne (by rw [e])).symm))))
  · have hab : a.length = b.length := by have h := hc1; simp at h; omega
    refine wSkip ?_
    refine wSeq ?_
    refine wSeq ?_
    refine wReg ?_
    refine sP rfl rfl rfl (pMs rfl rfl) ?_
    refine sP rfl rfl rfl (p_len_sl rfl rfl Try.underlying27) ?_
    refine sP rfl rfl rfl (pM rfl rfl) ?_
    refine lNil ?_
    refine wBlock ?_
    refine wLoop (fun mm L h => ∃ i, mm = a.length - i ∧ i ≤ a.length ∧ (∀ j, j < i → a[j]? = b[j]?) ∧ L = [(0, slD a), (1, slD b), (12, iA a.length), (13, iA (i : Nat))] ∧ h = []) ⟨_, _, _, _, ⟨0, rfl, Nat.zero_le _, fun j hj => absurd hj (by omega), rfl, rfl⟩, ⟨rfl, rfl, rfl, rfl, trivial⟩, rfl⟩ ?_
    rintro mm L h ⟨i, rfl, hi, h0, rfl, rfl⟩
    refine wSeq ?_
    refine wReg ?_
    refine sP rfl rfl rfl (p_icmp rfl rfl rfl rfl) ?_
    refine lNil ?_
    refine wSeq ?_
    refine wCond rfl (fun hc2 => ?_) (fun hc2 => ?_)
    · have hlt : i < a.length := by simpa using hc2
      obtain ⟨x, hx⟩ := getL hlt
      obtain ⟨y, hy⟩ := getL (l := b) (i := i) (by omega)
      refine wSkip ?_
      refine wSeq ?_
      refine wBlock ?_
      refine wSeq ?_
      refine wReg ?_
      refine sP rfl rfl rfl (pM rfl rfl) ?_
      refine sP rfl rfl rfl (pA rfl rfl) ?_
      refine lNil ?_
      refine wSeq ?_
      refine wDraw 9 (by kernel_rfl) (by kernel_rfl) ?_
      refine sP rfl rfl rfl (pMs rfl rfl) ?_
      refine sP rfl rfl rfl (pM rfl rfl) ?_
      refine sP rfl rfl rfl (pIdx i rfl rfl Try.underlying27 ty23 (by decide) rfl (fun _ => rfl) rfl rfl hx) ?_
      refine sP rfl rfl rfl (pLdE rfl rfl ty23 rfl) ?_
      refine sP rfl rfl rfl (pMs rfl rfl) ?_
      refine sP rfl rfl rfl (pM rfl rfl) ?_
      refine sP rfl rfl rfl (pIdx i rfl rfl Try.underlying27 ty23 (by decide) rfl (fun _ => rfl) rfl rfl hy) ?_
      refine sP rfl rfl rfl (pLdE rfl rfl ty23 rfl) ?_
      refine sP rfl rfl rfl (p_nes rfl rfl rfl rfl rfl guardD (fun w => eqD 9998 w x y)) ?_
      refine lTail ?_
      refine lNil ?_
      refine wCond rfl (fun hc3 => ?_) (fun hc3 => ?_)
      · refine wSeq ?_
        refine wReg ?_
        refine sP rfl rfl rfl (pA rfl rfl) ?_
        refine lNil ?_
        refine wRet ?_
        have hne : x ≠ y := by simpa using hc3
        exact rgs1 (rg_tmp (gives_sub (Sub.of_eq (avB (decide_eq_false fun e => hne (by rw [e, hy] at hx; injection hx with hx; exact hx.symm)).symm))))
      · refine wSkip ?_
        refine wReg ?_
        refine sP rfl rfl rfl (p_iar rfl rfl rfl rfl) ?_
        refine sP rfl rfl rfl (pM rfl rfl) ?_
        refine lNil ?_
        have he : x = y := by simpa using hc3
        refine ⟨_, _, [], [], ?_, ⟨i + 1, rfl, hlt, fun j hj => ?_, rfl, rfl⟩, ⟨rfl, rfl, rfl, avI (wrapI (by omega) (by omega)), trivial⟩, rfl⟩
        · omega
        · rcases Nat.lt_or_ge j i with h | h
          · exact h0 j h
          · obtain rfl : j = i := by omega
            rw [hx, hy, he]
    · have hge : i = a.length := by
        have h : ¬ i < a.length := by simpa using hc2
        omega
      subst hge
      refine wExit ?_
      refine wSeq ?_
      refine wReg ?_
      refine sP rfl rfl rfl (pA rfl rfl) ?_
      refine lNil ?_
      refine wRet ?_
      have he : a = b := List.ext_getElem? fun j => by
        rcases Nat.lt_or_ge j a.length with g | g
        · exact h0 j g
        · rw [List.getElem?_eq_none g, List.getElem?_eq_none (by omega)]
      exact rgs1 (rg_tmp (gives_sub (Sub.of_eq (avB (decide_eq_true he).symm))))
end Go.Proofs.Ytmhkalalcmkpbaa
