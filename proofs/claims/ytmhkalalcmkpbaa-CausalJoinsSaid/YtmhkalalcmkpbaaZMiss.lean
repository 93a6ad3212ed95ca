/-
  Dcomp Dlay Dsort BTC Cat Ctx Ctx2 C10 BTM Miss
-/
import Derived.Test.YtmhkalalcmkpbaaZBT2
import Derived.Test.YtmhkalalcmkpbaaZC5
import Derived.Test.YtmhkalalcmkpbaaZC6
import Derived.Test.YtmhkalalcmkpbaaZC9
import Derived.Test.YtmhkalalcmkpbaaZDel1
import Derived.Test.YtmhkalalcmkpbaaZDw
import Derived.Test.YtmhkalalcmkpbaaZLfrB
import Derived.Test.YtmhkalalcmkpbaaZOrdC
import Derived.Test.YtmhkalalcmkpbaaZVec2
import Derived.Shelf.SlSortCmp.WholeK
import Derived.Shelf.SlSortCmp.NoneTotal
import Derived.Shelf.Spec.SlicesGrow
namespace Go.Proofs.Ytmhkalalcmkpbaa.DotS
open Go Go.RowKit
set_option linter.unusedVariables false
set_option linter.unusedSimpArgs false

theorem encF8 (x : (Int × Int)) : (encA x).length = 2 := rfl
theorem fAt {l : List (Int × Int)} {rest : List AV} {i off : Nat} {x : (Int × Int)} (h : l[i]? = some x) (ho : off = i * 2) : ((l.flatMap encA ++ rest).drop off).take 2 = encA x := by
  subst ho; exact flat_at encF8 h
theorem fLen (l : List (Int × Int)) (rest : List AV) : (l.flatMap encA ++ rest).length = l.length * 2 + rest.length := by rw [List.length_append, flat_len_ encF8]
theorem fLe {l : List (Int × Int)} {rest : List AV} {i off : Nat} (h : i < l.length) (ho : off = i * 2) : off + 2 ≤ (l.flatMap encA ++ rest).length := by rw [fLen]; omega
theorem fRow {m : List (Int × Int)} {l : List (Int × Int)} {rest tail : List AV} {kk : Nat} (hm : m.take kk = l) (hk : kk ≤ m.length) : ((m.flatMap encA ++ rest).take (0 + kk * 2) ++ tail).take (kk * 2) = l.flatMap encA := by
  have e : (m.flatMap encA ++ rest).take (0 + kk * 2) = l.flatMap encA := by
    rw [Nat.zero_add, List.take_append_of_le_length (by rw [flat_len_ encF8]; exact Nat.mul_le_mul_right 2 hk), flat_take_ encF8, hm]
  have e2 : (l.flatMap encA).length = kk * 2 := by rw [flat_len_ encF8, ← hm, List.length_take, Nat.min_eq_left hk]
  rw [e, List.take_append_of_le_length (by omega), List.take_of_length_le (by omega)]
theorem fRowAll (l : List (Int × Int)) (rest : List AV) : (l.flatMap encA ++ rest).take (l.length * 2) = l.flatMap encA := by
  have e2 : (l.flatMap encA).length = l.length * 2 := flat_len_ encF8 l
  rw [← e2, List.take_left]
def factRow (v : Value) (l : List (Int × Int)) : HObj := .row v 23 2 l.length (l.flatMap encA)
def CmR (l : List (Int × Int)) (av : AV) (h' : List HObj) : Prop := ∃ v', av = .x v' ∧ h' = [factRow v' l]

set_option maxHeartbeats 1000000 in
set_option maxRecDepth 100000 in
theorem fcomp_m {K : Prop} (v : Value) (l : List (Int × Int)) (hn : l.length < 1000000) : MFn Try.prog K 152 [.x v] [factRow v l] (CmR (compact l)) := by
  refine mfn Try.func152 rfl (by kernel_rfl) 61 rfl _ rfl (Nat.le_of_ble_eq_true rfl) (fun X w0 => ?_)
  refine wSeq ?_
  refine wReg ?_
  refine sP rfl rfl rfl (pA rfl rfl) ?_
  refine lNil ?_
  refine wSeq ?_
  refine wSeq ?_
  refine wReg ?_
  refine sP rfl rfl rfl (pM rfl rfl) ?_
  refine sP rfl rfl rfl (p_len_row rfl rfl (List.mem_of_getElem? (i := 0) rfl) Try.underlying27) ?_
  refine sP rfl rfl rfl (p_icmp rfl rfl rfl rfl) ?_
  refine lNil ?_
  refine wCond rfl (fun hc1 => ?_) (fun hc1 => ?_)
  · refine wSeq ?_
    refine wReg ?_
    refine sP rfl rfl rfl (pM rfl rfl) ?_
    refine sP rfl rfl rfl (pA rfl rfl) ?_
    refine lNil ?_
    refine wRet ?_
    have h : l.length < 2 := by have h := hc1; simp at h; omega
    rw [compact_short h]
    exact ⟨_, [factRow v l], [], rfl, ⟨v, rfl, rfl⟩, rgm_tmp (r := []) rfl Sub.refl⟩
  · have h2 : 2 ≤ l.length := by have h := hc1; simp at h; omega
    refine wRowCells 0 rfl (by omega) (fun g cap hv hnc hcm => ?_)
    subst hv
    refine wSkip ?_
    refine wSeq ?_
    refine wSeq ?_
    refine wReg ?_
    refine sP rfl rfl rfl (pA rfl rfl) ?_
    refine lNil ?_
    refine wBlock ?_
    refine wLoop (fun mm L h => ∃ k, mm = l.length - k ∧ 1 ≤ k ∧ k ≤ l.length ∧ compact (l.take k) = l.take k ∧ L = [(0, .x (.slice (some ⟨g, 0, none⟩) l.length cap)), (3, iA (k : Nat))] ∧ h = [.cells g 23 (l.flatMap encA ++ List.replicate (cap * 2 - l.length * 2) .any)]) ⟨_, _, _, _, ⟨1, rfl, Nat.le_refl _, by omega, compact_short (by rw [List.length_take]; omega), rfl, rfl⟩, ⟨rfl, rfl, trivial⟩, rfl⟩ ?_
    rintro mm L h ⟨k, rfl, hk1, hkn, hcp, rfl, rfl⟩
    refine wSeq ?_
    refine wSeq ?_
    refine wReg ?_
    refine sP rfl rfl rfl (pM rfl rfl) ?_
    refine sP rfl rfl rfl (pM rfl rfl) ?_
    refine sP rfl rfl rfl (p_len_x rfl rfl Try.underlying27) ?_
    refine sP rfl rfl rfl (p_icmp rfl rfl rfl rfl) ?_
    refine lNil ?_
    refine wCond rfl (fun hc2 => ?_) (fun hc2 => ?_)
    · have hk : k < l.length := by have h := hc2; simp at h; omega
      obtain ⟨x, hx⟩ := getL hk
      obtain ⟨y, hy⟩ := getL (l := l) (i := k - 1) (by omega)
      have hz : IntKind.i64.wrap ((k : Int) - 1) = ((k - 1 : Nat) : Int) := by rw [wrapI (by omega) (by omega)]; omega
      refine wSkip ?_
      refine wSeq ?_
      refine wBlock ?_
      refine wSeq ?_
      refine wDraw 10 (by kernel_rfl) (by kernel_rfl) ?_
      refine sP rfl rfl rfl (pM rfl rfl) ?_
      refine sP rfl rfl rfl (pM rfl rfl) ?_
      refine sP rfl rfl rfl (p_indexAddr_ow (k) rfl rfl Try.underlying27 ty23 rfl rfl hk) ?_
      refine sP rfl rfl rfl (pLdO 0 rfl rfl rfl ty23 (fLe hk (by omega)) (fAt hx (by omega))) ?_
      refine sP rfl rfl rfl (pM rfl rfl) ?_
      refine sP rfl rfl rfl (pM rfl rfl) ?_
      refine sP rfl rfl rfl (p_iar rfl rfl rfl rfl) ?_
      refine sP rfl rfl rfl (p_indexAddr_ow (k - 1) rfl rfl Try.underlying27 ty23 rfl hz (by omega)) ?_
      refine sP rfl rfl rfl (pLdO 0 rfl rfl rfl ty23 (fLe (i := k - 1) (by omega) (by omega)) (fAt hy (by omega))) ?_
      refine sP rfl rfl rfl (p_eqs rfl rfl rfl rfl rfl guardD (fun w => eqD 9998 w x y)) ?_
      refine lTail ?_
      refine lNil ?_
      refine wCond rfl (fun hc3 => ?_) (fun hc3 => ?_)
      · have hxy : x = y := by simpa using hc3
        refine wSeq ?_
        refine wReg ?_
        refine sP rfl rfl rfl (pM rfl rfl) ?_
        refine sP rfl rfl rfl (pM rfl rfl) ?_
        refine sP rfl rfl rfl (p_slice_ow k l.length rfl rfl Try.underlying27 ty23 ⟨_, _, rfl, rfl⟩ rfl (by omega) (Nat.le_refl _) hnc (by omega)) ?_
        refine sP rfl rfl rfl (pA rfl rfl) ?_
        refine lNil ?_
        refine wSeq ?_
        refine wSeq ?_
        refine wReg ?_
        refine sP rfl rfl rfl (pA rfl rfl) ?_
        refine lNil ?_
        refine wBlock ?_
        refine wLoop (fun mm L h => ∃ kk k2 m, mm = l.length - (k + k2) ∧ 1 ≤ k2 ∧ k + k2 ≤ l.length ∧ CompG l m (k + k2) kk ∧ L = [(0, .x (.slice (some ⟨g, 0, none⟩) l.length cap)), (3, iA (kk : Nat)), (4, .x (.slice (some ⟨g, 0 + k * 2, none⟩) (l.length - k) (cap - k))), (5, iA (k2 : Nat))] ∧ h = [.cells g 23 (m.flatMap encA ++ List.replicate (cap * 2 - l.length * 2) .any)]) ⟨_, _, _, _, ⟨k, 1, l, rfl, Nat.le_refl _, hk, CompG.start hx hk1 (by rw [hy, hxy]) hcp, rfl, rfl⟩, ⟨rfl, rfl, rfl, rfl, trivial⟩, rfl⟩ ?_
        rintro mm L h ⟨kk, k2, m, rfl, hk2, hk3, hC, rfl, rfl⟩
        have hms := hC.size
        have hlt := hC.lt
        refine wSeq ?_
        refine wSeq ?_
        refine wReg ?_
        refine sP rfl rfl rfl (pM rfl rfl) ?_
        refine sP rfl rfl rfl (pM rfl rfl) ?_
        refine sP rfl rfl rfl (p_len_x rfl rfl Try.underlying27) ?_
        refine sP rfl rfl rfl (p_icmp rfl rfl rfl rfl) ?_
        refine lNil ?_
        refine wCond rfl (fun hc4 => ?_) (fun hc4 => ?_)
        · have hk4 : k + (k2 + 1) ≤ l.length := by have h := hc4; simp at h; omega
          obtain ⟨u1, hul⟩ : ∃ u, l[k + k2]? = some u := getL (by omega)
          obtain ⟨u2, hvl⟩ : ∃ u, l[k + k2 - 1]? = some u := getL (by omega)
          have hu : m[k + k2]? = some u1 := by rw [hC.high _ (by omega)]; exact hul
          have hv : m[k + k2 - 1]? = some u2 := by rw [hC.high _ (by omega)]; exact hvl
          have hz2 : IntKind.i64.wrap ((k2 : Int) - 1) = ((k2 - 1 : Nat) : Int) := by rw [wrapI (by omega) (by omega)]; omega
          refine wSkip ?_
          refine wSeq ?_
          refine wBlock ?_
          refine wSeq ?_
          refine wDraw 10 (by kernel_rfl) (by kernel_rfl) ?_
          refine sP rfl rfl rfl (pM rfl rfl) ?_
          refine sP rfl rfl rfl (pM rfl rfl) ?_
          refine sP rfl rfl rfl (p_indexAddr_ow (k2) rfl rfl Try.underlying27 ty23 rfl rfl (by omega)) ?_
          refine sP rfl rfl rfl (pLdO 0 rfl rfl rfl ty23 (fLe (i := k + k2) (by omega) (by omega)) (fAt hu (by omega))) ?_
          refine sP rfl rfl rfl (pM rfl rfl) ?_
          refine sP rfl rfl rfl (pM rfl rfl) ?_
          refine sP rfl rfl rfl (p_iar rfl rfl rfl rfl) ?_
          refine sP rfl rfl rfl (p_indexAddr_ow (k2 - 1) rfl rfl Try.underlying27 ty23 rfl hz2 (by omega)) ?_
          refine sP rfl rfl rfl (pLdO 0 rfl rfl rfl ty23 (fLe (i := k + k2 - 1) (by omega) (by omega)) (fAt hv (by omega))) ?_
          refine sP rfl rfl rfl (p_nes rfl rfl rfl rfl rfl guardD (fun w => eqD 9998 w u1 u2)) ?_
          refine lTail ?_
          refine lNil ?_
          refine wCond rfl (fun hc5 => ?_) (fun hc5 => ?_)
          · refine wSeq ?_
            refine wReg ?_
            refine sP rfl rfl rfl (pM rfl rfl) ?_
            refine sP rfl rfl rfl (pM rfl rfl) ?_
            refine sP rfl rfl rfl (pM rfl rfl) ?_
            refine sP rfl rfl rfl (pM rfl rfl) ?_
            refine sP rfl rfl rfl (p_indexAddr_ow (k2) rfl rfl Try.underlying27 ty23 rfl rfl (by omega)) ?_
            refine sP rfl rfl rfl (pLdO 0 rfl rfl rfl ty23 (fLe (i := k + k2) (by omega) (by omega)) (fAt hu (by omega))) ?_
            refine sP rfl rfl rfl (p_indexAddr_ow (kk) rfl rfl Try.underlying27 ty23 rfl rfl (by omega)) ?_
            refine sStore 0 rfl rfl rfl rfl rfl ty23 rfl rfl rfl (fLe (i := kk) (by omega) (by omega)) ?_
            refine lNil ?_
            refine wReg ?_
            refine sP rfl rfl rfl (pM rfl rfl) ?_
            refine sP rfl rfl rfl (p_iar rfl rfl rfl rfl) ?_
            refine sP rfl rfl rfl (pA rfl rfl) ?_
            refine lNil ?_
            refine wReg ?_
            refine sP rfl rfl rfl (pM rfl rfl) ?_
            refine sP rfl rfl rfl (p_iar rfl rfl rfl rfl) ?_
            refine sP rfl rfl rfl (pA rfl rfl) ?_
            refine lNil ?_
            have hne : u1 ≠ u2 := by simpa using hc5
            refine ⟨_, _, [.cells g 23 ((m.set kk u1).flatMap encA ++ List.replicate (cap * 2 - l.length * 2) .any)], [], ?_, ⟨kk + 1, k2 + 1, m.set kk u1, rfl, by omega, hk4, hC.keep hul (by omega) hvl hne, rfl, rfl⟩, ⟨rfl, avI (wrapI (by omega) (by omega)), rfl, avI (wrapI (by omega) (by omega)), trivial⟩, ?_⟩
            · omega
            · show [HObj.cells g _ (spl _ (0 + kk * 2) _)] = _
              rw [Nat.zero_add, flat_spl encF8 (by omega)]
              rfl
          · refine wSkip ?_
            refine wReg ?_
            refine sP rfl rfl rfl (pM rfl rfl) ?_
            refine sP rfl rfl rfl (p_iar rfl rfl rfl rfl) ?_
            refine sP rfl rfl rfl (pA rfl rfl) ?_
            refine lNil ?_
            have hne : u1 = u2 := by simpa using hc5
            refine ⟨_, _, [.cells g 23 (m.flatMap encA ++ List.replicate (cap * 2 - l.length * 2) .any)], [], ?_, ⟨kk, k2 + 1, m, rfl, by omega, hk4, hC.skip hul (by omega) (by rw [hvl, hne]), rfl, rfl⟩, ⟨rfl, rfl, rfl, avI (wrapI (by omega) (by omega)), trivial⟩, rfl⟩
            omega
        · have hk5 : k + k2 = l.length := by have h := hc4; simp at h; omega
          rw [hk5] at hC
          have hRl : (List.replicate (cap * 2 - l.length * 2) .any : List AV).length = cap * 2 - l.length * 2 := List.length_replicate
          refine wExit ?_
          refine wSeq ?_
          refine wReg ?_
          refine sP rfl rfl rfl (pM rfl rfl) ?_
          refine sP rfl rfl rfl (pM rfl rfl) ?_
          refine sP rfl rfl rfl (p_slice_ow kk l.length rfl rfl Try.underlying27 ty23 ⟨_, _, rfl, rfl⟩ rfl (by omega) (Nat.le_refl _) hnc (by omega)) ?_
          refine sClear (k := 2) 0 rfl rfl rfl Try.underlying27 ze23 rfl (by decide) rfl rfl (by omega) (by rw [fLen]; omega) ?_
          refine lNil ?_
          refine wSeq ?_
          refine wReg ?_
          refine sP rfl rfl rfl (pM rfl rfl) ?_
          refine sP rfl rfl rfl (pM rfl rfl) ?_
          refine sP rfl rfl rfl (p_slice_ow 0 kk rfl rfl Try.underlying27 ty23 rfl ⟨_, _, rfl, rfl⟩ (Nat.zero_le _) (by omega) hnc (by omega)) ?_
          refine sP rfl rfl rfl (pA rfl rfl) ?_
          refine lNil ?_
          refine wCellsRow 0 2 kk rfl (by omega) hcm (by simp only [List.length_append, List.length_take, List.length_replicate, flat_len_ encF8]; omega) ?_
          refine wRet ?_
          refine ⟨_, [_], [], rfl, ⟨_, rfl, ?_⟩, rgm_tmp (r := []) rfl Sub.refl⟩
          rw [factRow, ← hC.all.1, fRow rfl (by omega)]
          congr 2
          rw [hC.all.1, ← hC.all.2]
      · refine wSkip ?_
        refine wReg ?_
        refine sP rfl rfl rfl (pM rfl rfl) ?_
        refine sP rfl rfl rfl (p_iar rfl rfl rfl rfl) ?_
        refine sP rfl rfl rfl (pA rfl rfl) ?_
        refine lNil ?_
        have hne : x ≠ y := by simpa using hc3
        refine ⟨_, _, [.cells g 23 (l.flatMap encA ++ List.replicate (cap * 2 - l.length * 2) .any)], [], ?_, ⟨k + 1, rfl, by omega, hk, compact_next hx hk1 hy hne hcp, rfl, rfl⟩, ⟨rfl, avI (wrapI (by omega) (by omega)), trivial⟩, rfl⟩
        omega
    · have hge : k = l.length := by have h := hc2; simp at h; omega
      rw [hge, List.take_length] at hcp
      refine wExit ?_
      refine wSeq ?_
      refine wReg ?_
      refine sP rfl rfl rfl (pM rfl rfl) ?_
      refine sP rfl rfl rfl (pA rfl rfl) ?_
      refine lNil ?_
      refine wCellsRow 0 2 l.length rfl hnc hcm (by simp only [List.length_append, List.length_replicate, flat_len_ encF8]; omega) ?_
      refine wRet ?_
      refine ⟨_, [_], [], rfl, ⟨_, rfl, ?_⟩, rgm_tmp (r := []) rfl Sub.refl⟩
      rw [hcp, factRow, fRowAll]
end Go.Proofs.Ytmhkalalcmkpbaa.DotS

namespace Go.Proofs.Ytmhkalalcmkpbaa.DotS
open Go.Shelf Go.RowKit Go.Lib Go.Sort
set_option linter.unusedVariables false
def sortFact_ren : Go.Shelf.Ren := ⟨fun | 6 => 151 | 15 => 142 | 14 => 173 | 28 => 166 | 29 => 167 | 20 => 183 | 21 => 184 | 22 => 185 | 23 => 186 | 24 => 187 | 25 => 188 | 26 => 189 | 27 => 190 | 46 => 198 | 47 => 179 | 48 => 180 | 49 => 199 | 50 => 200 | 57 => 203 | n => n, fun | 22 => 27 | 24 => 23 | 25 => 175 | 3 => 3 | 39 => 171 | 0 => 0 | 53 => 220 | 55 => 222 | 4 => 4 | 46 => 214 | 45 => 213 | 50 => 206 | 5 => 5 | 9 => 9 | 66 => 232 | 70 => 236 | 76 => 247 | 77 => 248 | n => n, fun | n => n⟩
theorem sortFact : Go.Proofs.SlLaysF0.n6 Try.prog sortFact_ren := {
  mixed := by kernel_rfl
  f6 := ⟨Try.f151.name, by decide, Try.func151.trans (congrArg some (by kernel_rfl))⟩
  f14 := ⟨Try.f173.name, by decide, Try.func173.trans (congrArg some (by kernel_rfl))⟩
  f15 := Try.func142.trans (congrArg some (by kernel_rfl))
  f20 := ⟨Try.f183.name, by decide, Try.func183.trans (congrArg some (by kernel_rfl))⟩
  f21 := ⟨Try.f184.name, by decide, Try.func184.trans (congrArg some (by kernel_rfl))⟩
  f22 := ⟨Try.f185.name, by decide, Try.func185.trans (congrArg some (by kernel_rfl))⟩
  f23 := ⟨Try.f186.name, by decide, Try.func186.trans (congrArg some (by kernel_rfl))⟩
  f24 := ⟨Try.f187.name, by decide, Try.func187.trans (congrArg some (by kernel_rfl))⟩
  f25 := ⟨Try.f188.name, by decide, Try.func188.trans (congrArg some (by kernel_rfl))⟩
  f26 := ⟨Try.f189.name, by decide, Try.func189.trans (congrArg some (by kernel_rfl))⟩
  f27 := ⟨Try.f190.name, by decide, Try.func190.trans (congrArg some (by kernel_rfl))⟩
  f28 := Try.func166.trans (congrArg some (by kernel_rfl))
  f29 := Try.func167.trans (congrArg some (by kernel_rfl))
  f46 := ⟨Try.f198.name, by decide, Try.func198.trans (congrArg some (by kernel_rfl))⟩
  f47 := Try.func179.trans (congrArg some (by kernel_rfl))
  f48 := Try.func180.trans (congrArg some (by kernel_rfl))
  f49 := ⟨Try.f199.name, by decide, Try.func199.trans (congrArg some (by kernel_rfl))⟩
  f50 := ⟨Try.f200.name, by decide, Try.func200.trans (congrArg some (by kernel_rfl))⟩
  f57 := ⟨Try.f203.name, by decide, Try.func203.trans (congrArg some (by kernel_rfl))⟩
  t0 := Try.underlying0
  a0 := Try.isAgg0
  z0 := Try.sizeOf0
  v0 := Try.zeroValue0
  t3 := Try.underlying3
  a3 := Try.isAgg3
  z3 := Try.sizeOf3
  v3 := Try.zeroValue3
  t4 := Try.underlying4
  a4 := Try.isAgg4
  z4 := Try.sizeOf4
  v4 := Try.zeroValue4
  t5 := Try.underlying5
  a5 := Try.isAgg5
  z5 := Try.sizeOf5
  v5 := Try.zeroValue5
  t9 := Try.underlying9
  a9 := Try.isAgg9
  z9 := Try.sizeOf9
  v9 := Try.zeroValue9
  t22 := Try.underlying27
  a22 := Try.isAgg27
  z22 := Try.sizeOf27
  v22 := Try.zeroValue27
  t25 := Try.underlying175
  a25 := Try.isAgg175
  z25 := Try.sizeOf175
  v25 := Try.zeroValue175
  t39 := Try.underlying171
  a39 := Try.isAgg171
  z39 := Try.sizeOf171
  v39 := Try.zeroValue171
  t45 := Try.underlying213
  a45 := Try.isAgg213
  z45 := Try.sizeOf213
  v45 := Try.zeroValue213
  t46 := Try.underlying214
  a46 := Try.isAgg214
  z46 := Try.sizeOf214
  v46 := Try.zeroValue214
  t50 := Try.underlying206
  a50 := Try.isAgg206
  z50 := Try.sizeOf206
  v50 := Try.zeroValue206
  t53 := Try.underlying220
  a53 := Try.isAgg220
  z53 := Try.sizeOf220
  v53 := Try.zeroValue220
  t55 := Try.underlying222
  a55 := Try.isAgg222
  z55 := Try.sizeOf222
  v55 := Try.zeroValue222
  t66 := Try.underlying232
  a66 := Try.isAgg232
  z66 := Try.sizeOf232
  v66 := Try.zeroValue232
  t70 := Try.underlying236
  a70 := Try.isAgg236
  z70 := Try.sizeOf236
  v70 := Try.zeroValue236
  t76 := Try.underlying247
  a76 := Try.isAgg247
  z76 := Try.sizeOf247
  v76 := Try.zeroValue247
  t77 := Try.underlying248
  a77 := Try.isAgg248
  z77 := Try.sizeOf248
  v77 := Try.zeroValue248 }

abbrev encV (d : Int × Int) : List Value := encD d
theorem exact_of {w w' : World} (h : Bl True w w') : ∃ q os, w' = Sort.grow (w.drewN q) os := by
  refine ⟨w'.drawn - w.drawn, w'.heap.extract w.heap.size w'.heap.size, ?_⟩
  have hd := h.d trivial
  have hb := h.b
  have e1 := hb.os
  have e2 := hb.tape
  have e3 := hb.output
  have e4 : w'.heap = w.heap ++ w'.heap.extract w.heap.size w'.heap.size := by
    apply Array.ext'
    apply List.ext_getElem?
    intro j
    rw [Array.toList_append]
    rcases Nat.lt_or_ge j w.heap.size with hj | hj
    · rw [List.getElem?_append_left (by simpa using hj), Array.getElem?_toList, Array.getElem?_toList]
      exact hb.block j hj
    · rw [List.getElem?_append_right (by simpa using hj), Array.getElem?_toList, Array.getElem?_toList, Array.length_toList, Array.getElem?_extract]
      split
      · congr 1; omega
      · rw [Array.getElem?_eq_none (by omega)]
  have e5 : w'.drawn = w.drawn + (w'.drawn - w.drawn) := by omega
  generalize w'.heap.extract w.heap.size w'.heap.size = os at e4
  generalize w'.drawn - w.drawn = q at e5
  cases w
  cases w'
  simp only at e1 e2 e3 e4 e5
  subst e1 e2 e3 e4 e5
  rfl
theorem agg_fact (w : World) : (isAgg 23).run Try.prog w = .ok true w := by go_simp
theorem size_fact (w : World) : (Go.sizeOf 23).run Try.prog w = .ok 2 w := by go_simp
theorem fenters (args : Array Value) (w : World) : (callFunc 130 args).run Try.prog w = .ok (.enter 130 args) w := (dorder_p (K := True) (0, 0) (0, 0)).enter args w
theorem fcmp_lays (blk off size : Nat) (w : World) : CmpLays Try.prog 130 #[] encV 2 ordD blk off size w := by
  intro m os dk _ x y
  have hr : ∀ (O : Nat → Prop) (w : World), RepC O w [dA x, dA y] (fun j => (#[Value.agg (encV x).toArray, Value.agg (encV y).toArray] ++ (#[] : Array Value))[j]?) := fun O w => by
    simp only [RepC]
    exact ⟨⟨_, rfl, (AV.rep_val (dA x) rfl _).2 rfl⟩, ⟨_, rfl, (AV.rep_val (dA y) rfl _).2 rfl⟩, trivial⟩
  refine ((dorder_p (K := True) x y).calls (fun _ => False) _ _ (fun b hb => hb.elim) rfl (hr _ _)).mono ?_
  rintro e w' ⟨r, rfl, h2, h3⟩
  rw [rep_x] at h2
  subst h2
  obtain ⟨q, os', hw⟩ := exact_of h3
  exact ⟨rfl, q, os', hw⟩
theorem flt_of (x y : (Int × Int)) : ltOf ordD x y = ltD x y := ordD_lt x y
theorem swoF : SWO (ltOf ordD) where
  irrefl x := by rw [flt_of]; exact stoD.irrefl x
  trans x y z h1 h2 := by rw [flt_of] at *; exact stoD.trans x y z h1 h2
  ntrans x y z h1 h2 := by
    rw [flt_of] at *
    cases h : ltD x z with
    | false => rfl
    | true =>
      cases h3 : ltD y x with
      | true => have := stoD.trans y x z h3 h; rw [h2] at this; cases this
      | false =>
        have := stoD.total x y h1 h3
        subst this; rw [h2] at h; cases h
theorem sortf_c (blk off cap : Nat) (d : Array (Int × Int)) (w : World) (hH : HoldsK encV 2 w blk off d) (hblk : blk < w.heap.size) (hsz : d.size < 4611686018427387904) :
    Calls Try.prog 151 #[.slice (some ⟨blk, off, none⟩) d.size cap, .func (.func 130) #[] #[]] w fun e w' =>
      e = .returned (.tuple #[]) ∧ ∃ d' n os, PermIn 0 d.size d d' ∧ SortedIn (ltOf ordD) 0 d.size d' ∧ w' = sortWorldK encV 2 w blk off n d' os :=
  AnyQ.slices_SortFunc sortFact 2 agg_fact size_fact encV (fun _ => rfl) (fun x v hv => by simp [encV, encD] at hv; rcases hv with rfl | rfl <;> rfl) ordD swoF 130 #[] blk off cap d w fenters (fcmp_lays blk off d.size w) hH hblk hsz
end Go.Proofs.Ytmhkalalcmkpbaa.DotS

namespace Go.Proofs.Ytmhkalalcmkpbaa.DotS
open Go Go.Shelf Go.RowKit
open Go.Sort (HoldsK size_flatK get_flatK size_putRowK putRowK PermIn SortedIn flatK)
set_option linter.unusedVariables false
set_option linter.unusedSimpArgs false

theorem CmR.one {l : List (Int × Int)} {av : AV} {h' : List HObj} (h : CmR l av h') : ∃ p, h' = [p] := by
  obtain ⟨v, _, h2⟩ := h; exact ⟨_, h2⟩
theorem CmR.pq {l : List (Int × Int)} {av : AV} {p : HObj} (h : CmR l av [p]) : ∃ v', av = .x v' ∧ p = factRow v' l := by
  obtain ⟨v, h1, h2⟩ := h; exact ⟨v, h1, by simpa using h2⟩

set_option maxRecDepth 100000 in
theorem fclone_m {K : Prop} (l : List (Int × Int)) (hn : l.length < 1000000) : MFn Try.prog K 150 [slD l] [] (CmR l) := by
  refine mfn Try.func150 rfl (by kernel_rfl) 8 rfl _ rfl (Nat.le_of_ble_eq_true rfl) (fun X w0 => ?_)
  refine wSeq ?_
  refine wReg ?_
  refine sP rfl rfl rfl (pA rfl rfl) ?_
  refine lNil ?_
  refine wSeq ?_
  refine wSeq ?_
  refine wReg ?_
  refine sP rfl rfl rfl (pMs rfl rfl) ?_
  refine sSlNil rfl rfl rfl rfl rfl Try.underlying27 (fun b hbn => ?_)
  refine lNil ?_
  refine wCond rfl (fun hc1 => ?_) (fun hc1 => ?_)
  · refine wNilrow 23 2 ?_
    refine wSeq ?_
    refine wReg ?_
    refine sP rfl rfl rfl (pA rfl rfl) ?_
    refine lNil ?_
    refine wRet ?_
    have hl : l = [] := by
      have := hbn hc1
      exact List.eq_nil_of_length_eq_zero (by omega)
    subst hl
    exact ⟨_, [factRow (.slice none 0 0) []], [], rfl, ⟨_, rfl, rfl⟩, rgm_tmp (r := []) rfl Sub.refl⟩
  · refine wSkip ?_
    refine wSeq ?_
    refine wReg ?_
    refine sBuild0 rfl rfl rfl rfl ze23 Try.underlying27 ty23 (by decide) (fun v5 => ?_)
    refine sP rfl rfl rfl (pMs rfl rfl) ?_
    refine sAppendL (enc := encA) (l := []) 0 l rfl rfl rfl rfl Try.underlying27 ro23 rfl rfl rfl (fun _ => rfl) (by rw [List.length_nil]; omega) (by rw [List.length_nil]; omega) (fun v7 => ?_)
    refine sP rfl rfl rfl (pA rfl rfl) ?_
    refine lNil ?_
    refine wRet ?_
    exact ⟨_, [factRow v7 ([] ++ l)], [], rfl, ⟨v7, rfl, rfl⟩, rgm_tmp (r := []) rfl Sub.refl⟩

theorem flat_getG {α β : Type} {enc : α → List β} {k : Nat} (hk : ∀ x, (enc x).length = k) : ∀ (l : List α) (i j : Nat) (x : α), l[i]? = some x → j < k → (l.flatMap enc)[i * k + j]? = (enc x)[j]?
  | [], i, j, x, h, _ => by simp at h
  | y :: l, 0, j, x, h, hj => by
    obtain rfl : y = x := by simpa using h
    rw [List.flatMap_cons, Nat.zero_mul, Nat.zero_add, List.getElem?_append_left (by rw [hk]; exact hj)]
  | y :: l, i + 1, j, x, h, hj => by
    rw [List.flatMap_cons, List.getElem?_append_right (by rw [hk, Nat.add_mul, Nat.one_mul]; omega), hk, show (i + 1) * k + j - k = i * k + j by rw [Nat.add_mul, Nat.one_mul]; omega]
    exact flat_getG hk l i j x (by simpa using h) hj
theorem flat_lenG {α β : Type} {enc : α → List β} {k : Nat} (hk : ∀ x, (enc x).length = k) : ∀ l : List α, (l.flatMap enc).length = l.length * k
  | [] => by simp
  | x :: l => by rw [List.flatMap_cons, List.length_append, hk, flat_lenG hk l, List.length_cons, Nat.add_mul, Nat.one_mul, Nat.add_comm]
theorem encV8 (x : (Int × Int)) : (encV x).length = 2 := rfl
theorem flatV (d : Array (Int × Int)) (j : Nat) (h : j < d.size * 2) : (d.toList.flatMap encV)[j]? = some ((flatK encV 2 d)[j]!) := by
  have hi : j / 2 < d.toList.length := by rw [Array.length_toList]; omega
  have e := flat_getG encV8 d.toList (j / 2) (j % 2) _ (List.getElem?_eq_getElem hi) (Nat.mod_lt _ (by decide))
  rw [show j / 2 * 2 + j % 2 = j by omega] at e
  rw [e, get_flatK _ _ _ _ h]
  have hi2 : j / 2 < d.size := by simpa using hi
  have e2 : d[j / 2]! = d.toList[j / 2] := by simp [hi2]
  rw [e2]
  have hm : j % 2 < (encV d.toList[j / 2]).length := by rw [encV8]; exact Nat.mod_lt _ (by decide)
  rw [List.getElem?_eq_getElem hm]
  congr 1
  exact (getElem!_pos (encV d.toList[j / 2]) (j % 2) hm).symm
theorem vals_flat (l : List (Int × Int)) : AV.vals (l.flatMap encA) = l.flatMap encV ∧ AV.exL (l.flatMap encA) = true := by
  have app : ∀ a b : List AV, AV.vals (a ++ b) = AV.vals a ++ AV.vals b ∧ (AV.exL a = true → AV.exL b = true → AV.exL (a ++ b) = true) := by
    intro a b
    induction a with
    | nil => exact ⟨rfl, fun _ h => h⟩
    | cons c a ih =>
      refine ⟨by simp only [List.cons_append, AV.vals, ih.1], fun h1 h2 => ?_⟩
      simp only [AV.exL, Bool.and_eq_true] at h1
      simp only [List.cons_append, AV.exL, Bool.and_eq_true]
      exact ⟨h1.1, ih.2 h1.2 h2⟩
  induction l with
  | nil => exact ⟨rfl, rfl⟩
  | cons x l ih =>
    rw [List.flatMap_cons, List.flatMap_cons]
    exact ⟨by rw [(app _ _).1, ih.1]; rfl, (app _ _).2 rfl ih.2⟩
theorem vals_rep {O : Nat → Prop} {w : World} (l : List (Int × Int)) : RepC O w (l.flatMap encA) (fun j => (l.flatMap encV)[j]?) :=
  (AV.repC_vals_ (l.flatMap encA) (vals_flat l).2 _ (by rw [flat_lenG encV8, flat_lenG encF8])).2 (vals_flat l).1.symm

def SfR (l : List (Int × Int)) (v : Value) (av : AV) (h' : List HObj) : Prop := av = .tup [] ∧ ∃ s, s.Perm l ∧ s.Pairwise (fun a b => ltD b a = false) ∧ h' = [factRow v s]
theorem SfR.one {l : List (Int × Int)} {v : Value} {av : AV} {h' : List HObj} (h : SfR l v av h') : ∃ p, h' = [p] := by
  obtain ⟨_, s, _, _, h2⟩ := h; exact ⟨_, h2⟩
theorem SfR.pq {l : List (Int × Int)} {v : Value} {av : AV} {p : HObj} (h : SfR l v av [p]) : av = .tup [] ∧ ∃ s, s.Perm l ∧ s.Pairwise (fun a b => ltD b a = false) ∧ p = factRow v s := by
  obtain ⟨h1, s, h2, h3, h4⟩ := h; exact ⟨h1, s, h2, h3, by simpa using h4⟩
theorem sort_enter (args : Array Value) (w : World) : (callFunc 151 args).run Try.prog w = .ok (.enter 151 args) w := enter_of Try.func151 (by kernel_rfl) rfl args w
theorem fsortf_m (v : Value) (l : List (Int × Int)) (hn : l.length < 1000000) : MFn Try.prog False 151 [.x v, .x (.func (.func 130) #[] #[])] [factRow v l] (SfR l v) := by
  refine ⟨sort_enter, fun O w args env hl hr => ?_⟩
  have hargs : args = #[v, .func (.func 130) #[] #[]] := by
    apply Array.ext'
    have := (AV.repC_vals_ (O := owned O [factRow v l]) (w := w) [.x v, .x (.func (.func 130) #[] #[])] rfl args.toList (by simpa using hl)).1 (by
      have e : (fun j => args.toList[j]?) = (fun j => args[j]?) := funext fun j => Array.getElem?_toList
      rw [e]; exact hr)
    rw [this]; rfl
  subst hargs
  obtain ⟨vs, hown, hvl, hvr⟩ := env.objs (factRow v l) (by simp)
  have hvs : vs = l.flatMap encV := by
    rw [← (vals_flat l).1]
    exact (AV.repC_vals_ (l.flatMap encA) (vals_flat l).2 vs hvl).1 hvr
  subst hvs
  by_cases h0 : l.length = 0
  · have hl0 : l = [] := List.eq_nil_of_length_eq_zero h0
    subst hl0
    have hv : ∃ p cap, v = .slice p 0 cap := by
      rcases hown.2 with ⟨rfl, _⟩ | ⟨g, cap, cur, rfl, _⟩
      · exact ⟨_, _, rfl⟩
      · exact ⟨_, _, rfl⟩
    obtain ⟨p, cap, rfl⟩ := hv
    refine (AnyF.slices_SortFunc_none sortFact p cap _ w).mono ?_
    rintro e w' ⟨rfl, rfl⟩
    exact ⟨_, _, _, rfl, ⟨rfl, [], .refl _, .nil, rfl⟩, env, by simp only [Rep]; exact ⟨_, rfl, rfl, by simp [RepC]⟩⟩
  · rcases hown.2 with ⟨rfl, h1⟩ | ⟨g, cap, cur, rfl, hb, hh, hnc, hcm, hsz, htk⟩
    · exact absurd h1 h0
    have hd : l.toArray.size = l.length := by simp
    have hH : HoldsK encV 2 w g 0 l.toArray := by
      intro j hj
      rw [size_flatK, hd] at hj
      have h1 : w.cell? ⟨g, 0 + j, none⟩ = some ((flatK encV 2 l.toArray)[j]!) := by
        have := hown.cells (g := g) rfl j _ (flatV l.toArray j (by rw [hd]; exact hj))
        rw [add_plain] at this
        exact this
      exact ⟨h1, by simp [World.frozen?, hh]⟩
    have hlt := (Array.getElem?_eq_some_iff.1 hh).1
    have h := sortf_c g 0 cap l.toArray w hH hlt (by rw [hd]; omega)
    rw [hd] at h
    refine h.mono ?_
    rintro e w' ⟨rfl, d', q, os, hp, hs, hw⟩
    have hds : d'.size = l.length := by have := hp.1; rw [hd] at this; exact this
    have hperm : d'.toList.Perm l := by
      have h3 := hp.2.2
      rw [← hds] at h3
      have e1 : d'.extract 0 d'.size = d' := by simp
      have e2 : l.toArray.extract 0 d'.size = l.toArray := by rw [hds, ← hd]; simp
      rw [e1, e2] at h3
      simpa using h3
    have hpw : d'.toList.Pairwise (fun a b => ltD b a = false) := by
      rw [List.pairwise_iff_getElem]
      intro i j hi hj hij
      have h3 := hs i j (Nat.zero_le _) hij (by simp at hj; omega)
      rw [flt_of] at h3
      have hi' : i < d'.size := by simpa using hi
      have hj' : j < d'.size := by simpa using hj
      simpa [hi', hj'] using h3
    have hgr : w.grownBy w' (some g) := by
      rw [hw]
      refine ⟨rfl, rfl, rfl, ?_, fun k hk hne => ?_⟩
      · show w.heap.size ≤ (Sort.grow _ os).heap.size
        rw [Sort.size_grow, size_putRowK]
        show w.heap.size ≤ w.heap.size + _
        omega
      · show (Sort.grow _ os).heap[k]? = _
        rw [Sort.heap_grow_old _ _ (by rw [size_putRowK]; exact hk)]
        show (w.heap.modify g _)[k]? = _
        rw [Array.getElem?_modify, if_neg (by rintro rfl; exact hne rfl)]
    have hheap : w'.heap[g]? = some (.cells (Sort.putCells id 0 (flatK encV 2 d') cur) 23 (0, 0)) := by
      rw [hw]
      show (Sort.grow _ os).heap[g]? = _
      rw [Sort.heap_grow_old _ _ (by rw [size_putRowK]; exact hlt)]
      simp [putRowK, Sort.putRow, Sort.mapBlock, Sort.ahead, Array.getElem?_modify, hh, Sort.onCells]
    have hlen2 : d'.toList.length = l.length := by rw [Array.length_toList, hds]
    have hown' : w'.ownsRow 0 23 2 (.slice (some ⟨g, 0, none⟩) l.length cap) l.length (d'.toList.flatMap encV) := by
      refine ⟨by rw [flat_lenG encV8, hlen2], .inr ⟨g, cap, _, rfl, Nat.zero_le _, hheap, hnc, hcm, by simpa [Sort.putCells] using hsz, ?_⟩⟩
      apply List.ext_getElem?
      intro j
      rw [List.getElem?_take, Array.getElem?_toList]
      by_cases hj : j < l.length * 2
      · have hjc : j < cur.size := by rw [hsz]; have := Nat.mul_le_mul_right 2 hnc; omega
        rw [if_pos hj, flatV d' j (by rw [hds]; exact hj)]
        simp only [Sort.putCells, Array.getElem?_mapIdx, Array.getElem?_eq_getElem hjc, Option.map_some]
        rw [if_pos (by rw [size_flatK, hds]; omega)]
        simp
      · rw [if_neg hj, List.getElem?_eq_none (by rw [flat_lenG encV8, hlen2]; omega)]
    have e5 : factRow (.slice (some ⟨g, 0, none⟩) l.length cap) d'.toList = .row (.slice (some ⟨g, 0, none⟩) l.length cap) 23 2 l.length (d'.toList.flatMap encA) := by rw [factRow, hlen2]
    refine ⟨_, _, [factRow (.slice (some ⟨g, 0, none⟩) l.length cap) d'.toList], rfl, ⟨rfl, _, hperm, hpw, rfl⟩, ?_, by simp only [Rep]; exact ⟨_, rfl, rfl, by simp [RepC]⟩⟩
    have := Env.set_ (q := factRow (.slice (some ⟨g, 0, none⟩) l.length cap) d'.toList) env (i := 0) rfl hgr (fun h => h.elim) (by rw [e5]; exact ⟨_, hown', by rw [flat_lenG encV8, flat_lenG encF8], vals_rep _⟩) (fun c hc => .inl hc) (fun c hc => by
      obtain rfl : g = c := by simpa [factRow, HObj.blk, Value.ownBlock] using hc
      exact Nat.lt_of_lt_of_le hlt hgr.size)
    exact this

set_option maxRecDepth 100000 in
theorem fsort_p (l : List (Int × Int)) (hn : l.length < 1000000) : PFn Try.prog False 117 [slD l] (slD (sortK ltD l)) := by
  refine pfn Try.func117 rfl (by kernel_rfl) 10 rfl _ rfl (Nat.le_of_ble_eq_true rfl) (fun X w0 => ?_)
  refine wSeq ?_
  refine wReg ?_
  refine sP rfl rfl rfl (pA rfl rfl) ?_
  refine lNil ?_
  refine wSeq ?_
  refine wReg ?_
  refine sP rfl rfl rfl (pMs rfl rfl) ?_
  refine sM0 rfl rfl rfl rfl (fclone_m l hn) ⟨Sub.refl, trivial⟩ (fun _ _ h => h.one) (fun av q hr => ?_)
  obtain ⟨v, rfl, rfl⟩ := hr.pq
  refine sP rfl rfl rfl (pA rfl rfl) ?_
  refine lNil ?_
  refine wSeq ?_
  refine wReg ?_
  refine sP rfl rfl rfl (pM rfl rfl) ?_
  refine sM1 0 rfl rfl rfl (fsortf_m v l hn) ⟨Sub.refl, Sub.refl, trivial⟩ (fun _ _ h => h.one) (fun av q hr => ?_)
  obtain ⟨rfl, s, hperm, hpw, rfl⟩ := hr.pq
  refine lNil ?_
  refine wSeq ?_
  refine wReg ?_
  refine sP rfl rfl rfl (pM rfl rfl) ?_
  refine sM1 0 rfl rfl rfl (fcomp_m v s (by rw [hperm.length_eq]; exact hn)) ⟨Sub.refl, trivial⟩ (fun _ _ h => h.one) (fun av q hr => ?_)
  obtain ⟨v2, rfl, rfl⟩ := hr.pq
  refine sP rfl rfl rfl (pA rfl rfl) ?_
  refine lNil ?_
  refine wRet ?_
  rw [compact_sortK stoD l s hperm hpw]
  exact rgs1 (rg_tmp (gives_row (List.mem_of_getElem? (i := 0) rfl)))
end Go.Proofs.Ytmhkalalcmkpbaa.DotS
namespace Go.Proofs.Ytmhkalalcmkpbaa
open Go Go.RowKit
theorem dsort_p (l : List (Int × Int)) (hn : l.length < 1000000) : PFn Try.prog False 117 [slD l] (slD (sortK ltD l)) := DotS.fsort_p l hn
end Go.Proofs.Ytmhkalalcmkpbaa

namespace Go.Proofs.Ytmhkalalcmkpbaa
open Go
theorem ty184 : tyOf Try.prog 184 = some (false, 1) := by kernel_rfl
theorem ze184 : tyZero Try.prog 184 = some [.slice none 0 0] := by kernel_rfl
theorem ro184 : rowOf Try.prog 184 = some (1, 24) := by kernel_rfl
end Go.Proofs.Ytmhkalalcmkpbaa

namespace Go.Proofs.Ytmhkalalcmkpbaa
open Go Go.Shelf Go.RowKit Go.Lib
set_option linter.unusedVariables false
set_option linter.unusedSimpArgs false

def growDot_ren : Go.Shelf.Ren := ⟨fun | 4 => 136 | n => n, fun | 22 => 27 | 25 => 23 | 3 => 3 | 4 => 4 | 9 => 9 | 20 => 20 | 0 => 0 | 2 => 3 | n => n, fun | n => n⟩
theorem growDot : Go.Proofs.Lays8.n4 Try.prog growDot_ren := {
  mixed := by kernel_rfl
  f4 := ⟨Try.f136.name, by decide, Try.func136.trans (congrArg some (by kernel_rfl))⟩
  t0 := Try.underlying0
  a0 := Try.isAgg0
  z0 := Try.sizeOf0
  v0 := Try.zeroValue0
  t3 := Try.underlying3
  a3 := Try.isAgg3
  z3 := Try.sizeOf3
  v3 := Try.zeroValue3
  t4 := Try.underlying4
  a4 := Try.isAgg4
  z4 := Try.sizeOf4
  v4 := Try.zeroValue4
  t9 := Try.underlying9
  a9 := Try.isAgg9
  z9 := Try.sizeOf9
  v9 := Try.zeroValue9
  t20 := Try.underlying20
  a20 := Try.isAgg20
  z20 := Try.sizeOf20
  v20 := Try.zeroValue20
  t22 := Try.underlying27
  a22 := Try.isAgg27
  z22 := Try.sizeOf27
  v22 := Try.zeroValue27 }

set_option maxRecDepth 100000 in
theorem dgrow_m (n : Nat) (hn : n < 1000000000) : MFn Try.prog False 136 [.x (.slice none 0 0), iA n] [] (DotS.CmR []) := by
  refine ⟨enter_of Try.func136 (by kernel_rfl) rfl, fun O w args env hl hr => ?_⟩
  have hargs : args = #[.slice none 0 0, .int .i64 n] := by
    apply Array.ext'
    have := (AV.repC_vals_ (O := owned O []) (w := w) [.x (.slice none 0 0), iA n] rfl args.toList (by simpa using hl)).1 (by
      have e : (fun j => args.toList[j]?) = (fun j => args[j]?) := funext fun j => Array.getElem?_toList
      rw [e]; exact hr)
    rw [this]; rfl
  subst hargs
  rcases Nat.eq_zero_or_pos n with h0 | h0
  · subst h0
    refine (Any8.slices_Grow_room growDot none 0 0 0 w (Nat.le_refl _) (by omega) (by omega) (by omega)).mono ?_
    rintro e w' ⟨rfl, rfl⟩
    have hp := env.push (p := DotS.factRow (.slice none 0 0) []) (Bl.refl _ _) ⟨[], World.ownsRow_nil _ _ _ _, rfl, by simp [RepC]⟩ (fun b hb => by cases hb)
    exact ⟨_, _, _, rfl, ⟨_, rfl, rfl⟩, hp, rep_x.2 rfl⟩
  · obtain ⟨ti, hti⟩ := Option.isSome_iff_exists.1 (show (Try.prog.info? 23).isSome = true by kernel_rfl)
    have hsz : ti.size = 2 := by
      have : (Try.prog.info? 23).map (·.size) = some 2 := by kernel_rfl
      rw [hti] at this; simpa using this
    have hby : ti.bytes = 16 := by
      have : (Try.prog.info? 23).map (·.bytes) = some 16 := by kernel_rfl
      rw [hti] at this; simpa using this
    have hz : ti.zero = some (.agg #[.int .i64 0, .int .i64 0]) := by
      have : (Try.prog.info? 23).map (·.zero) = some (some (.agg #[.int .i64 0, .int .i64 0])) := by kernel_rfl
      rw [hti] at this; simpa using this
    refine (Any8.slices_Grow_grow growDot ti _ hti hz (by omega) none 0 0 n [] w (Nat.le_refl _) (by omega) (by rw [hby]; omega) (by omega) (by simp) (fun _ => rfl) (fun a ha => by cases ha)).mono ?_
    rintro e w' ⟨rfl, hw⟩
    generalize hcap : grownCap w (0 + n) 0 (growDot_ren.t 25) = cap at hw ⊢
    have hge : 0 + n ≤ cap := by rw [← hcap]; exact grownCap_ge _ _ _ _
    have hle : cap ≤ maxLen := by rw [← hcap]; exact grownCap_le_maxLen _ _ _ _ (by simp only [maxLen]; omega)
    generalize hcs : (([] : List Value).toArray ++ Builtin.zeroCells (Value.agg #[.int .i64 0, .int .i64 0]).cells (0 + n - 0) ++ Builtin.zeroCells (Value.agg #[.int .i64 0, .int .i64 0]).cells (cap - (0 + n))) = cs at hw
    have hcl : cs.size = cap * 2 := by
      rw [← hcs, Array.size_append, Array.size_append, size_zeroCells, size_zeroCells]
      show 0 + (0 + n - 0) * 2 + (cap - (0 + n)) * 2 = cap * 2
      omega
    have hb : Bl False w w' := by
      rw [hw]
      exact bl_weak ((below_drewN (Below.refl _ w) 1).alloc (Nat.le_refl _) _)
    have hheap : w'.heap[w.heap.size]? = some (.cells cs 23 (0, 0)) := by
      rw [hw]; exact heap_alloc_new w.drew _
    have hown : w'.ownsRow 0 23 2 (.slice (some ⟨w.heap.size, 0, none⟩) 0 cap) 0 [] := ⟨rfl, .inr ⟨w.heap.size, cap, cs, rfl, Nat.zero_le _, hheap, Nat.zero_le _, hle, hcl, by simp⟩⟩
    have hp := env.push (p := DotS.factRow (.slice (some ⟨w.heap.size, 0, none⟩) 0 cap) []) hb ⟨[], hown, rfl, by simp [RepC]⟩ (fun b hb' => by
      obtain rfl : w.heap.size = b := by simpa [DotS.factRow, HObj.blk, Value.ownBlock] using hb'
      exact ⟨Nat.le_refl _, (Array.getElem?_eq_some_iff.1 hheap).1⟩)
    exact ⟨_, _, _, rfl, ⟨_, rfl, rfl⟩, hp, rep_x.2 rfl⟩

def encS (l : List (Int × Int)) : List AV := [slD l]
def sumL (ls : List (List (Int × Int))) : Nat := (ls.map List.length).sum
theorem sumL_take {ls : List (List (Int × Int))} {i : Nat} {d : List (Int × Int)} (h : ls[i]? = some d) : sumL (ls.take (i + 1)) = sumL (ls.take i) + d.length := by
  obtain ⟨hi, rfl⟩ := List.getElem?_eq_some_iff.1 h
  unfold sumL
  rw [← List.take_append_getElem hi, List.map_append, List.sum_append]; simp
theorem sumL_le {ls : List (List (Int × Int))} (h : ∀ l ∈ ls, l.length < 1000000) : sumL ls ≤ ls.length * 1000000 := by
  induction ls with
  | nil => exact Nat.zero_le _
  | cons d ls ih =>
    have h1 := h d (by simp)
    have h2 := ih fun l hl => h l (by simp [hl])
    unfold sumL at h2 ⊢
    rw [List.map_cons, List.sum_cons, List.length_cons]
    omega
theorem cflat_take {ls : List (List (Int × Int))} {i : Nat} {d : List (Int × Int)} (h : ls[i]? = some d) : (ls.take (i + 1)).flatten = (ls.take i).flatten ++ d := by
  obtain ⟨hi, rfl⟩ := List.getElem?_eq_some_iff.1 h
  rw [← List.take_append_getElem hi, List.flatten_append]; simp
theorem flat_len_sum (ls : List (List (Int × Int))) : ls.flatten.length = sumL ls := List.length_flatten

set_option maxRecDepth 100000 in
theorem dconcat_p (ls : List (List (Int × Int))) (hn : ls.length < 100) (hl : ∀ l ∈ ls, l.length < 1000000) : PFn Try.prog False 98 [.sl 1 ls.length (ls.flatMap encS)] (slD ls.flatten) := by
  refine pfn Try.func98 rfl (by kernel_rfl) 36 rfl _ rfl (Nat.le_of_ble_eq_true rfl) (fun X w0 => ?_)
  refine wSeq ?_
  refine wReg ?_
  refine sP rfl rfl rfl (pA rfl rfl) ?_
  refine lNil ?_
  refine wSeq ?_
  refine wReg ?_
  refine sP rfl rfl rfl (pA rfl rfl) ?_
  refine lNil ?_
  refine wSeq ?_
  refine wSeq ?_
  refine wReg ?_
  refine sP rfl rfl rfl (pMs rfl rfl) ?_
  refine sP rfl rfl rfl (p_len_sl rfl rfl Try.underlying184) ?_
  refine sP rfl rfl rfl (pM rfl rfl) ?_
  refine lNil ?_
  refine wBlock ?_
  refine wLoop (fun mm L h => ∃ i s, mm = ls.length - i ∧ i ≤ ls.length ∧ s = sumL (ls.take i) ∧ L = [(0, .sl 1 ls.length (ls.flatMap encS)), (3, iA (s : Nat)), (9, .sl 1 ls.length (ls.flatMap encS)), (10, iA ls.length), (11, iA (i : Nat))] ∧ h = []) ⟨_, _, _, _, ⟨0, 0, rfl, Nat.zero_le _, rfl, rfl, rfl⟩, ⟨rfl, rfl, rfl, rfl, rfl, trivial⟩, rfl⟩ ?_
  rintro mm L h ⟨i, s, rfl, hi, hs, rfl, rfl⟩
  have hsb : s ≤ 100000000 := by
    rw [hs]
    have h1 := sumL_le (ls := ls.take i) fun l h => hl l (List.mem_of_mem_take h)
    rw [List.length_take] at h1
    omega
  refine wSeq ?_
  refine wReg ?_
  refine sP rfl rfl rfl (p_icmp rfl rfl rfl rfl) ?_
  refine lNil ?_
  refine wSeq ?_
  refine wCond rfl (fun hc1 => ?_) (fun hc1 => ?_)
  · have hlt : i < ls.length := by simpa using hc1
    obtain ⟨d, hd⟩ := getL hlt
    have hdl := hl d (List.mem_of_getElem? hd)
    refine wSkip ?_
    refine wSeq ?_
    refine wBlock ?_
    refine wSeq ?_
    refine wReg ?_
    refine sP rfl rfl rfl (pIdx (enc := encS) (l := ls) i rfl rfl Try.underlying184 ty27 (by decide) rfl (fun _ => rfl) rfl rfl hd) ?_
    refine sP rfl rfl rfl (pLd1 rfl rfl ty27) ?_
    refine sP rfl rfl rfl (pAs rfl rfl) ?_
    refine lNil ?_
    refine wSeq ?_
    refine wReg ?_
    refine sP rfl rfl rfl (pM rfl rfl) ?_
    refine sP rfl rfl rfl (pMs rfl rfl) ?_
    refine sP rfl rfl rfl (p_len_sl rfl rfl Try.underlying27) ?_
    refine sP rfl rfl rfl (p_iar rfl rfl rfl (by show some _ = some _; rw [wrapI (by omega) (by omega)])) ?_
    refine sP rfl rfl rfl (pA rfl rfl) ?_
    refine lNil ?_
    refine wSeq ?_
    refine wReg ?_
    refine sP rfl rfl rfl (pM rfl rfl) ?_
    refine sP rfl rfl rfl (p_icmp rfl rfl rfl rfl) ?_
    refine lNil ?_
    refine wCond rfl (fun hc2 => ?_) (fun hc2 => ?_)
    · exact absurd hc2 (by simp; omega)
    · refine wSkip ?_
      refine wReg ?_
      refine sP rfl rfl rfl (p_iar rfl rfl rfl rfl) ?_
      refine sP rfl rfl rfl (pM rfl rfl) ?_
      refine lNil ?_
      refine ⟨_, _, [], [], ?_, ⟨i + 1, s + d.length, rfl, hlt, ?_, rfl, rfl⟩, ⟨rfl, avI (by rw [Int.natCast_add]), rfl, rfl, avI (wrapI (by omega) (by omega)), trivial⟩, rfl⟩
      · omega
      · rw [hs, sumL_take hd]
  · have hge : i = ls.length := by
      have h : ¬ i < ls.length := by simpa using hc1
      omega
    subst hge
    refine wExit ?_
    refine wSeq ?_
    refine wReg ?_
    refine sP rfl rfl rfl (pM rfl rfl) ?_
    refine sM0 rfl rfl rfl rfl (dgrow_m s (by omega)) ⟨Sub.refl, Sub.refl, trivial⟩ (fun _ _ h => h.one) (fun av q hr => ?_)
    obtain ⟨v, rfl, rfl⟩ := hr.pq
    refine sP rfl rfl rfl (pA rfl rfl) ?_
    refine lNil ?_
    refine wSeq ?_
    refine wSeq ?_
    refine wReg ?_
    refine sP rfl rfl rfl (pMs rfl rfl) ?_
    refine sP rfl rfl rfl (p_len_sl rfl rfl Try.underlying184) ?_
    refine sP rfl rfl rfl (pM rfl rfl) ?_
    refine lNil ?_
    refine wBlock ?_
    refine wLoop (fun mm L h => ∃ i v, mm = ls.length - i ∧ i ≤ ls.length ∧ L = [(6, .x v), (25, .sl 1 ls.length (ls.flatMap encS)), (26, iA ls.length), (27, iA (i : Nat))] ∧ h = [DotS.factRow v (ls.take i).flatten]) ⟨_, _, _, _, ⟨0, _, rfl, Nat.zero_le _, rfl, rfl⟩, ⟨rfl, rfl, rfl, rfl, trivial⟩, rfl⟩ ?_
    rintro mm L h ⟨i, v, rfl, hi, rfl, rfl⟩
    have hsb : sumL (ls.take i) ≤ 100000000 := by
      have h1 := sumL_le (ls := ls.take i) fun l h => hl l (List.mem_of_mem_take h)
      rw [List.length_take] at h1
      omega
    refine wSeq ?_
    refine wReg ?_
    refine sP rfl rfl rfl (p_icmp rfl rfl rfl rfl) ?_
    refine lNil ?_
    refine wSeq ?_
    refine wCond rfl (fun hc3 => ?_) (fun hc3 => ?_)
    · have hlt : i < ls.length := by simpa using hc3
      obtain ⟨d, hd⟩ := getL hlt
      have hdl := hl d (List.mem_of_getElem? hd)
      refine wSkip ?_
      refine wSeq ?_
      refine wBlock ?_
      refine wSeq ?_
      refine wReg ?_
      refine sP rfl rfl rfl (pIdx (enc := encS) (l := ls) i rfl rfl Try.underlying184 ty27 (by decide) rfl (fun _ => rfl) rfl rfl hd) ?_
      refine sP rfl rfl rfl (pLd1 rfl rfl ty27) ?_
      refine sP rfl rfl rfl (pAs rfl rfl) ?_
      refine lNil ?_
      refine wReg ?_
      refine sP rfl rfl rfl (pM rfl rfl) ?_
      refine sP rfl rfl rfl (pMs rfl rfl) ?_
      refine sAppendL (enc := encA) (l := (ls.take i).flatten) 0 d rfl rfl rfl rfl Try.underlying27 ro23 rfl rfl rfl (fun _ => rfl) (by rw [flat_len_sum]; omega) (by rw [flat_len_sum]; omega) (fun v33 => ?_)
      refine sP rfl rfl rfl (pA rfl rfl) ?_
      refine lNil ?_
      refine wReg ?_
      refine sP rfl rfl rfl (p_iar rfl rfl rfl rfl) ?_
      refine sP rfl rfl rfl (pM rfl rfl) ?_
      refine lNil ?_
      refine ⟨_, _, [DotS.factRow v33 (ls.take (i + 1)).flatten], [], ?_, ⟨i + 1, v33, rfl, hlt, rfl, rfl⟩, ⟨rfl, rfl, rfl, avI (wrapI (by omega) (by omega)), trivial⟩, ?_⟩
      · omega
      · rw [cflat_take hd]; rfl
    · have hge : i = ls.length := by
        have h : ¬ i < ls.length := by simpa using hc3
        omega
      subst hge
      rw [List.take_length]
      refine wExit ?_
      refine wSeq ?_
      refine wReg ?_
      refine sP rfl rfl rfl (pM rfl rfl) ?_
      refine sP rfl rfl rfl (pA rfl rfl) ?_
      refine lNil ?_
      refine wRet ?_
      exact rgs1 (rg_tmp (gives_row (List.mem_of_getElem? (i := 0) rfl)))
set_option maxRecDepth 100000 in
theorem dequal_p (a b : List (Int × Int)) (ha : a.length < 1000000) (hb : b.length < 1000000) : PFn Try.prog False 153 [slD a, slD b] (bA (decide (a = b))) := by
  refine pfn Try.func153 rfl (by kernel_rfl) 26 rfl _ rfl (Nat.le_of_ble_eq_true rfl) (fun X w0 => ?_)
  refine wSeq ?_
  refine wReg ?_
  refine sP rfl rfl rfl (pA rfl rfl) ?_
  refine lNil ?_
  refine wSeq ?_
  refine wSeq ?_
  refine wReg ?_
  refine sP rfl rfl rfl (pMs rfl rfl) ?_
  refine sP rfl rfl rfl (p_len_sl rfl rfl Try.underlying27) ?_
  refine sP rfl rfl rfl (pMs rfl rfl) ?_
  refine sP rfl rfl rfl (p_len_sl rfl rfl Try.underlying27) ?_
  refine sP rfl rfl rfl (p_icmp rfl rfl rfl rfl) ?_
  refine lNil ?_
  refine wCond rfl (fun hc1 => ?_) (fun hc1 => ?_)
  · refine wSeq ?_
    refine wReg ?_
    refine sP rfl rfl rfl (pA rfl rfl) ?_
    refine lNil ?_
    refine wRet ?_
    have hne : a.length ≠ b.length := by have h := hc1; simp at h; omega
    exact rgs1 (rg_tmp (gives_sub (Sub.of_eq (avB (decide_eq_false fun e => hne (by rw [e])).symm))))
  · have hab : a.length = b.length := by have h := hc1; simp at h; omega
    refine wSkip ?_
    refine wSeq ?_
    refine wSeq ?_
    refine wReg ?_
    refine sP rfl rfl rfl (pMs rfl rfl) ?_
    refine sP rfl rfl rfl (p_len_sl rfl rfl Try.underlying27) ?_
    refine sP rfl rfl rfl (pM rfl rfl) ?_
    refine lNil ?_
    refine wBlock ?_
    refine wLoop (fun mm L h => ∃ i, mm = a.length - i ∧ i ≤ a.length ∧ (∀ j, j < i → a[j]? = b[j]?) ∧ L = [(0, slD a), (1, slD b), (12, iA a.length), (13, iA (i : Nat))] ∧ h = []) ⟨_, _, _, _, ⟨0, rfl, Nat.zero_le _, fun j hj => absurd hj (by omega), rfl, rfl⟩, ⟨rfl, rfl, rfl, rfl, trivial⟩, rfl⟩ ?_
    rintro mm L h ⟨i, rfl, hi, h0, rfl, rfl⟩
    refine wSeq ?_
    refine wReg ?_
    refine sP rfl rfl rfl (p_icmp rfl rfl rfl rfl) ?_
    refine lNil ?_
    refine wSeq ?_
    refine wCond rfl (fun hc2 => ?_) (fun hc2 => ?_)
    · have hlt : i < a.length := by simpa using hc2
      obtain ⟨x, hx⟩ := getL hlt
      obtain ⟨y, hy⟩ := getL (l := b) (i := i) (by omega)
      refine wSkip ?_
      refine wSeq ?_
      refine wBlock ?_
      refine wSeq ?_
      refine wReg ?_
      refine sP rfl rfl rfl (pM rfl rfl) ?_
      refine sP rfl rfl rfl (pA rfl rfl) ?_
      refine lNil ?_
      refine wSeq ?_
      refine wDraw 9 (by kernel_rfl) (by kernel_rfl) ?_
      refine sP rfl rfl rfl (pMs rfl rfl) ?_
      refine sP rfl rfl rfl (pM rfl rfl) ?_
      refine sP rfl rfl rfl (pIdx i rfl rfl Try.underlying27 ty23 (by decide) rfl (fun _ => rfl) rfl rfl hx) ?_
      refine sP rfl rfl rfl (pLdE rfl rfl ty23 rfl) ?_
      refine sP rfl rfl rfl (pMs rfl rfl) ?_
      refine sP rfl rfl rfl (pM rfl rfl) ?_
      refine sP rfl rfl rfl (pIdx i rfl rfl Try.underlying27 ty23 (by decide) rfl (fun _ => rfl) rfl rfl hy) ?_
      refine sP rfl rfl rfl (pLdE rfl rfl ty23 rfl) ?_
      refine sP rfl rfl rfl (p_nes rfl rfl rfl rfl rfl guardD (fun w => eqD 9998 w x y)) ?_
      refine lTail ?_
      refine lNil ?_
      refine wCond rfl (fun hc3 => ?_) (fun hc3 => ?_)
      · refine wSeq ?_
        refine wReg ?_
        refine sP rfl rfl rfl (pA rfl rfl) ?_
        refine lNil ?_
        refine wRet ?_
        have hne : x ≠ y := by simpa using hc3
        exact rgs1 (rg_tmp (gives_sub (Sub.of_eq (avB (decide_eq_false fun e => hne (by rw [e, hy] at hx; injection hx with hx; exact hx.symm)).symm))))
      · refine wSkip ?_
        refine wReg ?_
        refine sP rfl rfl rfl (p_iar rfl rfl rfl rfl) ?_
        refine sP rfl rfl rfl (pM rfl rfl) ?_
        refine lNil ?_
        have he : x = y := by simpa using hc3
        refine ⟨_, _, [], [], ?_, ⟨i + 1, rfl, hlt, fun j hj => ?_, rfl, rfl⟩, ⟨rfl, rfl, rfl, avI (wrapI (by omega) (by omega)), trivial⟩, rfl⟩
        · omega
        · rcases Nat.lt_or_ge j i with h | h
          · exact h0 j h
          · obtain rfl : j = i := by omega
            rw [hx, hy, he]
    · have hge : i = a.length := by
        have h : ¬ i < a.length := by simpa using hc2
        omega
      subst hge
      refine wExit ?_
      refine wSeq ?_
      refine wReg ?_
      refine sP rfl rfl rfl (pA rfl rfl) ?_
      refine lNil ?_
      refine wRet ?_
      have he : a = b := List.ext_getElem? fun j => by
        rcases Nat.lt_or_ge j a.length with g | g
        · exact h0 j g
        · rw [List.getElem?_eq_none g, List.getElem?_eq_none (by omega)]
      exact rgs1 (rg_tmp (gives_sub (Sub.of_eq (avB (decide_eq_true he).symm))))
end Go.Proofs.Ytmhkalalcmkpbaa

namespace Go.Proofs.Ytmhkalalcmkpbaa
open Go Go.RowKit
set_option linter.unusedVariables false
set_option linter.unusedSimpArgs false

def encCt (c : CtxT) : List AV := iL c.1 ++ [slD c.2]
abbrev ctA (c : CtxT) : AV := .agg (encCt c)
theorem v16 {v : List Int} (h : v.length = 16) : ∃ a0 a1 a2 a3 a4 a5 a6 a7 a8 a9 a10 a11 a12 a13 a14 a15 : Int, v = [a0, a1, a2, a3, a4, a5, a6, a7, a8, a9, a10, a11, a12, a13, a14, a15] := by
  match v, h with
  | [a0, a1, a2, a3, a4, a5, a6, a7, a8, a9, a10, a11, a12, a13, a14, a15], _ => exact ⟨a0, a1, a2, a3, a4, a5, a6, a7, a8, a9, a10, a11, a12, a13, a14, a15, rfl⟩
theorem ctx_len {v : List Int} {a : AV} (h : v.length = 16) : (iL v ++ [a]).length = 17 := by rw [List.length_append, iL_len h]; rfl
theorem ctx_le {v : List Int} {a : AV} (h : v.length = 16) : 0 + 0 + 16 ≤ (iL v ++ [a]).length := by rw [ctx_len h]; omega
theorem ctx_V {v : List Int} {a : AV} (h : v.length = 16) : ((iL v ++ [a]).drop 0).take 16 = iL v := by obtain ⟨a0, a1, a2, a3, a4, a5, a6, a7, a8, a9, a10, a11, a12, a13, a14, a15, rfl⟩ := v16 h; rfl
theorem ctx_C {v : List Int} {a : AV} (h : v.length = 16) : (iL v ++ [a])[16]? = some a := by obtain ⟨a0, a1, a2, a3, a4, a5, a6, a7, a8, a9, a10, a11, a12, a13, a14, a15, rfl⟩ := v16 h; rfl
theorem ctx_at {v : List Int} {a : AV} {i : Nat} {x : Int} (h : v[i]? = some x) : (iL v ++ [a])[0 + i * 1]? = some (iA x) := by
  have hl : 0 + i * 1 < (iL v).length := by rw [List.length_map]; have := (List.getElem?_eq_some_iff.1 h).1; omega
  rw [List.getElem?_append_left hl]; exact iL_at0 h
theorem ctx_set {v : List Int} {a : AV} {i : Nat} {x : Int} (h : i < v.length) : (iL v ++ [a]).set (0 + i * 1) (iA x) = iL (v.set i x) ++ [a] := by
  rw [List.set_append_left _ _ (by rw [List.length_map]; omega), iL_set]
theorem ctx_setC {v : List Int} {a b : AV} (h : v.length = 16) : (iL v ++ [a]).set 16 b = iL v ++ [b] := by obtain ⟨a0, a1, a2, a3, a4, a5, a6, a7, a8, a9, a10, a11, a12, a13, a14, a15, rfl⟩ := v16 h; rfl
theorem ctx_ones {v : List Int} {k n : Nat} {cs : List AV} (h : v.length = 16) : AV.ones (iL v ++ [.sl k n cs]) = true := by obtain ⟨a0, a1, a2, a3, a4, a5, a6, a7, a8, a9, a10, a11, a12, a13, a14, a15, rfl⟩ := v16 h; rfl
theorem ctx_fill {v : List Int} {k n : Nat} {cs : List AV} (h : v.length = 16) : fillA (([(0, 16), (16, 1)] : List (Nat × Nat))[·]?) (([.int .i64 0, .int .i64 0, .int .i64 0, .int .i64 0, .int .i64 0, .int .i64 0, .int .i64 0, .int .i64 0, .int .i64 0, .int .i64 0, .int .i64 0, .int .i64 0, .int .i64 0, .int .i64 0, .int .i64 0, .int .i64 0, .slice none 0 0] : List Value).map .x) [(0, .agg (iL v)), (1, .sl k n cs)] = some (iL v ++ [.sl k n cs]) := by obtain ⟨a0, a1, a2, a3, a4, a5, a6, a7, a8, a9, a10, a11, a12, a13, a14, a15, rfl⟩ := v16 h; rfl
theorem ctx_spl {xs ys : List AV} (h : xs.length = 17) (h2 : ys.length = 17) : spl xs 0 ys = ys := spl_whole (by rw [h, h2])
theorem ctC {a b : CtxT} (h : a = b) : ctA a = ctA b := by rw [h]
theorem vhas_is {v : List Int} {d : Int × Int} {b : Bool} (hv : v.length = 16) (h : vhas v d = b) : PFn Try.prog False 99 [vA v, dA d] (bA b) := h ▸ vhas_p v d hv
theorem dcontains_is {l : List (Int × Int)} {x : Int × Int} {b : Bool} (hn : l.length < 1000000) (h : decide (x ∈ l) = b) : PFn Try.prog False 100 [slD l, dA x] (bA b) := h ▸ dcontains_p l x hn
theorem dequal_is {a b : List (Int × Int)} {r : Bool} (ha : a.length < 1000000) (hb : b.length < 1000000) (h : decide (a = b) = r) : PFn Try.prog False 153 [slD a, slD b] (bA r) := h ▸ dequal_p a b ha hb
theorem eqV_t {w : World} {v u : List Int} (hv : v.length = 16) (hu : u.length = 16) (h : v = u) : (Op.equalIn 10000 53 (.agg (AV.vals (iL v)).toArray) (.agg (AV.vals (iL u)).toArray)).run Try.prog w = .ok true w := by rw [eqV w v u hv hu, decide_eq_true h]
theorem eqV_f {w : World} {v u : List Int} (hv : v.length = 16) (hu : u.length = 16) (h : v ≠ u) : (Op.equalIn 10000 53 (.agg (AV.vals (iL v)).toArray) (.agg (AV.vals (iL u)).toArray)).run Try.prog w = .ok false w := by rw [eqV w v u hv hu, decide_eq_false h]
theorem hasC_cases (c : CtxT) (d : Int × Int) : (vhas c.1 d = true ∧ hasC c d = true) ∨ (vhas c.1 d = false ∧ chk d ≠ 0 ∧ hasC c d = false) ∨ (vhas c.1 d = false ∧ chk d = 0 ∧ d ∈ c.2 ∧ hasC c d = true) ∨ (vhas c.1 d = false ∧ chk d = 0 ∧ d ∉ c.2 ∧ hasC c d = false) := by
  unfold hasC
  cases h : vhas c.1 d with
  | true => exact .inl ⟨rfl, rfl⟩
  | false =>
    by_cases h1 : chk d = 0
    · by_cases h2 : d ∈ c.2
      · exact .inr (.inr (.inl ⟨rfl, h1, h2, by rw [decide_eq_true h1, decide_eq_true h2]; rfl⟩))
      · exact .inr (.inr (.inr ⟨rfl, h1, h2, by rw [decide_eq_false h2]; simp⟩))
    · exact .inr (.inl ⟨rfl, h1, by rw [decide_eq_false h1]; rfl⟩)
theorem eqC_cases (a b : CtxT) : (a.1 ≠ b.1 ∧ decide (a = b) = false) ∨ (a.1 = b.1 ∧ a.2 ≠ b.2 ∧ decide (a = b) = false) ∨ (a.1 = b.1 ∧ a.2 = b.2 ∧ decide (a = b) = true) := by
  by_cases h1 : a.1 = b.1
  · by_cases h2 : a.2 = b.2
    · exact .inr (.inr ⟨h1, h2, decide_eq_true (Prod.ext h1 h2)⟩)
    · exact .inr (.inl ⟨h1, h2, decide_eq_false fun e => h2 (by rw [e])⟩)
  · exact .inl ⟨h1, decide_eq_false fun e => h1 (by rw [e])⟩

set_option maxRecDepth 100000 in
theorem chas_p (c : CtxT) (d : Int × Int) (hv : c.1.length = 16) (hn : c.2.length < 1000000) : PFn Try.prog False 40 [ctA c, dA d] (bA (hasC c d)) := by
  refine pfn Try.func40 rfl (by kernel_rfl) 20 rfl _ rfl (Nat.le_of_ble_eq_true rfl) (fun X w0 => ?_)
  refine wSeq ?_
  refine wReg ?_
  refine sBox rfl rfl rfl rfl rfl (fun g2 => ?_)
  refine sBox rfl rfl rfl rfl rfl (fun g3 => ?_)
  refine sP rfl rfl rfl (pA rfl rfl) ?_
  refine lNil ?_
  refine wCut (fun L h => ∃ b : Bool, b = (hasC c d) ∧ L = [(2, .x (.pointer (some ⟨g2, 0, none⟩))), (4, bA b)] ∧ h = []) ?_ ?_
  · rcases hasC_cases c d with ⟨e1, hbv⟩ | ⟨e1, e2, hbv⟩ | ⟨e1, e2, e3, hbv⟩ | ⟨e1, e2, e3, hbv⟩
    · refine wReg ?_
      refine sP rfl rfl rfl (p_fieldAddr_own rfl rfl fl55_0 ty53 (by decide)) ?_
      refine sP rfl rfl rfl (pLdO 0 rfl rfl rfl ty53 (ctx_le hv) (ctx_V hv)) ?_
      refine sP rfl rfl rfl (pLdW 1 rfl rfl rfl ty23 rfl) ?_
      refine sP rfl rfl rfl (p_call rfl (vhas_is hv e1) ⟨Sub.refl, Sub.refl, trivial⟩) ?_
      refine sP rfl rfl rfl (pM rfl rfl) ?_
      refine sUx rfl rfl rfl (by decide) rfl rfl ?_
      refine sUx rfl rfl rfl (by decide) rfl rfl ?_
      refine sUx rfl rfl rfl (by decide) rfl rfl ?_
      refine sUx rfl rfl rfl (by decide) rfl rfl ?_
      refine sNx rfl rfl rfl rfl rfl ?_
      refine sNx rfl rfl rfl rfl rfl ?_
      refine sNx rfl rfl rfl rfl rfl ?_
      refine sNx rfl rfl rfl rfl rfl ?_
      refine sUx rfl rfl rfl (by decide) rfl rfl ?_
      refine sP rfl rfl rfl (p_pick rfl rfl rfl) ?_
      refine sP rfl rfl rfl (pA rfl rfl) ?_
      refine lNil ?_
      exact ⟨_, [], _, ⟨_, (by exact hbv.symm), rfl, rfl⟩, ⟨rfl, rfl, trivial⟩, rfl⟩
    · refine wReg ?_
      refine sP rfl rfl rfl (p_fieldAddr_own rfl rfl fl55_0 ty53 (by decide)) ?_
      refine sP rfl rfl rfl (pLdO 0 rfl rfl rfl ty53 (ctx_le hv) (ctx_V hv)) ?_
      refine sP rfl rfl rfl (pLdW 1 rfl rfl rfl ty23 rfl) ?_
      refine sP rfl rfl rfl (p_call rfl (vhas_is hv e1) ⟨Sub.refl, Sub.refl, trivial⟩) ?_
      refine sP rfl rfl rfl (pM rfl rfl) ?_
      refine sG rfl rfl rfl rfl rfl (pLdW 1 rfl rfl rfl ty23 rfl) ?_
      refine sG rfl rfl rfl rfl rfl (p_call rfl (dcheck_p d) ⟨Sub.refl, trivial⟩) ?_
      refine sG rfl rfl rfl rfl rfl (p_icmp rfl rfl rfl (eql0_f e2)) ?_
      refine sG rfl rfl rfl rfl rfl (pM rfl rfl) ?_
      refine sUx rfl rfl rfl (by decide) rfl rfl ?_
      refine sUx rfl rfl rfl (by decide) rfl rfl ?_
      refine sUx rfl rfl rfl (by decide) rfl rfl ?_
      refine sUx rfl rfl rfl (by decide) rfl rfl ?_
      refine sG rfl rfl rfl rfl rfl (p_pick rfl rfl rfl) ?_
      refine sP rfl rfl rfl (p_pick rfl rfl rfl) ?_
      refine sP rfl rfl rfl (pA rfl rfl) ?_
      refine lNil ?_
      exact ⟨_, [], _, ⟨_, (by exact hbv.symm), rfl, rfl⟩, ⟨rfl, rfl, trivial⟩, rfl⟩
    · refine wReg ?_
      refine sP rfl rfl rfl (p_fieldAddr_own rfl rfl fl55_0 ty53 (by decide)) ?_
      refine sP rfl rfl rfl (pLdO 0 rfl rfl rfl ty53 (ctx_le hv) (ctx_V hv)) ?_
      refine sP rfl rfl rfl (pLdW 1 rfl rfl rfl ty23 rfl) ?_
      refine sP rfl rfl rfl (p_call rfl (vhas_is hv e1) ⟨Sub.refl, Sub.refl, trivial⟩) ?_
      refine sP rfl rfl rfl (pM rfl rfl) ?_
      refine sG rfl rfl rfl rfl rfl (pLdW 1 rfl rfl rfl ty23 rfl) ?_
      refine sG rfl rfl rfl rfl rfl (p_call rfl (dcheck_p d) ⟨Sub.refl, trivial⟩) ?_
      refine sG rfl rfl rfl rfl rfl (p_icmp rfl rfl rfl (eql0_t e2)) ?_
      refine sG rfl rfl rfl rfl rfl (pM rfl rfl) ?_
      refine sG rfl rfl rfl rfl rfl (p_fieldAddr_own rfl rfl fl55_1 ty27 (by decide)) ?_
      refine sG rfl rfl rfl rfl rfl (pLdO1 0 rfl rfl rfl ty27 (ctx_C hv)) ?_
      refine sG rfl rfl rfl rfl rfl (pLdW 1 rfl rfl rfl ty23 rfl) ?_
      refine sG rfl rfl rfl rfl rfl (p_call rfl (dcontains_is hn (decide_eq_true e3)) ⟨Sub.refl, Sub.refl, trivial⟩) ?_
      refine sG rfl rfl rfl rfl rfl (p_pick rfl rfl rfl) ?_
      refine sP rfl rfl rfl (p_pick rfl rfl rfl) ?_
      refine sP rfl rfl rfl (pA rfl rfl) ?_
      refine lNil ?_
      exact ⟨_, [], _, ⟨_, (by exact hbv.symm), rfl, rfl⟩, ⟨rfl, rfl, trivial⟩, rfl⟩
    · refine wReg ?_
      refine sP rfl rfl rfl (p_fieldAddr_own rfl rfl fl55_0 ty53 (by decide)) ?_
      refine sP rfl rfl rfl (pLdO 0 rfl rfl rfl ty53 (ctx_le hv) (ctx_V hv)) ?_
      refine sP rfl rfl rfl (pLdW 1 rfl rfl rfl ty23 rfl) ?_
      refine sP rfl rfl rfl (p_call rfl (vhas_is hv e1) ⟨Sub.refl, Sub.refl, trivial⟩) ?_
      refine sP rfl rfl rfl (pM rfl rfl) ?_
      refine sG rfl rfl rfl rfl rfl (pLdW 1 rfl rfl rfl ty23 rfl) ?_
      refine sG rfl rfl rfl rfl rfl (p_call rfl (dcheck_p d) ⟨Sub.refl, trivial⟩) ?_
      refine sG rfl rfl rfl rfl rfl (p_icmp rfl rfl rfl (eql0_t e2)) ?_
      refine sG rfl rfl rfl rfl rfl (pM rfl rfl) ?_
      refine sG rfl rfl rfl rfl rfl (p_fieldAddr_own rfl rfl fl55_1 ty27 (by decide)) ?_
      refine sG rfl rfl rfl rfl rfl (pLdO1 0 rfl rfl rfl ty27 (ctx_C hv)) ?_
      refine sG rfl rfl rfl rfl rfl (pLdW 1 rfl rfl rfl ty23 rfl) ?_
      refine sG rfl rfl rfl rfl rfl (p_call rfl (dcontains_is hn (decide_eq_false e3)) ⟨Sub.refl, Sub.refl, trivial⟩) ?_
      refine sG rfl rfl rfl rfl rfl (p_pick rfl rfl rfl) ?_
      refine sP rfl rfl rfl (p_pick rfl rfl rfl) ?_
      refine sP rfl rfl rfl (pA rfl rfl) ?_
      refine lNil ?_
      exact ⟨_, [], _, ⟨_, (by exact hbv.symm), rfl, rfl⟩, ⟨rfl, rfl, trivial⟩, rfl⟩
  · rintro L h ⟨b, hb, rfl, rfl⟩
    refine wRet ?_
    exact rgs1 (rg_tmp (gives_sub (Sub.of_eq (avB hb))))
set_option maxRecDepth 100000 in
theorem cequal_p (y z : CtxT) (ha : y.1.length = 16) (hb : z.1.length = 16) (ha2 : y.2.length < 1000000) (hb2 : z.2.length < 1000000) : PFn Try.prog False 120 [ctA y, ctA z] (bA (decide (y = z))) := by
  refine pfn Try.func120 rfl (by kernel_rfl) 17 rfl _ rfl (Nat.le_of_ble_eq_true rfl) (fun X w0 => ?_)
  refine wSeq ?_
  refine wReg ?_
  refine sBox rfl rfl rfl rfl rfl (fun g2 => ?_)
  refine sBox rfl rfl rfl rfl rfl (fun g3 => ?_)
  refine sP rfl rfl rfl (pA rfl rfl) ?_
  refine lNil ?_
  refine wCut (fun L h => ∃ b : Bool, b = (decide (y = z)) ∧ L = [(2, .x (.pointer (some ⟨g2, 0, none⟩))), (4, bA b)] ∧ h = []) ?_ ?_
  · rcases eqC_cases y z with ⟨e1, hbv⟩ | ⟨e1, e2, hbv⟩ | ⟨e1, e2, hbv⟩
    · refine wReg ?_
      refine sP rfl rfl rfl (p_fieldAddr_own rfl rfl fl55_0 ty53 (by decide)) ?_
      refine sP rfl rfl rfl (pLdO 0 rfl rfl rfl ty53 (ctx_le ha) (ctx_V ha)) ?_
      refine sP rfl rfl rfl (p_fieldAddr_own rfl rfl fl55_0 ty53 (by decide)) ?_
      refine sP rfl rfl rfl (pLdO 1 rfl rfl rfl ty53 (ctx_le hb) (ctx_V hb)) ?_
      refine sP rfl rfl rfl (p_eqs (r := false) rfl rfl rfl (exL_ints _) (exL_ints _) guardV (fun w => eqV_f ha hb e1)) ?_
      refine sP rfl rfl rfl (pM rfl rfl) ?_
      refine sUx rfl rfl rfl (by decide) rfl rfl ?_
      refine sUx rfl rfl rfl (by decide) rfl rfl ?_
      refine sUx rfl rfl rfl (by decide) rfl rfl ?_
      refine sUx rfl rfl rfl (by decide) rfl rfl ?_
      refine sUx rfl rfl rfl (by decide) rfl rfl ?_
      refine sP rfl rfl rfl (p_pick rfl rfl rfl) ?_
      refine sP rfl rfl rfl (pA rfl rfl) ?_
      refine lNil ?_
      exact ⟨_, [], _, ⟨_, (by exact hbv.symm), rfl, rfl⟩, ⟨rfl, rfl, trivial⟩, rfl⟩
    · refine wReg ?_
      refine sP rfl rfl rfl (p_fieldAddr_own rfl rfl fl55_0 ty53 (by decide)) ?_
      refine sP rfl rfl rfl (pLdO 0 rfl rfl rfl ty53 (ctx_le ha) (ctx_V ha)) ?_
      refine sP rfl rfl rfl (p_fieldAddr_own rfl rfl fl55_0 ty53 (by decide)) ?_
      refine sP rfl rfl rfl (pLdO 1 rfl rfl rfl ty53 (ctx_le hb) (ctx_V hb)) ?_
      refine sP rfl rfl rfl (p_eqs (r := true) rfl rfl rfl (exL_ints _) (exL_ints _) guardV (fun w => eqV_t ha hb e1)) ?_
      refine sP rfl rfl rfl (pM rfl rfl) ?_
      refine sG rfl rfl rfl rfl rfl (p_fieldAddr_own rfl rfl fl55_1 ty27 (by decide)) ?_
      refine sG rfl rfl rfl rfl rfl (pLdO1 0 rfl rfl rfl ty27 (ctx_C ha)) ?_
      refine sG rfl rfl rfl rfl rfl (p_fieldAddr_own rfl rfl fl55_1 ty27 (by decide)) ?_
      refine sG rfl rfl rfl rfl rfl (pLdO1 1 rfl rfl rfl ty27 (ctx_C hb)) ?_
      refine sG rfl rfl rfl rfl rfl (p_call rfl (dequal_is ha2 hb2 (decide_eq_false e2)) ⟨Sub.refl, Sub.refl, trivial⟩) ?_
      refine sP rfl rfl rfl (p_pick rfl rfl rfl) ?_
      refine sP rfl rfl rfl (pA rfl rfl) ?_
      refine lNil ?_
      exact ⟨_, [], _, ⟨_, (by exact hbv.symm), rfl, rfl⟩, ⟨rfl, rfl, trivial⟩, rfl⟩
    · refine wReg ?_
      refine sP rfl rfl rfl (p_fieldAddr_own rfl rfl fl55_0 ty53 (by decide)) ?_
      refine sP rfl rfl rfl (pLdO 0 rfl rfl rfl ty53 (ctx_le ha) (ctx_V ha)) ?_
      refine sP rfl rfl rfl (p_fieldAddr_own rfl rfl fl55_0 ty53 (by decide)) ?_
      refine sP rfl rfl rfl (pLdO 1 rfl rfl rfl ty53 (ctx_le hb) (ctx_V hb)) ?_
      refine sP rfl rfl rfl (p_eqs (r := true) rfl rfl rfl (exL_ints _) (exL_ints _) guardV (fun w => eqV_t ha hb e1)) ?_
      refine sP rfl rfl rfl (pM rfl rfl) ?_
      refine sG rfl rfl rfl rfl rfl (p_fieldAddr_own rfl rfl fl55_1 ty27 (by decide)) ?_
      refine sG rfl rfl rfl rfl rfl (pLdO1 0 rfl rfl rfl ty27 (ctx_C ha)) ?_
      refine sG rfl rfl rfl rfl rfl (p_fieldAddr_own rfl rfl fl55_1 ty27 (by decide)) ?_
      refine sG rfl rfl rfl rfl rfl (pLdO1 1 rfl rfl rfl ty27 (ctx_C hb)) ?_
      refine sG rfl rfl rfl rfl rfl (p_call rfl (dequal_is ha2 hb2 (decide_eq_true e2)) ⟨Sub.refl, Sub.refl, trivial⟩) ?_
      refine sP rfl rfl rfl (p_pick rfl rfl rfl) ?_
      refine sP rfl rfl rfl (pA rfl rfl) ?_
      refine lNil ?_
      exact ⟨_, [], _, ⟨_, (by exact hbv.symm), rfl, rfl⟩, ⟨rfl, rfl, trivial⟩, rfl⟩
  · rintro L h ⟨bb, hbb, rfl, rfl⟩
    refine wRet ?_
    exact rgs1 (rg_tmp (gives_sub (Sub.of_eq (avB hbb))))

def clV (v : List Int) (i : Nat) : List Int := (v.map clampI).take i ++ List.replicate (16 - i) 0
theorem clV_len {v : List Int} (hv : v.length = 16) {i : Nat} (h : i ≤ 16) : (clV v i).length = 16 := by unfold clV; rw [List.length_append, List.length_take, List.length_map, List.length_replicate]; omega
theorem clV_set {v : List Int} (hv : v.length = 16) {i : Nat} {x : Int} (h : i < 16) (hx : v[i]? = some x) : (clV v i).set i (clampI x) = clV v (i + 1) := by
  unfold clV
  have hl : ((v.map clampI).take i).length = i := by rw [List.length_take, List.length_map]; omega
  have hz : i < (v.map clampI).length := by rw [List.length_map]; omega
  rw [List.set_append_right _ _ (by omega), hl, Nat.sub_self, show 16 - i = (16 - (i + 1)) + 1 by omega, List.replicate_succ, List.set_cons_zero, ← List.take_append_getElem hz, List.append_assoc, List.getElem_map, (List.getElem?_eq_some_iff.1 hx).2]; rfl
theorem clV_all {v : List Int} (hv : v.length = 16) : clV v 16 = v.map clampI := by unfold clV; rw [List.take_of_length_le (by rw [List.length_map]; omega), Nat.sub_self, List.replicate_zero, List.append_nil]
def clTo (c : CtxT) (i : Nat) : CtxT := ((sortK ltD c.2).take i).foldl clStep (c.1.map clampI, [])
theorem clTo_next {c : CtxT} {i : Nat} {d : Int × Int} (h : (sortK ltD c.2)[i]? = some d) : clTo c (i + 1) = clStep (clTo c i) d := by
  obtain ⟨hi, rfl⟩ := List.getElem?_eq_some_iff.1 h
  unfold clTo
  rw [← List.take_append_getElem hi, List.foldl_append]; rfl
theorem clTo_all (c : CtxT) : clTo c (sortK ltD c.2).length = cleanF c := by unfold clTo cleanF; rw [List.take_length]
theorem clStep_skip {o : CtxT} {d : Int × Int} (h : chk d ≠ 0 ∨ vhas o.1 d = true) : clStep o d = o := if_pos h
theorem clStep_inc {o : CtxT} {d : Int × Int} (h : ¬ (chk d ≠ 0 ∨ vhas o.1 d = true)) (h2 : d.2 = vget o.1 d.1 + 1) : clStep o d = (o.1.set d.1.toNat (vget o.1 d.1 + 1), o.2) := by unfold clStep; rw [if_neg h, if_pos h2]
theorem clStep_app {o : CtxT} {d : Int × Int} (h : ¬ (chk d ≠ 0 ∨ vhas o.1 d = true)) (h2 : ¬ d.2 = vget o.1 d.1 + 1) : clStep o d = (o.1, o.2 ++ [d]) := by unfold clStep; rw [if_neg h, if_neg h2]
theorem clStep_len (o : CtxT) (d : Int × Int) : (clStep o d).2.length ≤ o.2.length + 1 := by
  unfold clStep
  split
  · exact Nat.le_succ _
  · split
    · exact Nat.le_succ _
    · rw [List.length_append]; exact Nat.le_refl _
theorem clTo_len (c : CtxT) : ∀ i, (clTo c i).2.length ≤ i
  | 0 => by unfold clTo; simp
  | i + 1 => by
    rcases Nat.lt_or_ge i (sortK ltD c.2).length with h | h
    · rw [clTo_next (List.getElem?_eq_getElem h)]
      have := clTo_len c i
      have := clStep_len (clTo c i) (sortK ltD c.2)[i]
      omega
    · have e : clTo c (i + 1) = clTo c i := by unfold clTo; rw [List.take_of_length_le (by omega), List.take_of_length_le h]
      rw [e]; have := clTo_len c i; omega
theorem clean_len (c : CtxT) : (cleanF c).2.length ≤ c.2.length := by
  rw [← clTo_all]
  exact Nat.le_trans (clTo_len c _) (sortK_length_le _)
def skipD (o : CtxT) (d : Int × Int) : Bool := decide (chk d ≠ 0) || vhas o.1 d
theorem skip_cases (o : CtxT) (d : Int × Int) : (chk d ≠ 0 ∧ skipD o d = true) ∨ (chk d = 0 ∧ vhas o.1 d = true ∧ skipD o d = true) ∨ (chk d = 0 ∧ vhas o.1 d = false ∧ skipD o d = false) := by
  unfold skipD
  by_cases h1 : chk d = 0
  · cases h : vhas o.1 d with
    | true => exact .inr (.inl ⟨h1, rfl, by simp⟩)
    | false => exact .inr (.inr ⟨h1, rfl, by simp [h1]⟩)
  · exact .inl ⟨h1, by rw [decide_eq_true h1]; rfl⟩
theorem skip_yes {o : CtxT} {d : Int × Int} (h : skipD o d = true) : chk d ≠ 0 ∨ vhas o.1 d = true := by unfold skipD at h; simpa using h
theorem skip_no {o : CtxT} {d : Int × Int} (h : skipD o d = false) : chk d = 0 ∧ ¬ (chk d ≠ 0 ∨ vhas o.1 d = true) := by
  unfold skipD at h
  rw [Bool.or_eq_false_iff, decide_eq_false_iff_not] at h
  have h1 : chk d = 0 := Decidable.byContradiction h.1
  exact ⟨h1, fun g => g.elim (fun g => g h1) fun g => by rw [h.2] at g; cases g⟩
theorem sFreezeE {P : Program} {C : Cx} {Q : Exit → AS → Prop} {f : Nat → AV} {h : List HObj} {ops : Array Oper} {rest : List Oper} (i t j : Nat) {v : Value} {e : TypeId} {k n : Nat} {cs ys zs : List AV} (hi : h[i]? = some (.row v e k n cs)) (ht : f t = .agg ys) (hj : ys[j]? = some (.x v)) (hz : ys.set j (.sl k n cs) = zs) (kk : WL none P C ops Q rest ⟨upd f t (.agg zs), h.set i .dead⟩) : WL none P C ops Q rest ⟨f, h⟩ := sFreezeA i t j hi ht hj (by rw [hz]; exact kk)

set_option maxHeartbeats 1000000 in
set_option maxRecDepth 100000 in
theorem cclean_p (c : CtxT) (hv : c.1.length = 16) (hn : c.2.length < 1000000) : PFn Try.prog False 50 [ctA c] (ctA (cleanF c)) := by
  refine pfn Try.func50 rfl (by kernel_rfl) 65 rfl _ rfl (Nat.le_of_ble_eq_true rfl) (fun X w0 => ?_)
  refine wSeq ?_
  refine wReg ?_
  refine sBox rfl rfl rfl rfl rfl (fun g1 => ?_)
  refine sAlloc rfl rfl rfl rfl ze55 (fun g2 => ?_)
  refine lNil ?_
  refine wSeq ?_
  refine wReg ?_
  refine sAlloc rfl rfl rfl rfl ze55 (fun g3 => ?_)
  refine lNil ?_
  refine wSeq ?_
  refine wSeq ?_
  refine wReg ?_
  refine sP rfl rfl rfl (p_fieldAddr_own rfl rfl fl55_0 ty53 (by decide)) ?_
  refine sP rfl rfl rfl (pLdO 0 rfl rfl rfl ty53 (ctx_le hv) (ctx_V hv)) ?_
  refine sP rfl rfl rfl (pM rfl rfl) ?_
  refine lNil ?_
  refine wBlock ?_
  refine wLoop (fun mm L h => ∃ i, mm = 16 - i ∧ i ≤ 16 ∧ L = [(1, .x (.pointer (some ⟨g1, 0, none⟩))), (2, .x (.pointer (some ⟨g2, 0, none⟩))), (3, .x (.pointer (some ⟨g3, 0, none⟩))), (9, vA c.1), (10, iA (i : Nat))] ∧ h = [.cells g1 55 (encCt c), .cells g2 55 (iL zeroV ++ [.x (.slice none 0 0)]), .cells g3 55 (iL (clV c.1 i) ++ [.x (.slice none 0 0)])]) ⟨_, _, [.cells g1 55 (encCt c), .cells g2 55 (iL zeroV ++ [.x (.slice none 0 0)]), .cells g3 55 (iL (clV c.1 0) ++ [.x (.slice none 0 0)])], _, ⟨0, rfl, Nat.zero_le _, rfl, rfl⟩, ⟨rfl, rfl, rfl, rfl, rfl, trivial⟩, rfl⟩ ?_
  rintro mm L h ⟨i, rfl, hi, rfl, rfl⟩
  refine wSeq ?_
  refine wReg ?_
  refine sP rfl rfl rfl (p_icmp rfl rfl rfl rfl) ?_
  refine lNil ?_
  refine wSeq ?_
  refine wCond rfl (fun hc1 => ?_) (fun hc1 => ?_)
  · have hi16 : i < 16 := by have h := hc1; simp at h; omega
    obtain ⟨x, hx⟩ : ∃ x, c.1[i]? = some x := getL (by omega)
    refine wSkip ?_
    refine wSeq ?_
    refine wBlock ?_
    refine wSeq ?_
    refine wReg ?_
    refine sP rfl rfl rfl (pM rfl rfl) ?_
    refine sP rfl rfl rfl (p_index_arr rfl rfl Try.underlying53 ty3 rfl (i := i) rfl hi16 (.inr ⟨rfl, iL_at hx⟩)) ?_
    refine sP rfl rfl rfl (pA rfl rfl) ?_
    refine sP rfl rfl rfl (pA rfl rfl) ?_
    refine lNil ?_
    refine wReg ?_
    refine sP rfl rfl rfl (pM rfl rfl) ?_
    refine sP rfl rfl rfl (pM rfl rfl) ?_
    refine sP rfl rfl rfl (p_min rfl rfl rfl) ?_
    refine sP rfl rfl rfl (p_max rfl rfl rfl) ?_
    refine sP rfl rfl rfl (p_fieldAddr_own rfl rfl fl55_0 ty53 (by decide)) ?_
    refine sP rfl rfl rfl (p_indexAddr_arr rfl rfl Try.underlying53 ty3 rfl (i := i) rfl hi16) ?_
    refine sStore1 2 rfl rfl rfl rfl rfl ty3 rfl rfl (by rw [ctx_len (clV_len hv hi)]; omega) ?_
    refine lNil ?_
    refine wReg ?_
    refine sP rfl rfl rfl (p_iar rfl rfl rfl rfl) ?_
    refine sP rfl rfl rfl (pM rfl rfl) ?_
    refine lNil ?_
    refine ⟨_, _, [.cells g1 55 (encCt c), .cells g2 55 (iL zeroV ++ [.x (.slice none 0 0)]), .cells g3 55 (iL (clV c.1 (i + 1)) ++ [.x (.slice none 0 0)])], [], ?_, ⟨i + 1, rfl, hi16, rfl, rfl⟩, ⟨rfl, rfl, rfl, rfl, avI (wrapI (by omega) (by omega)), trivial⟩, ?_⟩
    · omega
    · show [_, _, HObj.cells g3 _ ((iL (clV c.1 i) ++ _).set (0 + i * 1) (iA (clampI x)))] = _
      rw [ctx_set (by rw [clV_len hv hi]; exact hi16), clV_set hv hi16 hx]
      rfl
  · have hge : i = 16 := by have h := hc1; simp at h; omega
    subst hge
    refine wExit ?_
    refine wNilrow 23 2 ?_
    refine wSeq ?_
    refine wSeq ?_
    refine wReg ?_
    refine sP rfl rfl rfl (p_fieldAddr_own rfl rfl fl55_1 ty27 (by decide)) ?_
    refine sP rfl rfl rfl (pLdO1 0 rfl rfl rfl ty27 (ctx_C hv)) ?_
    refine sP rfl rfl rfl (p_call rfl (dsort_p c.2 hn) ⟨Sub.refl, trivial⟩) ?_
    refine sP rfl rfl rfl (p_len_sl rfl rfl Try.underlying27) ?_
    refine sP rfl rfl rfl (pM rfl rfl) ?_
    refine lNil ?_
    refine wBlock ?_
    refine wLoop (fun mm L h => ∃ i v, mm = (sortK ltD c.2).length - i ∧ i ≤ (sortK ltD c.2).length ∧ L = [(2, .x (.pointer (some ⟨g2, 0, none⟩))), (3, .x (.pointer (some ⟨g3, 0, none⟩))), (23, slD (sortK ltD c.2)), (24, iA (sortK ltD c.2).length), (25, iA (i : Nat))] ∧ h = [.cells g1 55 (encCt c), .cells g2 55 (iL zeroV ++ [.x (.slice none 0 0)]), .cells g3 55 (iL (clTo c i).1 ++ [.x v]), .row v 23 2 (clTo c i).2.length ((clTo c i).2.flatMap encA)]) ⟨_, _, [.cells g1 55 (encCt c), .cells g2 55 (iL zeroV ++ [.x (.slice none 0 0)]), .cells g3 55 (iL (clV c.1 16) ++ [.x (.slice none 0 0)]), .row (.slice none 0 0) 23 2 0 []], _, ⟨0, .slice none 0 0, rfl, Nat.zero_le _, rfl, by rw [clV_all hv]; rfl⟩, ⟨rfl, rfl, rfl, rfl, rfl, trivial⟩, rfl⟩ ?_
    rintro mm L h ⟨i, v, rfl, hi, rfl, rfl⟩
    refine wSeq ?_
    refine wReg ?_
    refine sP rfl rfl rfl (p_icmp rfl rfl rfl rfl) ?_
    refine lNil ?_
    refine wSeq ?_
    refine wCond rfl (fun hc2 => ?_) (fun hc2 => ?_)
    · have hlt : i < (sortK ltD c.2).length := by simpa using hc2
      obtain ⟨d, hd⟩ := getL hlt
      have hcl : ClInv c _ (clTo c i) := clInv_take (c := c) hv i hi
      have hol : (clTo c i).1.length = 16 := hcl.cl.len
      have hln : (sortK ltD c.2).length ≤ c.2.length := sortK_length_le _
      refine wSkip ?_
      refine wSeq ?_
      refine wBlock ?_
      refine wSeq ?_
      refine wReg ?_
      refine sP rfl rfl rfl (pIdx i rfl rfl Try.underlying27 ty23 (by decide) rfl (fun _ => rfl) rfl rfl hd) ?_
      refine sP rfl rfl rfl (pLdE rfl rfl ty23 rfl) ?_
      refine sAlloc rfl rfl rfl rfl ze23 (fun g7 => ?_)
      refine sStore 4 rfl rfl rfl rfl rfl ty23 rfl rfl rfl (Nat.le_of_ble_eq_true rfl) ?_
      refine lNil ?_
      refine wBlock ?_
      refine wCut (fun L h => ∃ b : Bool, b = (skipD (clTo c i) d) ∧ L = [(2, .x (.pointer (some ⟨g2, 0, none⟩))), (3, .x (.pointer (some ⟨g3, 0, none⟩))), (7, .x (.pointer (some ⟨g7, 0, none⟩))), (23, slD (sortK ltD c.2)), (24, iA (sortK ltD c.2).length), (25, iA (i : Nat)), (35, bA b)] ∧ h = [.cells g1 55 (encCt c), .cells g2 55 (iL zeroV ++ [.x (.slice none 0 0)]), .cells g3 55 (iL (clTo c i).1 ++ [.x v]), .row v 23 2 (clTo c i).2.length ((clTo c i).2.flatMap encA), .cells g7 23 (encA d)]) ?_ ?_
      · rcases skip_cases (clTo c i) d with ⟨e1, hbv⟩ | ⟨e1, e2, hbv⟩ | ⟨e1, e2, hbv⟩
        · refine wReg ?_
          refine sP rfl rfl rfl (pLdW 4 rfl rfl rfl ty23 rfl) ?_
          refine sP rfl rfl rfl (p_call rfl (dcheck_p d) ⟨Sub.refl, trivial⟩) ?_
          refine sP rfl rfl rfl (p_icmp rfl rfl rfl (neq_t e1)) ?_
          refine sP rfl rfl rfl (pM rfl rfl) ?_
          refine sUx rfl rfl rfl (by decide) rfl rfl ?_
          refine sUx rfl rfl rfl (by decide) rfl rfl ?_
          refine sUx rfl rfl rfl (by decide) rfl rfl ?_
          refine sUx rfl rfl rfl (by decide) rfl rfl ?_
          refine sP rfl rfl rfl (p_pick rfl rfl rfl) ?_
          refine sP rfl rfl rfl (pA rfl rfl) ?_
          refine lNil ?_
          exact ⟨_, [.cells g1 55 (encCt c), .cells g2 55 (iL zeroV ++ [.x (.slice none 0 0)]), .cells g3 55 (iL (clTo c i).1 ++ [.x v]), .row v 23 2 (clTo c i).2.length ((clTo c i).2.flatMap encA), .cells g7 23 (encA d)], _, ⟨_, (by exact hbv.symm), rfl, rfl⟩, ⟨rfl, rfl, rfl, rfl, rfl, rfl, rfl, trivial⟩, rfl⟩
        · refine wReg ?_
          refine sP rfl rfl rfl (pLdW 4 rfl rfl rfl ty23 rfl) ?_
          refine sP rfl rfl rfl (p_call rfl (dcheck_p d) ⟨Sub.refl, trivial⟩) ?_
          refine sP rfl rfl rfl (p_icmp rfl rfl rfl (neq_f e1)) ?_
          refine sP rfl rfl rfl (pM rfl rfl) ?_
          refine sG rfl rfl rfl rfl rfl (p_fieldAddr_own rfl rfl fl55_0 ty53 (by decide)) ?_
          refine sG rfl rfl rfl rfl rfl (pLdO 2 rfl rfl rfl ty53 (ctx_le hol) (ctx_V hol)) ?_
          refine sG rfl rfl rfl rfl rfl (pLdW 4 rfl rfl rfl ty23 rfl) ?_
          refine sG rfl rfl rfl rfl rfl (p_call rfl (vhas_is hol e2) ⟨Sub.refl, Sub.refl, trivial⟩) ?_
          refine sP rfl rfl rfl (p_pick rfl rfl rfl) ?_
          refine sP rfl rfl rfl (pA rfl rfl) ?_
          refine lNil ?_
          exact ⟨_, [.cells g1 55 (encCt c), .cells g2 55 (iL zeroV ++ [.x (.slice none 0 0)]), .cells g3 55 (iL (clTo c i).1 ++ [.x v]), .row v 23 2 (clTo c i).2.length ((clTo c i).2.flatMap encA), .cells g7 23 (encA d)], _, ⟨_, (by exact hbv.symm), rfl, rfl⟩, ⟨rfl, rfl, rfl, rfl, rfl, rfl, rfl, trivial⟩, rfl⟩
        · refine wReg ?_
          refine sP rfl rfl rfl (pLdW 4 rfl rfl rfl ty23 rfl) ?_
          refine sP rfl rfl rfl (p_call rfl (dcheck_p d) ⟨Sub.refl, trivial⟩) ?_
          refine sP rfl rfl rfl (p_icmp rfl rfl rfl (neq_f e1)) ?_
          refine sP rfl rfl rfl (pM rfl rfl) ?_
          refine sG rfl rfl rfl rfl rfl (p_fieldAddr_own rfl rfl fl55_0 ty53 (by decide)) ?_
          refine sG rfl rfl rfl rfl rfl (pLdO 2 rfl rfl rfl ty53 (ctx_le hol) (ctx_V hol)) ?_
          refine sG rfl rfl rfl rfl rfl (pLdW 4 rfl rfl rfl ty23 rfl) ?_
          refine sG rfl rfl rfl rfl rfl (p_call rfl (vhas_is hol e2) ⟨Sub.refl, Sub.refl, trivial⟩) ?_
          refine sP rfl rfl rfl (p_pick rfl rfl rfl) ?_
          refine sP rfl rfl rfl (pA rfl rfl) ?_
          refine lNil ?_
          exact ⟨_, [.cells g1 55 (encCt c), .cells g2 55 (iL zeroV ++ [.x (.slice none 0 0)]), .cells g3 55 (iL (clTo c i).1 ++ [.x v]), .row v 23 2 (clTo c i).2.length ((clTo c i).2.flatMap encA), .cells g7 23 (encA d)], _, ⟨_, (by exact hbv.symm), rfl, rfl⟩, ⟨rfl, rfl, rfl, rfl, rfl, rfl, rfl, trivial⟩, rfl⟩
      · rintro L h ⟨b, hb, rfl, rfl⟩
        refine wCond rfl (fun hc3 => ?_) (fun hc3 => ?_)
        · refine wSkip ?_
          refine wReg ?_
          refine sP rfl rfl rfl (p_iar rfl rfl rfl rfl) ?_
          refine sP rfl rfl rfl (pM rfl rfl) ?_
          refine lNil ?_
          have hst : clTo c (i + 1) = clTo c i := by rw [clTo_next hd, clStep_skip (skip_yes (hb.symm.trans hc3))]
          refine ⟨_, _, [.cells g1 55 (encCt c), .cells g2 55 (iL zeroV ++ [.x (.slice none 0 0)]), .cells g3 55 (iL (clTo c (i + 1)).1 ++ [.x v]), .row v 23 2 (clTo c (i + 1)).2.length ((clTo c (i + 1)).2.flatMap encA)], [.cells g7 23 (encA d)], ?_, ⟨i + 1, v, rfl, hlt, rfl, rfl⟩, ⟨rfl, rfl, rfl, rfl, avI (wrapI (by omega) (by omega)), trivial⟩, ?_⟩
          · omega
          · rw [hst]; rfl
        · obtain ⟨hck, hsk⟩ := skip_no (hb.symm.trans hc3)
          obtain ⟨hr0, hr1, _, _⟩ := (chk_iff d).1 hck
          have hrv : 0 ≤ vget (clTo c i).1 d.1 ∧ vget (clTo c i).1 d.1 ≤ 1099511627776 := hcl.cl.at_ d.1
          refine wSeq ?_
          refine wDraw 10 (by kernel_rfl) (by kernel_rfl) ?_
          refine sP rfl rfl rfl (p_fieldAddr_own rfl rfl fl23_1 ty3 (by decide)) ?_
          refine sP rfl rfl rfl (pLdO1 4 rfl rfl rfl ty3 rfl) ?_
          refine sP rfl rfl rfl (p_fieldAddr_own rfl rfl fl23_0 ty3 (by decide)) ?_
          refine sP rfl rfl rfl (pLdO1 4 rfl rfl rfl ty3 rfl) ?_
          refine sP rfl rfl rfl (p_fieldAddr_own rfl rfl fl55_0 ty53 (by decide)) ?_
          refine sP rfl rfl rfl (p_indexAddr_arr rfl rfl Try.underlying53 ty3 rfl (i := d.1.toNat) (by omega) (by omega)) ?_
          refine sP rfl rfl rfl (pLdO1 2 rfl rfl rfl ty3 (ctx_at (vget_at hol hr0 hr1))) ?_
          refine sP rfl rfl rfl (p_iar rfl rfl rfl (by show some _ = some _; rw [wrapI (by omega) (by omega)])) ?_
          refine sP rfl rfl rfl (p_icmp rfl rfl rfl rfl) ?_
          refine sP rfl rfl rfl (pA rfl rfl) ?_
          refine lTail ?_
          refine lNil ?_
          refine wCond rfl (fun hc4 => ?_) (fun hc4 => ?_)
          · refine wReg ?_
            refine sP rfl rfl rfl (p_fieldAddr_own rfl rfl fl23_0 ty3 (by decide)) ?_
            refine sP rfl rfl rfl (pLdO1 4 rfl rfl rfl ty3 rfl) ?_
            refine sP rfl rfl rfl (p_fieldAddr_own rfl rfl fl55_0 ty53 (by decide)) ?_
            refine sP rfl rfl rfl (p_indexAddr_arr rfl rfl Try.underlying53 ty3 rfl (i := d.1.toNat) (by omega) (by omega)) ?_
            refine sP rfl rfl rfl (pLdO1 2 rfl rfl rfl ty3 (ctx_at (vget_at hol hr0 hr1))) ?_
            refine sP rfl rfl rfl (p_iar rfl rfl rfl (by show some _ = some _; rw [wrapI (by omega) (by omega)])) ?_
            refine sP rfl rfl rfl (p_fieldAddr_own rfl rfl fl55_0 ty53 (by decide)) ?_
            refine sP rfl rfl rfl (p_indexAddr_arr rfl rfl Try.underlying53 ty3 rfl (i := d.1.toNat) (by omega) (by omega)) ?_
            refine sStore1 2 rfl rfl rfl rfl rfl ty3 rfl rfl (by rw [ctx_len hol]; omega) ?_
            refine lNil ?_
            refine wReg ?_
            refine sP rfl rfl rfl (p_iar rfl rfl rfl rfl) ?_
            refine sP rfl rfl rfl (pM rfl rfl) ?_
            refine lNil ?_
            have hst : clTo c (i + 1) = ((clTo c i).1.set d.1.toNat (vget (clTo c i).1 d.1 + 1), (clTo c i).2) := by rw [clTo_next hd, clStep_inc hsk (by simpa using hc4)]
            refine ⟨_, _, [.cells g1 55 (encCt c), .cells g2 55 (iL zeroV ++ [.x (.slice none 0 0)]), .cells g3 55 (iL (clTo c (i + 1)).1 ++ [.x v]), .row v 23 2 (clTo c (i + 1)).2.length ((clTo c (i + 1)).2.flatMap encA)], [.cells g7 23 (encA d)], ?_, ⟨i + 1, v, rfl, hlt, rfl, rfl⟩, ⟨rfl, rfl, rfl, rfl, avI (wrapI (by omega) (by omega)), trivial⟩, ?_⟩
            · omega
            · show [_, _, HObj.cells g3 _ ((iL (clTo c i).1 ++ _).set (0 + d.1.toNat * 1) (iA (vget (clTo c i).1 d.1 + 1))), _, _] = _
              rw [ctx_set (by omega), hst]
              rfl
          · refine wReg ?_
            refine sP rfl rfl rfl (p_fieldAddr_own rfl rfl fl55_1 ty27 (by decide)) ?_
            refine sP rfl rfl rfl (pLdO1 2 rfl rfl rfl ty27 (ctx_C hol)) ?_
            refine sP rfl rfl rfl (pLdW 4 rfl rfl rfl ty23 rfl) ?_
            refine sP rfl rfl rfl (p_buildSlice (res := [d].flatMap encA) rfl ze23 Try.underlying27 ty23 (by decide) (by decide) rfl rfl rfl) ?_
            refine sAppendL (enc := encA) (l := (clTo c i).2) 3 [d] rfl rfl rfl rfl Try.underlying27 ro23 rfl rfl rfl (fun _ => rfl) (by have := clTo_len c i; rw [List.length_singleton]; omega) (by have := clTo_len c i; rw [List.length_singleton]; omega) (fun v33 => ?_)
            refine sP rfl rfl rfl (p_fieldAddr_own rfl rfl fl55_1 ty27 (by decide)) ?_
            refine sStoreRow 2 3 rfl rfl rfl rfl rfl rfl ty27 rfl (by rw [ctx_len hol]; omega) ?_
            refine lNil ?_
            refine wReg ?_
            refine sP rfl rfl rfl (p_iar rfl rfl rfl rfl) ?_
            refine sP rfl rfl rfl (pM rfl rfl) ?_
            refine lNil ?_
            have hst : clTo c (i + 1) = ((clTo c i).1, (clTo c i).2 ++ [d]) := by rw [clTo_next hd, clStep_app hsk (by simpa using hc4)]
            refine ⟨_, _, [.cells g1 55 (encCt c), .cells g2 55 (iL zeroV ++ [.x (.slice none 0 0)]), .cells g3 55 (iL (clTo c (i + 1)).1 ++ [.x v33]), .row v33 23 2 (clTo c (i + 1)).2.length ((clTo c (i + 1)).2.flatMap encA)], [.cells g7 23 (encA d)], ?_, ⟨i + 1, v33, rfl, hlt, rfl, rfl⟩, ⟨rfl, rfl, rfl, rfl, avI (wrapI (by omega) (by omega)), trivial⟩, ?_⟩
            · omega
            · show [_, _, HObj.cells g3 _ ((iL (clTo c i).1 ++ _).set 16 (.x v33)), _, _] = _
              rw [ctx_setC hol, hst]
              rfl
    · have hge : i = (sortK ltD c.2).length := by
        have h : ¬ i < (sortK ltD c.2).length := by simpa using hc2
        omega
      subst hge
      have hcl : (cleanF c).1.length = 16 := (clean_F hv).len
      rw [clTo_all]
      refine wExit ?_
      refine wSeq ?_
      refine wReg ?_
      refine sP rfl rfl rfl (pLdW 2 rfl rfl rfl ty55 (ctx_len hcl)) ?_
      refine sFreezeE 3 64 16 rfl rfl (ctx_C hcl) (ctx_setC hcl) ?_
      refine sStore 1 rfl rfl rfl rfl rfl ty55 rfl (ctx_ones hcl) (ctx_len hcl) (Nat.le_of_ble_eq_true rfl) ?_
      refine lNil ?_
      refine wRet ?_
      have hsp : spl (iL zeroV ++ [.x (.slice none 0 0)]) 0 (iL (cleanF c).1 ++ [slD (cleanF c).2]) = encCt (cleanF c) := ctx_spl rfl (ctx_len hcl)
      exact rgs1 (rg_cell rfl (List.mem_of_getElem? (i := 1) rfl) ty55 (.inl ⟨rfl, by rw [hsp]; exact Nat.le_of_eq (ctx_len hcl).symm, rfl⟩) (gives_sub (Sub.of_eq (by rw [hsp]; exact congrArg AV.agg (List.take_of_length_le (l := encCt (cleanF c)) (Nat.le_of_eq (ctx_len hcl)))))))
end Go.Proofs.Ytmhkalalcmkpbaa

namespace Go.Proofs.Ytmhkalalcmkpbaa
open Go Go.RowKit
set_option linter.unusedVariables false
set_option linter.unusedSimpArgs false

theorem ctx_len' {c : CtxT} (h : c.1.length = 16) : (encCt c).length = 17 := ctx_len h
theorem ctx_ones' {c : CtxT} (h : c.1.length = 16) : AV.ones (encCt c) = true := ctx_ones h
theorem ctxE_1 {c : CtxT} (h : vE c.1 ≠ 0) : ctxE c = vE c.1 := if_pos h
theorem ctxE_2 {c : CtxT} (h : vE c.1 = 0) (h2 : c ≠ cleanF c) : ctxE c = 5 := by unfold ctxE; rw [if_neg (by simpa using h), if_neg (fun e => h2 e.symm)]
theorem ctxE_3 {c : CtxT} (h : vE c.1 = 0) (h2 : c = cleanF c) : ctxE c = 0 := by unfold ctxE; rw [if_neg (by simpa using h), if_pos h2.symm]
theorem cat_two (a b : List (Int × Int)) : [a, b].flatten = a ++ b := by simp
theorem two_len {a b : List (Int × Int)} (ha : a.length < 1000000) (hb : b.length < 1000000) : ∀ l ∈ [a, b], l.length < 1000000 := by
  intro l hl
  simp only [List.mem_cons, List.not_mem_nil, or_false] at hl
  rcases hl with rfl | rfl
  · exact ha
  · exact hb
theorem dconcat2_p (a b : List (Int × Int)) (ha : a.length < 1000000) (hb : b.length < 1000000) : PFn Try.prog False 98 [.sl 1 2 [slD a, slD b]] (slD (a ++ b)) := by
  have h := dconcat_p [a, b] (show 2 < 100 by decide) (two_len ha hb)
  rw [cat_two] at h
  exact h

set_option maxRecDepth 100000 in
theorem ccheck_p (c : CtxT) (hv : c.1.length = 16) (hn : c.2.length < 1000000) : PFn Try.prog False 52 [ctA c] (iA (ctxE c)) := by
  refine pfn Try.func52 rfl (by kernel_rfl) 15 rfl _ rfl (Nat.le_of_ble_eq_true rfl) (fun X w0 => ?_)
  refine wSeq ?_
  refine wReg ?_
  refine sBox rfl rfl rfl rfl rfl (fun g1 => ?_)
  refine sP rfl rfl rfl (pA rfl rfl) ?_
  refine lNil ?_
  refine wSeq ?_
  refine wSeq ?_
  refine wReg ?_
  refine sP rfl rfl rfl (p_fieldAddr_own rfl rfl fl55_0 ty53 (by decide)) ?_
  refine sP rfl rfl rfl (pLdO 0 rfl rfl rfl ty53 (ctx_le hv) (ctx_V hv)) ?_
  refine sP rfl rfl rfl (p_call rfl (vcheck_p c.1 hv) ⟨Sub.refl, trivial⟩) ?_
  refine sP rfl rfl rfl (pA rfl rfl) ?_
  refine lNil ?_
  refine wSeq ?_
  refine wReg ?_
  refine sP rfl rfl rfl (pM rfl rfl) ?_
  refine sP rfl rfl rfl (p_icmp rfl rfl rfl rfl) ?_
  refine lNil ?_
  refine wCond rfl (fun hc1 => ?_) (fun hc1 => ?_)
  · refine wSeq ?_
    refine wReg ?_
    refine sP rfl rfl rfl (pM rfl rfl) ?_
    refine sP rfl rfl rfl (pA rfl rfl) ?_
    refine lNil ?_
    refine wRet ?_
    have h : vE c.1 ≠ 0 := by simpa using hc1
    exact rgs1 (rg_tmp (gives_sub (Sub.of_eq (avI (ctxE_1 h).symm))))
  · have hz : vE c.1 = 0 := by simpa using hc1
    refine wSkip ?_
    refine wSeq ?_
    refine wSeq ?_
    refine wDraw 5 (by kernel_rfl) (by kernel_rfl) ?_
    refine sP rfl rfl rfl (pLdW 0 rfl rfl rfl ty55 (ctx_len hv)) ?_
    refine sP rfl rfl rfl (pLdW 0 rfl rfl rfl ty55 (ctx_len hv)) ?_
    refine sP rfl rfl rfl (p_call rfl (cclean_p c hv hn) ⟨Sub.refl, trivial⟩) ?_
    refine sP rfl rfl rfl (p_call rfl (cequal_p c (cleanF c) hv (clean_F hv).len hn (by have := clean_len c; omega)) ⟨Sub.refl, Sub.refl, trivial⟩) ?_
    refine sP rfl rfl rfl (p_not rfl rfl) ?_
    refine lTail ?_
    refine lNil ?_
    refine wCond rfl (fun hc2 => ?_) (fun hc2 => ?_)
    · refine wSeq ?_
      refine wReg ?_
      refine sP rfl rfl rfl (pA rfl rfl) ?_
      refine lNil ?_
      refine wRet ?_
      have h : c ≠ cleanF c := by simpa using hc2
      exact rgs1 (rg_tmp (gives_sub (Sub.of_eq (avI (ctxE_2 hz h).symm))))
    · refine wSkip ?_
      refine wSeq ?_
      refine wReg ?_
      refine sP rfl rfl rfl (pA rfl rfl) ?_
      refine lNil ?_
      refine wRet ?_
      have h : c = cleanF c := by simpa using hc2
      exact rgs1 (rg_tmp (gives_sub (Sub.of_eq (avI (ctxE_3 hz h).symm))))
set_option maxRecDepth 100000 in
theorem cadd_p (c : CtxT) (l : List (Int × Int)) (hv : c.1.length = 16) (hn : c.2.length < 500000) (hl : l.length < 500000) : PFn Try.prog False 39 [ctA c, slD l] (ctA (addF c l)) := by
  refine pfn Try.func39 rfl (by kernel_rfl) 14 rfl _ rfl (Nat.le_of_ble_eq_true rfl) (fun X w0 => ?_)
  refine wSeq ?_
  refine wReg ?_
  refine sBox rfl rfl rfl rfl rfl (fun g2 => ?_)
  refine sAlloc rfl rfl rfl rfl ze55 (fun g4 => ?_)
  refine lNil ?_
  refine wSeq ?_
  refine wDraw 9 (by kernel_rfl) (by kernel_rfl) ?_
  refine sP rfl rfl rfl (p_fieldAddr_own rfl rfl fl55_0 ty53 (by decide)) ?_
  refine sP rfl rfl rfl (pLdO 0 rfl rfl rfl ty53 (ctx_le hv) (ctx_V hv)) ?_
  refine sP rfl rfl rfl (p_fieldAddr_own rfl rfl fl55_1 ty27 (by decide)) ?_
  refine sP rfl rfl rfl (pLdO1 0 rfl rfl rfl ty27 (ctx_C hv)) ?_
  refine sP rfl rfl rfl (pMs rfl rfl) ?_
  refine sP rfl rfl rfl (p_buildSlice (res := [slD c.2, slD l]) rfl ze27 Try.underlying184 ty27 (by decide) (by decide) rfl rfl rfl) ?_
  refine sP rfl rfl rfl (p_call rfl (dconcat2_p c.2 l (by omega) (by omega)) ⟨Sub.refl, trivial⟩) ?_
  refine sP rfl rfl rfl (p_build (res := iL c.1 ++ [slD (c.2 ++ l)]) rfl ze55 pl55 rfl (ctx_fill hv)) ?_
  refine sP rfl rfl rfl (p_call rfl (cclean_p (c.1, c.2 ++ l) hv (by rw [List.length_append]; omega)) ⟨Sub.refl, trivial⟩) ?_
  refine lTail ?_
  refine sStore 1 rfl rfl rfl rfl rfl ty55 rfl (ctx_ones' (c := addF c l) (clean_add (c := c) hv l).len) (ctx_len' (c := addF c l) (clean_add (c := c) hv l).len) (Nat.le_of_ble_eq_true rfl) ?_
  refine lNil ?_
  refine wRet ?_
  have hcl := (clean_add (c := c) hv l).len
  have hsp : spl (iL zeroV ++ [.x (.slice none 0 0)]) 0 (encCt (addF c l)) = encCt (addF c l) := ctx_spl rfl (ctx_len' hcl)
  exact rgs1 (rg_cell rfl (List.mem_of_getElem? (i := 1) rfl) ty55 (.inl ⟨rfl, by show 17 ≤ (spl (iL zeroV ++ [.x (.slice none 0 0)]) 0 (encCt (addF c l))).length; rw [hsp]; exact Nat.le_of_eq (ctx_len' hcl).symm, rfl⟩) (gives_sub (Sub.of_eq (by show AV.agg ((spl (iL zeroV ++ [.x (.slice none 0 0)]) 0 (encCt (addF c l))).take 17) = _; rw [hsp]; exact congrArg AV.agg (List.take_of_length_le (Nat.le_of_eq (ctx_len' hcl)))))))
set_option maxRecDepth 100000 in
theorem cjoin_p (y z : CtxT) (ha : y.1.length = 16) (hb : z.1.length = 16) (ha2 : y.2.length < 500000) (hb2 : z.2.length < 500000) : PFn Try.prog False 55 [ctA y, ctA z] (ctA (joinF y z)) := by
  refine pfn Try.func55 rfl (by kernel_rfl) 22 rfl _ rfl (Nat.le_of_ble_eq_true rfl) (fun X w0 => ?_)
  have hca := (clean_F ha).len
  have hcb := (clean_F hb).len
  have hla := clean_len y
  have hlb := clean_len z
  refine wSeq ?_
  refine wReg ?_
  refine sBox rfl rfl rfl rfl rfl (fun g2 => ?_)
  refine sBox rfl rfl rfl rfl rfl (fun g3 => ?_)
  refine sAlloc rfl rfl rfl rfl ze55 (fun g4 => ?_)
  refine lNil ?_
  refine wSeq ?_
  refine wDrawM 4 (by kernel_rfl) (by kernel_rfl) (fun _ => [.cells g2 55 (encCt y), .cells g3 55 (encCt z), .cells g4 55 (iL zeroV ++ [.x (.slice none 0 0)])]) [] (by kernel_rfl) rfl (fun m _ => rfl) ?_
  refine dwP rfl rfl rfl rfl rfl (fun k al => (pLdW 0 rfl rfl rfl ty55 (ctx_len ha))) ?_
  refine dwP rfl rfl rfl rfl rfl (fun k al => (p_call rfl (cclean_p y ha (by omega)) ⟨Sub.refl, trivial⟩)) ?_
  refine dwP rfl rfl rfl rfl rfl (fun k al => (pLdW 1 rfl rfl rfl ty55 (ctx_len hb))) ?_
  refine dwP rfl rfl rfl rfl rfl (fun k al => (p_call rfl (cclean_p z hb (by omega)) ⟨Sub.refl, trivial⟩)) ?_
  refine dwNil ?_
  refine sStore 0 rfl rfl rfl rfl rfl ty55 rfl (ctx_ones' hca) (ctx_len' hca) (by show 0 + 17 ≤ _; rw [ctx_len' ha]; exact Nat.le_refl _) ?_
  refine sStore 1 rfl rfl rfl rfl rfl ty55 rfl (ctx_ones' hcb) (ctx_len' hcb) (by show 0 + 17 ≤ _; rw [ctx_len' hb]; exact Nat.le_refl _) ?_
  refine lNil ?_
  refine wKeep [(2, .x (.pointer (some ⟨g2, 0, none⟩))), (3, .x (.pointer (some ⟨g3, 0, none⟩))), (4, .x (.pointer (some ⟨g4, 0, none⟩)))] [.cells g2 55 (encCt (cleanF y)), .cells g3 55 (encCt (cleanF z)), .cells g4 55 (iL zeroV ++ [.x (.slice none 0 0)])] [] ⟨rfl, rfl, rfl, trivial⟩ (by
    have e1 : spl (encCt y) 0 (encCt (cleanF y)) = encCt (cleanF y) := ctx_spl (ctx_len' ha) (ctx_len' hca)
    have e2 : spl (encCt z) 0 (encCt (cleanF z)) = encCt (cleanF z) := ctx_spl (ctx_len' hb) (ctx_len' hcb)
    show [HObj.cells g2 _ (spl (encCt y) 0 (encCt (cleanF y))), HObj.cells g3 _ (spl (encCt z) 0 (encCt (cleanF z))), _] = _
    rw [e1, e2]
    rfl) ?_
  refine wSeq ?_
  refine wDraw 13 (by kernel_rfl) (by kernel_rfl) ?_
  refine sP rfl rfl rfl (p_fieldAddr_own rfl rfl fl55_0 ty53 (by decide)) ?_
  refine sP rfl rfl rfl (pLdO 0 rfl rfl rfl ty53 (ctx_le hca) (ctx_V hca)) ?_
  refine sP rfl rfl rfl (p_fieldAddr_own rfl rfl fl55_0 ty53 (by decide)) ?_
  refine sP rfl rfl rfl (pLdO 1 rfl rfl rfl ty53 (ctx_le hcb) (ctx_V hcb)) ?_
  refine sP rfl rfl rfl (p_call rfl (vjoin_p (cleanF y).1 (cleanF z).1 hca hcb) ⟨Sub.refl, Sub.refl, trivial⟩) ?_
  refine sP rfl rfl rfl (p_fieldAddr_own rfl rfl fl55_1 ty27 (by decide)) ?_
  refine sP rfl rfl rfl (pLdO1 0 rfl rfl rfl ty27 (ctx_C hca)) ?_
  refine sP rfl rfl rfl (p_fieldAddr_own rfl rfl fl55_1 ty27 (by decide)) ?_
  refine sP rfl rfl rfl (pLdO1 1 rfl rfl rfl ty27 (ctx_C hcb)) ?_
  refine sP rfl rfl rfl (p_buildSlice (res := [slD (cleanF y).2, slD (cleanF z).2]) rfl ze27 Try.underlying184 ty27 (by decide) (by decide) rfl rfl rfl) ?_
  refine sP rfl rfl rfl (p_call rfl (dconcat2_p (cleanF y).2 (cleanF z).2 (by omega) (by omega)) ⟨Sub.refl, trivial⟩) ?_
  refine sP rfl rfl rfl (p_build (res := iL (vmax (cleanF y).1 (cleanF z).1) ++ [slD ((cleanF y).2 ++ (cleanF z).2)]) rfl ze55 pl55 rfl (ctx_fill (vmax_len hca hcb))) ?_
  refine sP rfl rfl rfl (p_call rfl (cclean_p (vmax (cleanF y).1 (cleanF z).1, (cleanF y).2 ++ (cleanF z).2) (vmax_len hca hcb) (by rw [List.length_append]; omega)) ⟨Sub.refl, trivial⟩) ?_
  refine lTail ?_
  refine sStore 2 rfl rfl rfl rfl rfl ty55 rfl (ctx_ones' (c := joinF y z) (clean_join ha hb).len) (ctx_len' (c := joinF y z) (clean_join ha hb).len) (Nat.le_of_ble_eq_true rfl) ?_
  refine lNil ?_
  refine wRet ?_
  have hcl := (clean_join ha hb).len
  have hsp : spl (iL zeroV ++ [.x (.slice none 0 0)]) 0 (encCt (joinF y z)) = encCt (joinF y z) := ctx_spl rfl (ctx_len' hcl)
  exact rgs1 (rg_cell rfl (List.mem_of_getElem? (i := 2) rfl) ty55 (.inl ⟨rfl, by show 17 ≤ (spl (iL zeroV ++ [.x (.slice none 0 0)]) 0 (encCt (joinF y z))).length; rw [hsp]; exact Nat.le_of_eq (ctx_len' hcl).symm, rfl⟩) (gives_sub (Sub.of_eq (by show AV.agg ((spl (iL zeroV ++ [.x (.slice none 0 0)]) 0 (encCt (joinF y z))).take 17) = _; rw [hsp]; exact congrArg AV.agg (List.take_of_length_le (Nat.le_of_eq (ctx_len' hcl)))))))
end Go.Proofs.Ytmhkalalcmkpbaa

namespace Go.Proofs.Ytmhkalalcmkpbaa
open Go Go.RowKit
set_option linter.unusedVariables false
set_option linter.unusedSimpArgs false
section
variable {P : Program} {C : Cx} {Q : Exit → AS → Prop} {s : AS} {ops : Array Oper} {rest : List Oper}
theorem st_freezeC {i t g : Nat} {T : TypeId} {cs : List AV} {a : Act} {w : World} (hi : s.h[i]? = some (.cells g T cs)) (ht : s.t t = .x (.pointer (some ⟨g, 0, none⟩))) (hs : C.St s a w) : C.St ⟨upd s.t t (.ip cs), s.h.set i .dead⟩ a w := by
  have hg : w.grownBy w (HObj.cells g T cs).blk := World.grownBy.refl _ _
  have hq : ∀ b, HObj.dead.blk = some b → (HObj.cells g T cs).blk = some b ∨ w.heap.size ≤ b := fun b hb => by cases hb
  have env2 := hs.env.set_ (q := .dead) hi hg (fun _ => Nat.le_refl _) trivial hq (fun b hb => by cases hb)
  have sl2 := slots_set (q := .dead) hs.env hi hg hq hs.slots
  refine ⟨env2, sl2.defers, sl2.size, fun u => ?_⟩
  by_cases hu : u = t
  · subst hu
    show Rep _ _ (upd s.t u (.ip cs) u) _
    rw [upd_same]
    have h1 := hs.slots.slot u
    rw [ht, rep_x] at h1
    have hm := List.mem_of_getElem? hi
    have hc := own_cells hs.env hm 0
    rw [List.drop_zero] at hc
    simp only [Rep]
    refine ⟨_, h1, hs.env.lt _ hm g rfl, ?_, RepC.mono (Kept.refl _ w) (owned_set (q := .dead) hi hs.env hq) _ _ hc⟩
    rintro (hx | ⟨o, ho, hob⟩)
    · have h5 := hs.env.ext _ hx
      have h6 := hs.env.new _ hm g rfl
      simp only at h5
      rcases h6 with h6 | h6
      · omega
      · exact h5.2 h6
    · obtain ⟨j, hj⟩ := List.mem_iff_getElem?.1 ho
      rw [List.getElem?_set] at hj
      split at hj
      · split at hj
        · obtain rfl : HObj.dead = o := by simpa using hj
          cases hob
        · cases hj
      · rename_i hne
        exact hne (hs.env.apart i j _ o g hi hj rfl hob)
  · show Rep _ _ (upd s.t t _ u) _
    rw [upd_ne _ _ hu]
    exact sl2.slot u
end
section
variable {P : Program} {C : Cx} {Q : Exit → AS → Prop} {f : Nat → AV} {h : List HObj} {ops : Array Oper} {rest : List Oper}
theorem wFreezeC {c : Code} (i t : Nat) {g : Nat} {T : TypeId} {cs : List AV} (hi : h[i]? = some (.cells g T cs)) (ht : f t = .x (.pointer (some ⟨g, 0, none⟩))) (kk : W P C c Q ⟨upd f t (.ip cs), h.set i .dead⟩) : W P C c Q ⟨f, h⟩ :=
  ⟨fun a w hs => kk.run a w (st_freezeC (s := ⟨f, h⟩) hi ht hs)⟩
end
section
variable {P : Program} {K : Prop} {N : Nat} {X : Nat → Prop} {h : List HObj} {f : Nat → AV} {o : Oper}
theorem p_indexAddr_arr_ip {t e : TypeId} {x y : Operand} {n i k : Nat} {b : Bool} {ik : IntKind} {z : Int} {cs : List AV} (ho : o.op = .indexAddr t x y) (hx : evalT f x = .ip cs) (ht : P.underlying t = some (.array n e)) (he : tyOf P e = some (b, k))
    (hy : evalT f y = .x (.int ik z)) (hz : z = (i : Int)) (hi : i < n) : PureOp P K N X h f o (.ip (cs.drop (i * k))) := pure_run fun a w w0 env H => by
  rw [ho] at H
  have h1 := H x (by simp [Op.operands])
  have h2 := H y (by simp [Op.operands])
  rw [hx] at h1
  rw [hy, rep_x] at h2
  simp only [Rep] at h1
  obtain ⟨ad, e1, h3, h4, hc⟩ := h1
  subst hz
  refine ⟨.pointer (some (ad.add (i * k))), ?_, ?_⟩
  · simp only [execOp, ho, e1, h2, Instr.indexAt, asIntOf, Sem.run_bind, Sem.run_pure, Result.andThen_ok, run_underlying ht, Instr.sureAddr]
    have : (0 : Int) ≤ (i : Int) ∧ (i : Int) < (n : Int) := by omega
    simp [this, run_sizeOf_ he, hi]
  · simp only [Rep]
    refine ⟨_, rfl, by rw [block_of_add]; exact h3, by rw [block_of_add]; exact h4, ?_⟩
    have := hc.drop (i * k)
    have e : (fun j => w.cell? ((ad.add (i * k)).add j)) = (fun j => w.cell? (ad.add (i * k + j))) := funext fun j => by rw [add_of_add]
    rw [e]; exact this
theorem pLdI {t : TypeId} {x : Operand} {cs : List AV} {k : Nat} (ho : o.op = .load t x) (hx : evalT f x = .ip cs) (ht : tyOf P t = some (true, k)) (hl : cs.length = k) : PureOp P K N X h f o (.agg cs) :=
  p_load_ip ho hx ht (.inl ⟨rfl, Nat.le_of_eq hl.symm, by rw [List.take_of_length_le (Nat.le_of_eq hl)]⟩)
theorem pLdI1 {t : TypeId} {x : Operand} {cs : List AV} {c : AV} (ho : o.op = .load t x) (hx : evalT f x = .ip cs) (ht : tyOf P t = some (false, 1)) (hc : cs[0]? = some c) : PureOp P K N X h f o c := p_load_ip ho hx ht (.inr ⟨rfl, hc⟩)
theorem pLdIk {t : TypeId} {x : Operand} {cs res : List AV} {k : Nat} (ho : o.op = .load t x) (hx : evalT f x = .ip cs) (ht : tyOf P t = some (true, k)) (hl : k ≤ cs.length) (hr : cs.take k = res) : PureOp P K N X h f o (.agg res) :=
  p_load_ip ho hx ht (.inl ⟨rfl, hl, by rw [hr]⟩)
end
end Go.Proofs.Ytmhkalalcmkpbaa

namespace Go.Proofs.Ytmhkalalcmkpbaa
open Go
theorem ty169 : tyOf Try.prog 169 = some (false, 1) := by kernel_rfl
theorem ze169 : tyZero Try.prog 169 = some [.nilFunc] := by kernel_rfl
theorem ro169 : rowOf Try.prog 169 = some (1, 8) := by kernel_rfl
end Go.Proofs.Ytmhkalalcmkpbaa

namespace Go.Proofs.Ytmhkalalcmkpbaa
open Go Go.RowKit
set_option linter.unusedVariables false
set_option linter.unusedSimpArgs false

theorem lssq_t {a b : Int} (h : a < b) : icmp .lss a b = some true := congrArg some (decide_eq_true h)
theorem lssq_f {a b : Int} (h : ¬ a < b) : icmp .lss a b = some false := congrArg some (decide_eq_false h)
def hasFn (c : CtxT) : AV := .fn 123 [.ip (encCt c)]
def putFn (c : CtxT) (g : Nat) : AV := .fn 124 [.ip [hasFn c], .x (.pointer (some ⟨g, 0, none⟩))]
def outC (g : Nat) (v : Value) : HObj := .cells g 27 [.x v]
def PutR (g : Nat) (l : List (Int × Int)) (av : AV) (h' : List HObj) : Prop := av = .tup [] ∧ ∃ v', h' = [outC g v', DotS.factRow v' l]
theorem PutR.two {g : Nat} {l : List (Int × Int)} {av : AV} {h' : List HObj} (h : PutR g l av h') : ∃ p q, h' = [p, q] := by obtain ⟨_, v, h⟩ := h; exact ⟨_, _, h⟩
theorem PutR.pq {g : Nat} {l : List (Int × Int)} {av : AV} {p q : HObj} (h : PutR g l av [p, q]) : av = .tup [] ∧ ∃ v', p = outC g v' ∧ q = DotS.factRow v' l := by
  obtain ⟨h1, v, h2⟩ := h
  simp only [List.cons.injEq, and_true] at h2
  exact ⟨h1, v, h2.1, h2.2⟩
theorem push_cases (c : CtxT) (l : List (Int × Int)) (d : Int × Int) : (hasC c d = true ∧ (!hasC c d && decide ((l.length : Int) < 4096)) = false ∧ pushL c l d = l) ∨ (hasC c d = false ∧ (l.length : Int) < 4096 ∧ (!hasC c d && decide ((l.length : Int) < 4096)) = true ∧ pushL c l d = l ++ [d]) ∨ (hasC c d = false ∧ ¬ (l.length : Int) < 4096 ∧ (!hasC c d && decide ((l.length : Int) < 4096)) = false ∧ pushL c l d = l) := by
  unfold pushL
  cases h : hasC c d with
  | true => exact .inl ⟨rfl, rfl, by simp⟩
  | false =>
    by_cases h2 : (l.length : Int) < 4096
    · exact .inr (.inl ⟨rfl, h2, by rw [decide_eq_true h2]; rfl, if_pos ⟨rfl, by omega⟩⟩)
    · exact .inr (.inr ⟨rfl, h2, by rw [decide_eq_false h2]; rfl, if_neg fun g => h2 (by omega)⟩)
theorem push_len (c : CtxT) (l : List (Int × Int)) (d : Int × Int) (h : l.length ≤ 4096) : (pushL c l d).length ≤ 4096 := by
  unfold pushL
  split
  · rename_i g; rw [List.length_append]; have := g.2; simp only [List.length_singleton]; omega
  · exact h

set_option maxRecDepth 100000 in
theorem has1_p (c : CtxT) (d : Int × Int) (hv : c.1.length = 16) (hn : c.2.length < 1000000) : PFn Try.prog False 123 [dA d, .ip (encCt c)] (bA (hasC c d)) := by
  refine pfn Try.func123 rfl (by kernel_rfl) 7 rfl _ rfl (Nat.le_of_ble_eq_true rfl) (fun X w0 => ?_)
  refine wSeq ?_
  refine wReg ?_
  refine sBox rfl rfl rfl rfl rfl (fun g2 => ?_)
  refine sP rfl rfl rfl (pA rfl rfl) ?_
  refine lNil ?_
  refine wSeq ?_
  refine wReg ?_
  refine sP rfl rfl rfl (pLdI rfl rfl ty55 (ctx_len' hv)) ?_
  refine sP rfl rfl rfl (pLdW 0 rfl rfl rfl ty23 rfl) ?_
  refine sP rfl rfl rfl (p_call rfl (chas_p c d hv hn) ⟨Sub.refl, Sub.refl, trivial⟩) ?_
  refine sP rfl rfl rfl (pA rfl rfl) ?_
  refine lNil ?_
  refine wRet ?_
  exact rgs1 (rg_tmp (gives_sub (Sub.of_eq (rfl))))
theorem has1_is {c : CtxT} {d : Int × Int} {b : Bool} (hv : c.1.length = 16) (hn : c.2.length < 1000000) (h : hasC c d = b) : PFn Try.prog False 123 [dA d, .ip (encCt c)] (bA b) := h ▸ has1_p c d hv hn

set_option maxRecDepth 100000 in
theorem put_m (c : CtxT) (d : Int × Int) (l : List (Int × Int)) (g : Nat) (v : Value) (hv : c.1.length = 16) (hn : c.2.length < 1000000) (hl : l.length ≤ 4096) : MFn Try.prog False 124 [dA d, .ip [hasFn c], .x (.pointer (some ⟨g, 0, none⟩))] [outC g v, DotS.factRow v l] (PutR g (pushL c l d)) := by
  refine mfn Try.func124 rfl (by kernel_rfl) 17 rfl _ rfl (Nat.le_of_ble_eq_true rfl) (fun X w0 => ?_)
  have hpu : (!hasC c d && decide ((l.length : Int) < 4096)) = true → pushL c l d = l ++ [d] := fun h => by
    rcases push_cases c l d with ⟨_, e, _⟩ | ⟨_, _, _, e⟩ | ⟨_, _, e, _⟩
    · rw [e] at h; cases h
    · exact e
    · rw [e] at h; cases h
  have hpn : (!hasC c d && decide ((l.length : Int) < 4096)) = false → pushL c l d = l := fun h => by
    rcases push_cases c l d with ⟨_, _, e⟩ | ⟨_, _, e, _⟩ | ⟨_, _, _, e⟩
    · exact e
    · rw [e] at h; cases h
    · exact e
  refine wSeq ?_
  refine wReg ?_
  refine sBox rfl rfl rfl rfl rfl (fun g3 => ?_)
  refine lNil ?_
  refine wCut (fun L h => ∃ b : Bool, b = (!hasC c d && decide ((l.length : Int) < 4096)) ∧ L = [(2, .x (.pointer (some ⟨g, 0, none⟩))), (3, .x (.pointer (some ⟨g3, 0, none⟩))), (12, bA b)] ∧ h = [outC g v, DotS.factRow v l, .cells g3 23 (encA d)]) ?_ ?_
  · rcases push_cases c l d with ⟨e1, hbv, _⟩ | ⟨e1, e2, hbv, _⟩ | ⟨e1, e2, hbv, _⟩
    · refine wReg ?_
      refine sP rfl rfl rfl (pLd1 rfl rfl ty169) ?_
      refine sP rfl rfl rfl (pLdW 2 rfl rfl rfl ty23 rfl) ?_
      refine sP rfl rfl rfl (p_callf rfl rfl (has1_is hv hn e1) ⟨Sub.refl, Sub.refl, trivial⟩) ?_
      refine sP rfl rfl rfl (p_not rfl rfl) ?_
      refine sP rfl rfl rfl (pM rfl rfl) ?_
      refine sUx rfl rfl rfl (by decide) rfl rfl ?_
      refine sUx rfl rfl rfl (by decide) rfl rfl ?_
      refine sUx rfl rfl rfl (by decide) rfl rfl ?_
      refine sP rfl rfl rfl (p_pick rfl rfl rfl) ?_
      refine lNil ?_
      exact ⟨_, [outC g v, DotS.factRow v l, .cells g3 23 (encA d)], _, ⟨_, (by exact hbv.symm), rfl, rfl⟩, ⟨rfl, rfl, rfl, trivial⟩, rfl⟩
    · refine wReg ?_
      refine sP rfl rfl rfl (pLd1 rfl rfl ty169) ?_
      refine sP rfl rfl rfl (pLdW 2 rfl rfl rfl ty23 rfl) ?_
      refine sP rfl rfl rfl (p_callf rfl rfl (has1_is hv hn e1) ⟨Sub.refl, Sub.refl, trivial⟩) ?_
      refine sP rfl rfl rfl (p_not rfl rfl) ?_
      refine sP rfl rfl rfl (pM rfl rfl) ?_
      refine sG rfl rfl rfl rfl rfl (pLdO1 0 rfl rfl rfl ty27 rfl) ?_
      refine sG rfl rfl rfl rfl rfl (p_len_row rfl rfl (List.mem_of_getElem? (i := 1) rfl) Try.underlying27) ?_
      refine sG rfl rfl rfl rfl rfl (p_icmp rfl rfl rfl (lssq_t e2)) ?_
      refine sP rfl rfl rfl (p_pick rfl rfl rfl) ?_
      refine lNil ?_
      exact ⟨_, [outC g v, DotS.factRow v l, .cells g3 23 (encA d)], _, ⟨_, (by exact hbv.symm), rfl, rfl⟩, ⟨rfl, rfl, rfl, trivial⟩, rfl⟩
    · refine wReg ?_
      refine sP rfl rfl rfl (pLd1 rfl rfl ty169) ?_
      refine sP rfl rfl rfl (pLdW 2 rfl rfl rfl ty23 rfl) ?_
      refine sP rfl rfl rfl (p_callf rfl rfl (has1_is hv hn e1) ⟨Sub.refl, Sub.refl, trivial⟩) ?_
      refine sP rfl rfl rfl (p_not rfl rfl) ?_
      refine sP rfl rfl rfl (pM rfl rfl) ?_
      refine sG rfl rfl rfl rfl rfl (pLdO1 0 rfl rfl rfl ty27 rfl) ?_
      refine sG rfl rfl rfl rfl rfl (p_len_row rfl rfl (List.mem_of_getElem? (i := 1) rfl) Try.underlying27) ?_
      refine sG rfl rfl rfl rfl rfl (p_icmp rfl rfl rfl (lssq_f e2)) ?_
      refine sP rfl rfl rfl (p_pick rfl rfl rfl) ?_
      refine lNil ?_
      exact ⟨_, [outC g v, DotS.factRow v l, .cells g3 23 (encA d)], _, ⟨_, (by exact hbv.symm), rfl, rfl⟩, ⟨rfl, rfl, rfl, trivial⟩, rfl⟩
  · rintro L h ⟨b, hb, rfl, rfl⟩
    refine wCond rfl (fun hc1 => ?_) (fun hc1 => ?_)
    · refine wReg ?_
      refine sP rfl rfl rfl (pLdO1 0 rfl rfl rfl ty27 rfl) ?_
      refine sP rfl rfl rfl (pLdW 2 rfl rfl rfl ty23 rfl) ?_
      refine sP rfl rfl rfl (p_buildSlice (res := [d].flatMap encA) rfl ze23 Try.underlying27 ty23 (by decide) (by decide) rfl rfl rfl) ?_
      refine sAppendL (enc := encA) (l := l) 1 [d] rfl rfl rfl rfl Try.underlying27 ro23 rfl rfl rfl (fun _ => rfl) (by rw [List.length_singleton]; omega) (by rw [List.length_singleton]; omega) (fun v16 => ?_)
      refine sStoreRow 0 1 rfl rfl rfl rfl rfl rfl ty27 rfl (Nat.le_of_ble_eq_true rfl) ?_
      refine lNil ?_
      exact ⟨_, [outC g v16, DotS.factRow v16 (l ++ [d])], _, rfl, ⟨rfl, v16, by rw [show pushL c l d = l ++ [d] from hpu (hb.symm.trans hc1)]⟩, rgm_none⟩
    · refine wSkip ?_
      exact ⟨_, [outC g v, DotS.factRow v l], _, rfl, ⟨rfl, v, by rw [show pushL c l d = l from hpn (hb.symm.trans hc1)]⟩, rgm_none⟩

theorem range_exit (A : CtxT) (P : List (Int × Int)) (i : Nat) {lo hi n : Int} (h0 : lo ≤ n) (h1 : n ≤ hi + 1 ∨ n = lo) (h : ¬ (n ≤ hi ∧ (lackT A (P ++ (rangeI lo (n - 1)).map fun n => ((i : Int), n))).length < 4096)) :
    lackT A (P ++ (rangeI lo (n - 1)).map fun n => ((i : Int), n)) = lackT A (P ++ (rangeI lo hi).map fun n => ((i : Int), n)) := by
  by_cases g : n ≤ hi
  · have hl : ¬ (lackT A (P ++ (rangeI lo (n - 1)).map fun n => ((i : Int), n))).length < 4096 := fun k => h ⟨g, k⟩
    have e : ∀ k : Nat, ∃ q, rangeI lo (n - 1 + k) = rangeI lo (n - 1) ++ q := by
      intro k
      induction k with
      | zero => exact ⟨[], by simp⟩
      | succ k ih =>
        obtain ⟨q, hq⟩ := ih
        refine ⟨q ++ [n - 1 + k + 1], ?_⟩
        rw [← List.append_assoc, ← hq, show n - 1 + ((k + 1 : Nat) : Int) = n - 1 + (k : Int) + 1 by omega]
        exact rangeI_snoc (by omega)
    obtain ⟨q, hq⟩ := e (hi - (n - 1)).toNat
    rw [show n - 1 + ((hi - (n - 1)).toNat : Int) = hi by omega] at hq
    rw [hq, List.map_append, ← List.append_assoc, lackT_full hl]
  · rcases h1 with h1 | h1
    · rw [show n - 1 = hi by omega]
    · subst h1
      rw [rangeI_nil (by omega), rangeI_nil (by omega)]
theorem range_next {lo n : Int} {i : Nat} (h : lo ≤ n) : ((rangeI lo (n - 1)).map fun n => ((i : Int), n)) ++ [((i : Int), n)] = (rangeI lo (n + 1 - 1)).map fun n => ((i : Int), n) := by
  rw [show n + 1 - 1 = n - 1 + 1 by omega, rangeI_snoc (by omega), List.map_append, show n - 1 + 1 = n by omega]; rfl
theorem ip_at {v : List Int} {a : AV} {i : Nat} {x : Int} (h : v[i]? = some x) : (((iL v ++ [a]).drop 0).drop (i * 1))[0]? = some (iA x) := by
  rw [List.drop_zero, List.getElem?_drop, Nat.add_zero]
  have := ctx_at (a := a) h
  rwa [Nat.zero_add] at this
theorem ip_C {v : List Int} {a : AV} (h : v.length = 16) : ((iL v ++ [a]).drop 16)[0]? = some a := by
  rw [List.getElem?_drop, Nat.add_zero]; exact ctx_C h
def moreN (n hi : Int) (l : List (Int × Int)) : Bool := decide (n ≤ hi) && decide ((l.length : Int) < 4096)
theorem more_yes {n hi : Int} {l : List (Int × Int)} (h : moreN n hi l = true) : n ≤ hi ∧ l.length < 4096 := by
  unfold moreN at h
  rw [Bool.and_eq_true, decide_eq_true_eq, decide_eq_true_eq] at h
  omega
theorem more_no {n hi : Int} {l : List (Int × Int)} (h : moreN n hi l = false) : ¬ (n ≤ hi ∧ l.length < 4096) := fun g => by
  unfold moreN at h
  rw [decide_eq_true g.1, decide_eq_true (by omega : (l.length : Int) < 4096)] at h
  cases h

set_option maxHeartbeats 1000000 in
set_option maxRecDepth 100000 in
theorem cmiss_p (y z : CtxT) (ha : y.1.length = 16) (hb0 : z.1.length = 16) (ha2 : y.2.length < 1000000) (hb2 : z.2.length < 1000000) : PFn Try.prog False 58 [ctA y, ctA z] (slD (missF y z)) := by
  refine pfn Try.func58 rfl (by kernel_rfl) 61 rfl _ rfl (Nat.le_of_ble_eq_true rfl) (fun X w0 => ?_)
  have hca := (clean_F ha).len
  have hcb := (clean_F hb0).len
  have hla := clean_len y
  have hlb := clean_len z
  refine wSeq ?_
  refine wReg ?_
  refine sBox rfl rfl rfl rfl rfl (fun g2 => ?_)
  refine sBox rfl rfl rfl rfl rfl (fun g3 => ?_)
  refine sP rfl rfl rfl (pA rfl rfl) ?_
  refine lNil ?_
  refine wSeq ?_
  refine wDrawM 4 (by kernel_rfl) (by kernel_rfl) (fun _ => [.cells g2 55 (encCt y), .cells g3 55 (encCt z)]) [] (by kernel_rfl) rfl (fun m _ => rfl) ?_
  refine dwP rfl rfl rfl rfl rfl (fun k al => (pLdW 0 rfl rfl rfl ty55 (ctx_len ha))) ?_
  refine dwP rfl rfl rfl rfl rfl (fun k al => (p_call rfl (cclean_p y ha ha2) ⟨Sub.refl, trivial⟩)) ?_
  refine dwP rfl rfl rfl rfl rfl (fun k al => (pLdW 1 rfl rfl rfl ty55 (ctx_len hb0))) ?_
  refine dwP rfl rfl rfl rfl rfl (fun k al => (p_call rfl (cclean_p z hb0 hb2) ⟨Sub.refl, trivial⟩)) ?_
  refine dwNil ?_
  refine sStore 0 rfl rfl rfl rfl rfl ty55 rfl (ctx_ones' hca) (ctx_len' hca) (by show 0 + 17 ≤ _; rw [ctx_len' ha]; exact Nat.le_refl _) ?_
  refine sStore 1 rfl rfl rfl rfl rfl ty55 rfl (ctx_ones' hcb) (ctx_len' hcb) (by show 0 + 17 ≤ _; rw [ctx_len' hb0]; exact Nat.le_refl _) ?_
  refine lNil ?_
  refine wKeep [(2, .x (.pointer (some ⟨g2, 0, none⟩))), (3, .x (.pointer (some ⟨g3, 0, none⟩)))] [.cells g2 55 (encCt (cleanF y)), .cells g3 55 (encCt (cleanF z))] [] ⟨rfl, rfl, trivial⟩ (by
    have e1 : spl (encCt y) 0 (encCt (cleanF y)) = encCt (cleanF y) := ctx_spl (ctx_len' ha) (ctx_len' hca)
    have e2 : spl (encCt z) 0 (encCt (cleanF z)) = encCt (cleanF z) := ctx_spl (ctx_len' hb0) (ctx_len' hcb)
    show [HObj.cells g2 _ (spl (encCt y) 0 (encCt (cleanF y))), HObj.cells g3 _ (spl (encCt z) 0 (encCt (cleanF z)))] = _
    rw [e1, e2]
    rfl) ?_
  refine wFreezeC 0 2 rfl rfl ?_
  refine wFreezeC 1 3 rfl rfl ?_
  refine wSeq ?_
  refine wReg ?_
  refine sP rfl rfl rfl (p_makeFn rfl rfl (SubL.refl _)) ?_
  refine sAlloc rfl rfl rfl rfl ze169 (fun g5 => ?_)
  refine sStore1 2 rfl rfl rfl rfl rfl ty169 rfl rfl (Nat.le_of_ble_eq_true rfl) ?_
  refine lNil ?_
  refine wFreezeC 2 5 rfl rfl ?_
  refine wSeq ?_
  refine wReg ?_
  refine sAlloc rfl rfl rfl rfl ze27 (fun g6 => ?_)
  refine lNil ?_
  refine wSeq ?_
  refine wReg ?_
  refine sP rfl rfl rfl (p_makeFn rfl rfl (SubL.refl _)) ?_
  refine sP rfl rfl rfl (pAf rfl rfl) ?_
  refine lNil ?_
  refine wNilrow 23 2 ?_
  refine wPerm [outC g6 (.slice none 0 0), DotS.factRow (.slice none 0 0) [], .dead, .dead, .dead] (List.perm_append_comm (l₁ := ([.dead, .dead, .dead] : List HObj)) (l₂ := [outC g6 (.slice none 0 0), DotS.factRow (.slice none 0 0) []])) ?_
  refine wSeq ?_
  refine wSeq ?_
  refine wReg ?_
  refine sP rfl rfl rfl (pM rfl rfl) ?_
  refine lNil ?_
  refine wBlock ?_
  refine wLoop (fun mm L h => ∃ i v, mm = 16 - i ∧ i ≤ 16 ∧ L = [(2, .ip (encCt (cleanF y))), (3, .ip (encCt (cleanF z))), (6, .x (.pointer (some ⟨g6, 0, none⟩))), (7, putFn (cleanF y) g6), (18, iA (i : Nat))] ∧ h = [outC g6 v, DotS.factRow v (lackT (cleanF y) (allC (cleanF y) (cleanF z) i))]) ⟨_, _, [outC g6 (.slice none 0 0), DotS.factRow (.slice none 0 0) []], _, ⟨0, .slice none 0 0, rfl, Nat.zero_le _, rfl, rfl⟩, ⟨rfl, rfl, rfl, rfl, rfl, trivial⟩, rfl⟩ ?_
  rintro mm L h ⟨i, v, rfl, hi, rfl, rfl⟩
  refine wSeq ?_
  refine wReg ?_
  refine sP rfl rfl rfl (p_icmp rfl rfl rfl rfl) ?_
  refine lNil ?_
  refine wSeq ?_
  refine wCond rfl (fun hc1 => ?_) (fun hc1 => ?_)
  · have hi16 : i < 16 := by have h := hc1; simp at h; omega
    have hxa : (cleanF y).1[i]? = some (vget (cleanF y).1 i) := vget_at (r := (i : Int)) hca (by omega) (by omega)
    have hxb : (cleanF z).1[i]? = some (vget (cleanF z).1 i) := vget_at (r := (i : Int)) hcb (by omega) (by omega)
    have hra := (clean_F ha).at_ i
    have hrb := (clean_F hb0).at_ i
    refine wSkip ?_
    refine wSeq ?_
    refine wBlock ?_
    refine wSeq ?_
    refine wReg ?_
    refine sP rfl rfl rfl (pM rfl rfl) ?_
    refine sP rfl rfl rfl (pA rfl rfl) ?_
    refine lNil ?_
    refine wSeq ?_
    refine wSeq ?_
    refine wReg ?_
    refine sP rfl rfl rfl (pM rfl rfl) ?_
    refine sP rfl rfl rfl (p_fieldAddr_ip rfl rfl fl55_0 ty53 (by decide)) ?_
    refine sP rfl rfl rfl (p_indexAddr_arr_ip rfl rfl Try.underlying53 ty3 rfl (i := i) rfl hi16) ?_
    refine sP rfl rfl rfl (pLdI1 rfl rfl ty3 (ip_at hxa)) ?_
    refine sP rfl rfl rfl (p_iar rfl rfl rfl (by show some _ = some _; rw [wrapI (by omega) (by omega)])) ?_
    refine sP rfl rfl rfl (pA rfl rfl) ?_
    refine lNil ?_
    refine wBlock ?_
    refine wLoop (fun mm L h => ∃ n v, mm = (vget (cleanF z).1 i + 1 - n).toNat ∧ vget (cleanF y).1 i + 1 ≤ n ∧ (n ≤ vget (cleanF z).1 i + 1 ∨ n = vget (cleanF y).1 i + 1) ∧ L = [(2, .ip (encCt (cleanF y))), (3, .ip (encCt (cleanF z))), (6, .x (.pointer (some ⟨g6, 0, none⟩))), (7, putFn (cleanF y) g6), (8, iA (i : Nat)), (9, iA n), (18, iA (i : Nat))] ∧ h = [outC g6 v, DotS.factRow v (lackT (cleanF y) ((allC (cleanF y) (cleanF z) i) ++ ((rangeI (vget (cleanF y).1 i + 1) (n - 1)).map fun n => ((i : Int), n))))]) ⟨_, _, [outC g6 v, DotS.factRow v (lackT (cleanF y) (allC (cleanF y) (cleanF z) i))], _, ⟨vget (cleanF y).1 i + 1, v, rfl, Int.le_refl _, .inr rfl, rfl, by rw [rangeI_nil (by omega), List.map_nil, List.append_nil]⟩, ⟨rfl, rfl, rfl, rfl, rfl, rfl, rfl, trivial⟩, rfl⟩ ?_
    rintro mm L h ⟨n, v, rfl, hn1, hn2, rfl, rfl⟩
    refine wSeq ?_
    refine wCut (fun L h => ∃ b : Bool, b = (moreN n (vget (cleanF z).1 i) (lackT (cleanF y) ((allC (cleanF y) (cleanF z) i) ++ ((rangeI (vget (cleanF y).1 i + 1) (n - 1)).map fun n => ((i : Int), n))))) ∧ L = [(2, .ip (encCt (cleanF y))), (3, .ip (encCt (cleanF z))), (6, .x (.pointer (some ⟨g6, 0, none⟩))), (7, putFn (cleanF y) g6), (8, iA (i : Nat)), (9, iA n), (18, iA (i : Nat)), (36, bA b)] ∧ h = [outC g6 v, DotS.factRow v (lackT (cleanF y) ((allC (cleanF y) (cleanF z) i) ++ ((rangeI (vget (cleanF y).1 i + 1) (n - 1)).map fun n => ((i : Int), n))))]) ?_ ?_
    · cases hb : (decide (n ≤ vget (cleanF z).1 i)) with
      | true =>
        refine wReg ?_
        refine sP rfl rfl rfl (pM rfl rfl) ?_
        refine sP rfl rfl rfl (pM rfl rfl) ?_
        refine sP rfl rfl rfl (p_fieldAddr_ip rfl rfl fl55_0 ty53 (by decide)) ?_
        refine sP rfl rfl rfl (p_indexAddr_arr_ip rfl rfl Try.underlying53 ty3 rfl (i := i) rfl hi16) ?_
        refine sP rfl rfl rfl (pLdI1 rfl rfl ty3 (ip_at hxb)) ?_
        refine sP rfl rfl rfl (p_icmp rfl rfl rfl (congrArg some hb)) ?_
        refine sP rfl rfl rfl (pM rfl rfl) ?_
        refine sG rfl rfl rfl rfl rfl (pLdO1 0 rfl rfl rfl ty27 rfl) ?_
        refine sG rfl rfl rfl rfl rfl (p_len_row rfl rfl (List.mem_of_getElem? (i := 1) rfl) Try.underlying27) ?_
        refine sG rfl rfl rfl rfl rfl (p_icmp rfl rfl rfl rfl) ?_
        refine sP rfl rfl rfl (p_pick rfl rfl rfl) ?_
        refine lNil ?_
        exact ⟨_, [outC g6 v, DotS.factRow v (lackT (cleanF y) ((allC (cleanF y) (cleanF z) i) ++ ((rangeI (vget (cleanF y).1 i + 1) (n - 1)).map fun n => ((i : Int), n))))], [], ⟨_, (by exact (by unfold moreN; rw [hb]; rfl)), rfl, rfl⟩, ⟨rfl, rfl, rfl, rfl, rfl, rfl, rfl, rfl, trivial⟩, rfl⟩
      | false =>
        refine wReg ?_
        refine sP rfl rfl rfl (pM rfl rfl) ?_
        refine sP rfl rfl rfl (pM rfl rfl) ?_
        refine sP rfl rfl rfl (p_fieldAddr_ip rfl rfl fl55_0 ty53 (by decide)) ?_
        refine sP rfl rfl rfl (p_indexAddr_arr_ip rfl rfl Try.underlying53 ty3 rfl (i := i) rfl hi16) ?_
        refine sP rfl rfl rfl (pLdI1 rfl rfl ty3 (ip_at hxb)) ?_
        refine sP rfl rfl rfl (p_icmp rfl rfl rfl (congrArg some hb)) ?_
        refine sP rfl rfl rfl (pM rfl rfl) ?_
        refine sU rfl rfl rfl (by decide) rfl rfl ?_
        refine sU rfl rfl rfl (by decide) rfl rfl ?_
        refine sU rfl rfl rfl (by decide) rfl rfl ?_
        refine sP rfl rfl rfl (p_pick rfl rfl rfl) ?_
        refine lNil ?_
        exact ⟨_, [outC g6 v, DotS.factRow v (lackT (cleanF y) ((allC (cleanF y) (cleanF z) i) ++ ((rangeI (vget (cleanF y).1 i + 1) (n - 1)).map fun n => ((i : Int), n))))], [], ⟨_, (by exact (by unfold moreN; rw [hb]; rfl)), rfl, rfl⟩, ⟨rfl, rfl, rfl, rfl, rfl, rfl, rfl, rfl, trivial⟩, rfl⟩
    · rintro L h ⟨b, hb, rfl, rfl⟩
      refine wCond rfl (fun hc2 => ?_) (fun hc2 => ?_)
      · obtain ⟨hle, hlt4⟩ := more_yes (hb.symm.trans hc2)
        refine wSkip ?_
        refine wSeq ?_
        refine wBlock ?_
        refine wReg ?_
        refine sP rfl rfl rfl (pMf rfl rfl) ?_
        refine sP rfl rfl rfl (pM rfl rfl) ?_
        refine sP rfl rfl rfl (pM rfl rfl) ?_
        refine sP rfl rfl rfl (p_build (res := [iA (i : Nat), iA n]) rfl ze23 pl23 rfl rfl) ?_
        refine sM2f 0 1 (by decide) rfl rfl rfl rfl rfl (put_m (cleanF y) ((i : Int), n) (lackT (cleanF y) ((allC (cleanF y) (cleanF z) i) ++ ((rangeI (vget (cleanF y).1 i + 1) (n - 1)).map fun n => ((i : Int), n)))) g6 v hca (by omega) (lackT_len _ _)) ⟨Sub.refl, Sub.refl, Sub.refl, trivial⟩ (fun _ _ h => h.two) (fun av q1 q2 hr => ?_)
        obtain ⟨rfl, v2, rfl, rfl⟩ := hr.pq
        refine lNil ?_
        refine wReg ?_
        refine sP rfl rfl rfl (pM rfl rfl) ?_
        refine sP rfl rfl rfl (p_iar rfl rfl rfl rfl) ?_
        refine sP rfl rfl rfl (pA rfl rfl) ?_
        refine lNil ?_
        refine ⟨_, _, [outC g6 v2, DotS.factRow v2 (lackT (cleanF y) ((allC (cleanF y) (cleanF z) i) ++ ((rangeI (vget (cleanF y).1 i + 1) (n + 1 - 1)).map fun n => ((i : Int), n))))], [], ?_, ⟨n + 1, v2, rfl, by omega, .inl (by omega), rfl, rfl⟩, ⟨rfl, rfl, rfl, rfl, rfl, avI (wrapI (by omega) (by omega)), rfl, trivial⟩, ?_⟩
        · omega
        · rw [← range_next hn1, ← List.append_assoc, lackT_push]; rfl
      · have hex := range_exit (cleanF y) (allC (cleanF y) (cleanF z) i) i hn1 hn2 (more_no (hb.symm.trans hc2))
        refine wExit ?_
        refine wSeq ?_
        refine wReg ?_
        refine sP rfl rfl rfl (p_fieldAddr_ip rfl rfl fl55_1 ty27 (by decide)) ?_
        refine sP rfl rfl rfl (pLdI1 rfl rfl ty27 (ip_C hcb)) ?_
        refine sP rfl rfl rfl (p_len_sl rfl rfl Try.underlying27) ?_
        refine sP rfl rfl rfl (pM rfl rfl) ?_
        refine lNil ?_
        refine wBlock ?_
        refine wLoop (fun mm L h => ∃ k v, mm = (cleanF z).2.length - k ∧ k ≤ (cleanF z).2.length ∧ L = [(2, .ip (encCt (cleanF y))), (3, .ip (encCt (cleanF z))), (6, .x (.pointer (some ⟨g6, 0, none⟩))), (7, putFn (cleanF y) g6), (8, iA (i : Nat)), (18, iA (i : Nat)), (45, slD (cleanF z).2), (46, iA (cleanF z).2.length), (47, iA (k : Nat))] ∧ h = [outC g6 v, DotS.factRow v (lackT (cleanF y) ((allC (cleanF y) (cleanF z) i) ++ ((rangeI (vget (cleanF y).1 i + 1) (vget (cleanF z).1 i)).map fun n => ((i : Int), n)) ++ atRep i ((cleanF z).2.take k)))]) ⟨_, _, [outC g6 v, DotS.factRow v (lackT (cleanF y) ((allC (cleanF y) (cleanF z) i) ++ ((rangeI (vget (cleanF y).1 i + 1) (n - 1)).map fun n => ((i : Int), n))))], _, ⟨0, v, rfl, Nat.zero_le _, rfl, by rw [show atRep i ((cleanF z).2.take 0) = [] from rfl, List.append_nil, ← hex]⟩, ⟨rfl, rfl, rfl, rfl, rfl, rfl, rfl, rfl, rfl, trivial⟩, rfl⟩ ?_
        rintro mm L h ⟨k, v, rfl, hk, rfl, rfl⟩
        refine wSeq ?_
        refine wReg ?_
        refine sP rfl rfl rfl (p_icmp rfl rfl rfl rfl) ?_
        refine lNil ?_
        refine wSeq ?_
        refine wCond rfl (fun hc3 => ?_) (fun hc3 => ?_)
        · have hlt : k < (cleanF z).2.length := by simpa using hc3
          obtain ⟨d, hd⟩ := getL hlt
          refine wSkip ?_
          refine wSeq ?_
          refine wBlock ?_
          refine wSeq ?_
          refine wReg ?_
          refine sP rfl rfl rfl (pIdx k rfl rfl Try.underlying27 ty23 (by decide) rfl (fun _ => rfl) rfl rfl hd) ?_
          refine sP rfl rfl rfl (pLdE rfl rfl ty23 rfl) ?_
          refine sAlloc rfl rfl rfl rfl ze23 (fun g11 => ?_)
          refine sStore 2 rfl rfl rfl rfl rfl ty23 rfl rfl rfl (Nat.le_of_ble_eq_true rfl) ?_
          refine lNil ?_
          refine wSeq ?_
          refine wReg ?_
          refine sP rfl rfl rfl (p_fieldAddr_own rfl rfl fl23_0 ty3 (by decide)) ?_
          refine sP rfl rfl rfl (pLdO1 2 rfl rfl rfl ty3 rfl) ?_
          refine sP rfl rfl rfl (pM rfl rfl) ?_
          refine sP rfl rfl rfl (p_icmp rfl rfl rfl rfl) ?_
          refine lNil ?_
          refine wCond rfl (fun hc4 => ?_) (fun hc4 => ?_)
          · refine wReg ?_
            refine sP rfl rfl rfl (pMf rfl rfl) ?_
            refine sP rfl rfl rfl (pLdW 2 rfl rfl rfl ty23 rfl) ?_
            refine sM2f 0 1 (by decide) rfl rfl rfl rfl rfl (put_m (cleanF y) d (lackT (cleanF y) ((allC (cleanF y) (cleanF z) i) ++ ((rangeI (vget (cleanF y).1 i + 1) (vget (cleanF z).1 i)).map fun n => ((i : Int), n)) ++ atRep i ((cleanF z).2.take k))) g6 v hca (by omega) (lackT_len _ _)) ⟨Sub.refl, Sub.refl, Sub.refl, trivial⟩ (fun _ _ h => h.two) (fun av q1 q2 hr => ?_)
            obtain ⟨rfl, v2, rfl, rfl⟩ := hr.pq
            refine lNil ?_
            refine wReg ?_
            refine sP rfl rfl rfl (p_iar rfl rfl rfl rfl) ?_
            refine sP rfl rfl rfl (pM rfl rfl) ?_
            refine lNil ?_
            have hr : d.1 = (i : Int) := by simpa using hc4
            have hat : atRep i ((cleanF z).2.take (k + 1)) = atRep i ((cleanF z).2.take k) ++ [d] := by rw [atRep_take hd, if_pos hr]
            refine ⟨_, _, [outC g6 v2, DotS.factRow v2 (lackT (cleanF y) ((allC (cleanF y) (cleanF z) i) ++ ((rangeI (vget (cleanF y).1 i + 1) (vget (cleanF z).1 i)).map fun n => ((i : Int), n)) ++ atRep i ((cleanF z).2.take (k + 1))))], [.cells g11 23 (encA d)], ?_, ⟨k + 1, v2, rfl, hlt, rfl, rfl⟩, ⟨rfl, rfl, rfl, rfl, rfl, rfl, rfl, rfl, avI (wrapI (by omega) (by omega)), trivial⟩, ?_⟩
            · omega
            · rw [hat, ← List.append_assoc, lackT_push]; rfl
          · refine wSkip ?_
            refine wReg ?_
            refine sP rfl rfl rfl (p_iar rfl rfl rfl rfl) ?_
            refine sP rfl rfl rfl (pM rfl rfl) ?_
            refine lNil ?_
            have hr : ¬ d.1 = (i : Int) := by simpa using hc4
            have hat : atRep i ((cleanF z).2.take (k + 1)) = atRep i ((cleanF z).2.take k) := by rw [atRep_take hd, if_neg hr]
            refine ⟨_, _, [outC g6 v, DotS.factRow v (lackT (cleanF y) ((allC (cleanF y) (cleanF z) i) ++ ((rangeI (vget (cleanF y).1 i + 1) (vget (cleanF z).1 i)).map fun n => ((i : Int), n)) ++ atRep i ((cleanF z).2.take (k + 1))))], [.cells g11 23 (encA d)], ?_, ⟨k + 1, v, rfl, hlt, rfl, rfl⟩, ⟨rfl, rfl, rfl, rfl, rfl, rfl, rfl, rfl, avI (wrapI (by omega) (by omega)), trivial⟩, ?_⟩
            · omega
            · rw [hat]; rfl
        · have hge : k = (cleanF z).2.length := by
            have h : ¬ k < (cleanF z).2.length := by simpa using hc3
            omega
          subst hge
          refine wExit ?_
          refine wReg ?_
          refine sP rfl rfl rfl (p_iar rfl rfl rfl rfl) ?_
          refine sP rfl rfl rfl (pM rfl rfl) ?_
          refine lNil ?_
          have hall : (allC (cleanF y) (cleanF z) i) ++ ((rangeI (vget (cleanF y).1 i + 1) (vget (cleanF z).1 i)).map fun n => ((i : Int), n)) ++ atRep i ((cleanF z).2.take (cleanF z).2.length) = allC (cleanF y) (cleanF z) (i + 1) := by rw [List.take_length, allC_succ, List.append_assoc]; rfl
          refine ⟨_, _, [outC g6 v, DotS.factRow v (lackT (cleanF y) (allC (cleanF y) (cleanF z) (i + 1)))], [], ?_, ⟨i + 1, v, rfl, hi16, rfl, rfl⟩, ⟨rfl, rfl, rfl, rfl, avI (wrapI (by omega) (by omega)), trivial⟩, ?_⟩
          · omega
          · rw [← hall]; rfl
  · have hge : i = 16 := by have h := hc1; simp at h; omega
    subst hge
    refine wExit ?_
    refine wSeq ?_
    refine wReg ?_
    refine sP rfl rfl rfl (pLdO1 0 rfl rfl rfl ty27 rfl) ?_
    refine sP rfl rfl rfl (pA rfl rfl) ?_
    refine lNil ?_
    refine wRet ?_
    exact rgs1 (rg_tmp (gives_row (List.mem_of_getElem? (i := 1) rfl)))
end Go.Proofs.Ytmhkalalcmkpbaa
