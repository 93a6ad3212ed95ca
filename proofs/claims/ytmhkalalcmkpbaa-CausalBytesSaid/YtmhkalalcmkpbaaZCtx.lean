/-
  Dcomp Dlay Dsort BTC Cat Vec BTV Vec1 Vec2 ReadF LfrB Ctx
-/
import Derived.Test.YtmhkalalcmkpbaaZBT2
import Derived.Test.YtmhkalalcmkpbaaZC5
import Derived.Test.YtmhkalalcmkpbaaZC6
import Derived.Test.YtmhkalalcmkpbaaZC7
import Derived.Test.YtmhkalalcmkpbaaZC9
import Derived.Test.YtmhkalalcmkpbaaZCau3
import Derived.Test.YtmhkalalcmkpbaaZDel1
import Derived.Test.YtmhkalalcmkpbaaZDw
import Derived.Test.YtmhkalalcmkpbaaZFlay
import Derived.Test.YtmhkalalcmkpbaaZFrb
import Derived.Test.YtmhkalalcmkpbaaZLfoB
import Derived.Test.YtmhkalalcmkpbaaZOrdC
import Derived.Test.YtmhkalalcmkpbaaZReadD
import Derived.Shelf.SlSortCmp.WholeK
import Derived.Shelf.SlSortCmp.NoneTotal
import Derived.Shelf.Spec.SlicesGrow
import Derived.ChangeKeysEq
namespace Go.Proofs.Ytmhkalalcmkpbaa.DotS
open Go Go.RowKit
set_option linter.unusedVariables false
set_option linter.unusedSimpArgs false

theorem encF8 (x : (Int × Int)) : (encA x).length = 2 := rfl
theorem fAt {l : List (Int × Int)} {rest : List AV} {i off : Nat} {x : (Int × Int)} (h : l[i]? = some x) (ho : off = i * 2) : ((l.flatMap encA ++ rest).drop off).take 2 = encA x := by
  subst ho; exact flat_at encF8 h
theorem fLen (l : List (Int × Int)) (rest : List AV) : (l.flatMap encA ++ rest).length = l.length * 2 + rest.length := by rw [List.length_append, flat_len_ encF8]
theorem fLe {l : List (Int × Int)} {rest : List AV} {i off : Nat} (h : i < l.length) (ho : off = i * 2) : off + 2 ≤ (l.flatMap encA ++ rest).length := by rw [fLen]; omega
theorem fRow {m : List (Int × Int)} {l : List (Int × Int)} {rest tail : List AV} {kk : Nat} (hm : m.take kk = l) (hk : kk ≤ m.length) : ((m.flatMap encA ++ rest).take (0 + kk * 2) ++ tail).take (kk * 2) = l.flatMap encA := by
  have e : (m.flatMap encA ++ rest).take (0 + kk * 2) = l.flatMap encA := by
    rw [Nat.zero_add, List.take_append_of_le_length (by rw [flat_len_ encF8]; exact Nat.mul_le_mul_right 2 hk), flat_take_ encF8, hm]
  have e2 : (l.flatMap encA).length = kk * 2 := by rw [flat_len_ encF8, ← hm, List.length_take, Nat.min_eq_left hk]
  rw [e, List.take_append_of_le_length (by omega), List.take_of_length_le (by omega)]
theorem fRowAll (l : List (Int × Int)) (rest : List AV) : (l.flatMap encA ++ rest).take (l.length * 2) = l.flatMap encA := by
  have e2 : (l.flatMap encA).length = l.length * 2 := flat_len_ encF8 l
  rw [← e2, List.take_left]
def factRow (v : Value) (l : List (Int × Int)) : HObj := .row v 23 2 l.length (l.flatMap encA)
def CmR (l : List (Int × Int)) (av : AV) (h' : List HObj) : Prop := ∃ v', av = .x v' ∧ h' = [factRow v' l]

set_option maxHeartbeats 1000000 in
set_option maxRecDepth 100000 in
theorem fcomp_m {K : Prop} (v : Value) (l : List (Int × Int)) (hn : l.length < 1000000) : MFn Try.prog K 152 [.x v] [factRow v l] (CmR (compact l)) := by
  refine mfn Try.func152 rfl (by kernel_rfl) 61 rfl _ rfl (Nat.le_of_ble_eq_true rfl) (fun X w0 => ?_)
  refine wSeq ?_
  refine wReg ?_
  refine sP rfl rfl rfl (pA rfl rfl) ?_
  refine lNil ?_
  refine wSeq ?_
  refine wSeq ?_
  refine wReg ?_
  refine sP rfl rfl rfl (pM rfl rfl) ?_
  refine sP rfl rfl rfl (p_len_row rfl rfl (List.mem_of_getElem? (i := 0) rfl) Try.underlying27) ?_
  refine sP rfl rfl rfl (p_icmp rfl rfl rfl rfl) ?_
  refine lNil ?_
  refine wCond rfl (fun hc1 => ?_) (fun hc1 => ?_)
  · refine wSeq ?_
    refine wReg ?_
    refine sP rfl rfl rfl (pM rfl rfl) ?_
    refine sP rfl rfl rfl (pA rfl rfl) ?_
    refine lNil ?_
    refine wRet ?_
    have h : l.length < 2 := by have h := hc1; simp at h; omega
    rw [compact_short h]
    exact ⟨_, [factRow v l], [], rfl, ⟨v, rfl, rfl⟩, rgm_tmp (r := []) rfl Sub.refl⟩
  · have h2 : 2 ≤ l.length := by have h := hc1; simp at h; omega
    refine wRowCells 0 rfl (by omega) (fun g cap hv hnc hcm => ?_)
    subst hv
    refine wSkip ?_
    refine wSeq ?_
    refine wSeq ?_
    refine wReg ?_
    refine sP rfl rfl rfl (pA rfl rfl) ?_
    refine lNil ?_
    refine wBlock ?_
    refine wLoop (fun mm L h => ∃ k, mm = l.length - k ∧ 1 ≤ k ∧ k ≤ l.length ∧ compact (l.take k) = l.take k ∧ L = [(0, .x (.slice (some ⟨g, 0, none⟩) l.length cap)), (3, iA (k : Nat))] ∧ h = [.cells g 23 (l.flatMap encA ++ List.replicate (cap * 2 - l.length * 2) .any)]) ⟨_, _, _, _, ⟨1, rfl, Nat.le_refl _, by omega, compact_short (by rw [List.length_take]; omega), rfl, rfl⟩, ⟨rfl, rfl, trivial⟩, rfl⟩ ?_
    rintro mm L h ⟨k, rfl, hk1, hkn, hcp, rfl, rfl⟩
    refine wSeq ?_
    refine wSeq ?_
    refine wReg ?_
    refine sP rfl rfl rfl (pM rfl rfl) ?_
    refine sP rfl rfl rfl (pM rfl rfl) ?_
    refine sP rfl rfl rfl (p_len_x rfl rfl Try.underlying27) ?_
    refine sP rfl rfl rfl (p_icmp rfl rfl rfl rfl) ?_
    refine lNil ?_
    refine wCond rfl (fun hc2 => ?_) (fun hc2 => ?_)
    · have hk : k < l.length := by have h := hc2; simp at h; omega
      obtain ⟨x, hx⟩ := getL hk
      obtain ⟨y, hy⟩ := getL (l := l) (i := k - 1) (by omega)
      have hz : IntKind.i64.wrap ((k : Int) - 1) = ((k - 1 : Nat) : Int) := by rw [wrapI (by omega) (by omega)]; omega
      refine wSkip ?_
      refine wSeq ?_
      refine wBlock ?_
      refine wSeq ?_
      refine wDraw 10 (by kernel_rfl) (by kernel_rfl) ?_
      refine sP rfl rfl rfl (pM rfl rfl) ?_
      refine sP rfl rfl rfl (pM rfl rfl) ?_
      refine sP rfl rfl rfl (p_indexAddr_ow (k) rfl rfl Try.underlying27 ty23 rfl rfl hk) ?_
      refine sP rfl rfl rfl (pLdO 0 rfl rfl rfl ty23 (fLe hk (by omega)) (fAt hx (by omega))) ?_
      refine sP rfl rfl rfl (pM rfl rfl) ?_
      refine sP rfl rfl rfl (pM rfl rfl) ?_
      refine sP rfl rfl rfl (p_iar rfl rfl rfl rfl) ?_
      refine sP rfl rfl rfl (p_indexAddr_ow (k - 1) rfl rfl Try.underlying27 ty23 rfl hz (by omega)) ?_
      refine sP rfl rfl rfl (pLdO 0 rfl rfl rfl ty23 (fLe (i := k - 1) (by omega) (by omega)) (fAt hy (by omega))) ?_
      refine sP rfl rfl rfl (p_eqs rfl rfl rfl rfl rfl guardD (fun w => eqD 9998 w x y)) ?_
      refine lTail ?_
      refine lNil ?_
      refine wCond rfl (fun hc3 => ?_) (fun hc3 => ?_)
      · have hxy : x = y := by simpa using hc3
        refine wSeq ?_
        refine wReg ?_
        refine sP rfl rfl rfl (pM rfl rfl) ?_
        refine sP rfl rfl rfl (pM rfl rfl) ?_
        refine sP rfl rfl rfl (p_slice_ow k l.length rfl rfl Try.underlying27 ty23 ⟨_, _, rfl, rfl⟩ rfl (by omega) (Nat.le_refl _) hnc (by omega)) ?_
        refine sP rfl rfl rfl (pA rfl rfl) ?_
        refine lNil ?_
        refine wSeq ?_
        refine wSeq ?_
        refine wReg ?_
        refine sP rfl rfl rfl (pA rfl rfl) ?_
        refine lNil ?_
        refine wBlock ?_
        refine wLoop (fun mm L h => ∃ kk k2 m, mm = l.length - (k + k2) ∧ 1 ≤ k2 ∧ k + k2 ≤ l.length ∧ CompG l m (k + k2) kk ∧ L = [(0, .x (.slice (some ⟨g, 0, none⟩) l.length cap)), (3, iA (kk : Nat)), (4, .x (.slice (some ⟨g, 0 + k * 2, none⟩) (l.length - k) (cap - k))), (5, iA (k2 : Nat))] ∧ h = [.cells g 23 (m.flatMap encA ++ List.replicate (cap * 2 - l.length * 2) .any)]) ⟨_, _, _, _, ⟨k, 1, l, rfl, Nat.le_refl _, hk, CompG.start hx hk1 (by rw [hy, hxy]) hcp, rfl, rfl⟩, ⟨rfl, rfl, rfl, rfl, trivial⟩, rfl⟩ ?_
        rintro mm L h ⟨kk, k2, m, rfl, hk2, hk3, hC, rfl, rfl⟩
        have hms := hC.size
        have hlt := hC.lt
        refine wSeq ?_
        refine wSeq ?_
        refine wReg ?_
        refine sP rfl rfl rfl (pM rfl rfl) ?_
        refine sP rfl rfl rfl (pM rfl rfl) ?_
        refine sP rfl rfl rfl (p_len_x rfl rfl Try.underlying27) ?_
        refine sP rfl rfl rfl (p_icmp rfl rfl rfl rfl) ?_
        refine lNil ?_
        refine wCond rfl (fun hc4 => ?_) (fun hc4 => ?_)
        · have hk4 : k + (k2 + 1) ≤ l.length := by have h := hc4; simp at h; omega
          obtain ⟨u1, hul⟩ : ∃ u, l[k + k2]? = some u := getL (by omega)
          obtain ⟨u2, hvl⟩ : ∃ u, l[k + k2 - 1]? = some u := getL (by omega)
          have hu : m[k + k2]? = some u1 := by rw [hC.high _ (by omega)]; exact hul
          have hv : m[k + k2 - 1]? = some u2 := by rw [hC.high _ (by omega)]; exact hvl
          have hz2 : IntKind.i64.wrap ((k2 : Int) - 1) = ((k2 - 1 : Nat) : Int) := by rw [wrapI (by omega) (by omega)]; omega
          refine wSkip ?_
          refine wSeq ?_
          refine wBlock ?_
          refine wSeq ?_
          refine wDraw 10 (by kernel_rfl) (by kernel_rfl) ?_
          refine sP rfl rfl rfl (pM rfl rfl) ?_
          refine sP rfl rfl rfl (pM rfl rfl) ?_
          refine sP rfl rfl rfl (p_indexAddr_ow (k2) rfl rfl Try.underlying27 ty23 rfl rfl (by omega)) ?_
          refine sP rfl rfl rfl (pLdO 0 rfl rfl rfl ty23 (fLe (i := k + k2) (by omega) (by omega)) (fAt hu (by omega))) ?_
          refine sP rfl rfl rfl (pM rfl rfl) ?_
          refine sP rfl rfl rfl (pM rfl rfl) ?_
          refine sP rfl rfl rfl (p_iar rfl rfl rfl rfl) ?_
          refine sP rfl rfl rfl (p_indexAddr_ow (k2 - 1) rfl rfl Try.underlying27 ty23 rfl hz2 (by omega)) ?_
          refine sP rfl rfl rfl (pLdO 0 rfl rfl rfl ty23 (fLe (i := k + k2 - 1) (by omega) (by omega)) (fAt hv (by omega))) ?_
          refine sP rfl rfl rfl (p_nes rfl rfl rfl rfl rfl guardD (fun w => eqD 9998 w u1 u2)) ?_
          refine lTail ?_
          refine lNil ?_
          refine wCond rfl (fun hc5 => ?_) (fun hc5 => ?_)
          · refine wSeq ?_
            refine wReg ?_
            refine sP rfl rfl rfl (pM rfl rfl) ?_
            refine sP rfl rfl rfl (pM rfl rfl) ?_
            refine sP rfl rfl rfl (pM rfl rfl) ?_
            refine sP rfl rfl rfl (pM rfl rfl) ?_
            refine sP rfl rfl rfl (p_indexAddr_ow (k2) rfl rfl Try.underlying27 ty23 rfl rfl (by omega)) ?_
            refine sP rfl rfl rfl (pLdO 0 rfl rfl rfl ty23 (fLe (i := k + k2) (by omega) (by omega)) (fAt hu (by omega))) ?_
            refine sP rfl rfl rfl (p_indexAddr_ow (kk) rfl rfl Try.underlying27 ty23 rfl rfl (by omega)) ?_
            refine sStore 0 rfl rfl rfl rfl rfl ty23 rfl rfl rfl (fLe (i := kk) (by omega) (by omega)) ?_
            refine lNil ?_
            refine wReg ?_
            refine sP rfl rfl rfl (pM rfl rfl) ?_
            refine sP rfl rfl rfl (p_iar rfl rfl rfl rfl) ?_
            refine sP rfl rfl rfl (pA rfl rfl) ?_
            refine lNil ?_
            refine wReg ?_
            refine sP rfl rfl rfl (pM rfl rfl) ?_
            refine sP rfl rfl rfl (p_iar rfl rfl rfl rfl) ?_
            refine sP rfl rfl rfl (pA rfl rfl) ?_
            refine lNil ?_
            have hne : u1 ≠ u2 := by simpa using hc5
            refine ⟨_, _, [.cells g 23 ((m.set kk u1).flatMap encA ++ List.replicate (cap * 2 - l.length * 2) .any)], [], ?_, ⟨kk + 1, k2 + 1, m.set kk u1, rfl, by omega, hk4, hC.keep hul (by omega) hvl hne, rfl, rfl⟩, ⟨rfl, avI (wrapI (by omega) (by omega)), rfl, avI (wrapI (by omega) (by omega)), trivial⟩, ?_⟩
            · omega
            · show [HObj.cells g _ (spl _ (0 + kk * 2) _)] = _
              rw [Nat.zero_add, flat_spl encF8 (by omega)]
              rfl
          · refine wSkip ?_
            refine wReg ?_
            refine sP rfl rfl rfl (pM rfl rfl) ?_
            refine sP rfl rfl rfl (p_iar rfl rfl rfl rfl) ?_
            refine sP rfl rfl rfl (pA rfl rfl) ?_
            refine lNil ?_
            have hne : u1 = u2 := by simpa using hc5
            refine ⟨_, _, [.cells g 23 (m.flatMap encA ++ List.replicate (cap * 2 - l.length * 2) .any)], [], ?_, ⟨kk, k2 + 1, m, rfl, by omega, hk4, hC.skip hul (by omega) (by rw [hvl, hne]), rfl, rfl⟩, ⟨rfl, rfl, rfl, avI (wrapI (by omega) (by omega)), trivial⟩, rfl⟩
            omega
        · have hk5 : k + k2 = l.length := by have h := hc4; simp at h; omega
          rw [hk5] at hC
          have hRl : (List.replicate (cap * 2 - l.length * 2) .any : List AV).length = cap * 2 - l.length * 2 := List.length_replicate
          refine wExit ?_
          refine wSeq ?_
          refine wReg ?_
          refine sP rfl rfl rfl (pM rfl rfl) ?_
          refine sP rfl rfl rfl (pM rfl rfl) ?_
          refine sP rfl rfl rfl (p_slice_ow kk l.length rfl rfl Try.underlying27 ty23 ⟨_, _, rfl, rfl⟩ rfl (by omega) (Nat.le_refl _) hnc (by omega)) ?_
          refine sClear (k := 2) 0 rfl rfl rfl Try.underlying27 ze23 rfl (by decide) rfl rfl (by omega) (by rw [fLen]; omega) ?_
          refine lNil ?_
          refine wSeq ?_
          refine wReg ?_
          refine sP rfl rfl rfl (pM rfl rfl) ?_
          refine sP rfl rfl rfl (pM rfl rfl) ?_
          refine sP rfl rfl rfl (p_slice_ow 0 kk rfl rfl Try.underlying27 ty23 rfl ⟨_, _, rfl, rfl⟩ (Nat.zero_le _) (by omega) hnc (by omega)) ?_
          refine sP rfl rfl rfl (pA rfl rfl) ?_
          refine lNil ?_
          refine wCellsRow 0 2 kk rfl (by omega) hcm (by simp only [List.length_append, List.length_take, List.length_replicate, flat_len_ encF8]; omega) ?_
          refine wRet ?_
          refine ⟨_, [_], [], rfl, ⟨_, rfl, ?_⟩, rgm_tmp (r := []) rfl Sub.refl⟩
          rw [factRow, ← hC.all.1, fRow rfl (by omega)]
          congr 2
          rw [hC.all.1, ← hC.all.2]
      · refine wSkip ?_
        refine wReg ?_
        refine sP rfl rfl rfl (pM rfl rfl) ?_
        refine sP rfl rfl rfl (p_iar rfl rfl rfl rfl) ?_
        refine sP rfl rfl rfl (pA rfl rfl) ?_
        refine lNil ?_
        have hne : x ≠ y := by simpa using hc3
        refine ⟨_, _, [.cells g 23 (l.flatMap encA ++ List.replicate (cap * 2 - l.length * 2) .any)], [], ?_, ⟨k + 1, rfl, by omega, hk, compact_next hx hk1 hy hne hcp, rfl, rfl⟩, ⟨rfl, avI (wrapI (by omega) (by omega)), trivial⟩, rfl⟩
        omega
    · have hge : k = l.length := by have h := hc2; simp at h; omega
      rw [hge, List.take_length] at hcp
      refine wExit ?_
      refine wSeq ?_
      refine wReg ?_
      refine sP rfl rfl rfl (pM rfl rfl) ?_
      refine sP rfl rfl rfl (pA rfl rfl) ?_
      refine lNil ?_
      refine wCellsRow 0 2 l.length rfl hnc hcm (by simp only [List.length_append, List.length_replicate, flat_len_ encF8]; omega) ?_
      refine wRet ?_
      refine ⟨_, [_], [], rfl, ⟨_, rfl, ?_⟩, rgm_tmp (r := []) rfl Sub.refl⟩
      rw [hcp, factRow, fRowAll]
end Go.Proofs.Ytmhkalalcmkpbaa.DotS

namespace Go.Proofs.Ytmhkalalcmkpbaa.DotS
open Go.Shelf Go.RowKit Go.Lib Go.Sort
set_option linter.unusedVariables false
def sortFact_ren : Go.Shelf.Ren := ⟨fun | 6 => 151 | 15 => 142 | 14 => 173 | 28 => 166 | 29 => 167 | 20 => 183 | 21 => 184 | 22 => 185 | 23 => 186 | 24 => 187 | 25 => 188 | 26 => 189 | 27 => 190 | 46 => 198 | 47 => 179 | 48 => 180 | 49 => 199 | 50 => 200 | 57 => 203 | n => n, fun | 22 => 27 | 24 => 23 | 25 => 175 | 3 => 3 | 39 => 171 | 0 => 0 | 53 => 220 | 55 => 222 | 4 => 4 | 46 => 214 | 45 => 213 | 50 => 206 | 5 => 5 | 9 => 9 | 66 => 232 | 70 => 236 | 76 => 247 | 77 => 248 | n => n, fun | n => n⟩
theorem sortFact : Go.Proofs.SlLaysF0.n6 Try.prog sortFact_ren := {
  mixed := by kernel_rfl
  f6 := ⟨Try.f151.name, by decide, Try.func151.trans (congrArg some (by kernel_rfl))⟩
  f14 := ⟨Try.f173.name, by decide, Try.func173.trans (congrArg some (by kernel_rfl))⟩
  f15 := Try.func142.trans (congrArg some (by kernel_rfl))
  f20 := ⟨Try.f183.name, by decide, Try.func183.trans (congrArg some (by kernel_rfl))⟩
  f21 := ⟨Try.f184.name, by decide, Try.func184.trans (congrArg some (by kernel_rfl))⟩
  f22 := ⟨Try.f185.name, by decide, Try.func185.trans (congrArg some (by kernel_rfl))⟩
  f23 := ⟨Try.f186.name, by decide, Try.func186.trans (congrArg some (by kernel_rfl))⟩
  f24 := ⟨Try.f187.name, by decide, Try.func187.trans (congrArg some (by kernel_rfl))⟩
  f25 := ⟨Try.f188.name, by decide, Try.func188.trans (congrArg some (by kernel_rfl))⟩
  f26 := ⟨Try.f189.name, by decide, Try.func189.trans (congrArg some (by kernel_rfl))⟩
  f27 := ⟨Try.f190.name, by decide, Try.func190.trans (congrArg some (by kernel_rfl))⟩
  f28 := Try.func166.trans (congrArg some (by kernel_rfl))
  f29 := Try.func167.trans (congrArg some (by kernel_rfl))
  f46 := ⟨Try.f198.name, by decide, Try.func198.trans (congrArg some (by kernel_rfl))⟩
  f47 := Try.func179.trans (congrArg some (by kernel_rfl))
  f48 := Try.func180.trans (congrArg some (by kernel_rfl))
  f49 := ⟨Try.f199.name, by decide, Try.func199.trans (congrArg some (by kernel_rfl))⟩
  f50 := ⟨Try.f200.name, by decide, Try.func200.trans (congrArg some (by kernel_rfl))⟩
  f57 := ⟨Try.f203.name, by decide, Try.func203.trans (congrArg some (by kernel_rfl))⟩
  t0 := Try.underlying0
  a0 := Try.isAgg0
  z0 := Try.sizeOf0
  v0 := Try.zeroValue0
  t3 := Try.underlying3
  a3 := Try.isAgg3
  z3 := Try.sizeOf3
  v3 := Try.zeroValue3
  t4 := Try.underlying4
  a4 := Try.isAgg4
  z4 := Try.sizeOf4
  v4 := Try.zeroValue4
  t5 := Try.underlying5
  a5 := Try.isAgg5
  z5 := Try.sizeOf5
  v5 := Try.zeroValue5
  t9 := Try.underlying9
  a9 := Try.isAgg9
  z9 := Try.sizeOf9
  v9 := Try.zeroValue9
  t22 := Try.underlying27
  a22 := Try.isAgg27
  z22 := Try.sizeOf27
  v22 := Try.zeroValue27
  t25 := Try.underlying175
  a25 := Try.isAgg175
  z25 := Try.sizeOf175
  v25 := Try.zeroValue175
  t39 := Try.underlying171
  a39 := Try.isAgg171
  z39 := Try.sizeOf171
  v39 := Try.zeroValue171
  t45 := Try.underlying213
  a45 := Try.isAgg213
  z45 := Try.sizeOf213
  v45 := Try.zeroValue213
  t46 := Try.underlying214
  a46 := Try.isAgg214
  z46 := Try.sizeOf214
  v46 := Try.zeroValue214
  t50 := Try.underlying206
  a50 := Try.isAgg206
  z50 := Try.sizeOf206
  v50 := Try.zeroValue206
  t53 := Try.underlying220
  a53 := Try.isAgg220
  z53 := Try.sizeOf220
  v53 := Try.zeroValue220
  t55 := Try.underlying222
  a55 := Try.isAgg222
  z55 := Try.sizeOf222
  v55 := Try.zeroValue222
  t66 := Try.underlying232
  a66 := Try.isAgg232
  z66 := Try.sizeOf232
  v66 := Try.zeroValue232
  t70 := Try.underlying236
  a70 := Try.isAgg236
  z70 := Try.sizeOf236
  v70 := Try.zeroValue236
  t76 := Try.underlying247
  a76 := Try.isAgg247
  z76 := Try.sizeOf247
  v76 := Try.zeroValue247
  t77 := Try.underlying248
  a77 := Try.isAgg248
  z77 := Try.sizeOf248
  v77 := Try.zeroValue248 }

abbrev encV (d : Int × Int) : List Value := encD d
theorem exact_of {w w' : World} (h : Bl True w w') : ∃ q os, w' = Sort.grow (w.drewN q) os := by
  refine ⟨w'.drawn - w.drawn, w'.heap.extract w.heap.size w'.heap.size, ?_⟩
  have hd := h.d trivial
  have hb := h.b
  have e1 := hb.os
  have e2 := hb.tape
  have e3 := hb.output
  have e4 : w'.heap = w.heap ++ w'.heap.extract w.heap.size w'.heap.size := by
    apply Array.ext'
    apply List.ext_getElem?
    intro j
    rw [Array.toList_append]
    rcases Nat.lt_or_ge j w.heap.size with hj | hj
    · rw [List.getElem?_append_left (by simpa using hj), Array.getElem?_toList, Array.getElem?_toList]
      exact hb.block j hj
    · rw [List.getElem?_append_right (by simpa using hj), Array.getElem?_toList, Array.getElem?_toList, Array.length_toList, Array.getElem?_extract]
      split
      · congr 1; omega
      · rw [Array.getElem?_eq_none (by omega)]
  have e5 : w'.drawn = w.drawn + (w'.drawn - w.drawn) := by omega
  generalize w'.heap.extract w.heap.size w'.heap.size = os at e4
  generalize w'.drawn - w.drawn = q at e5
  cases w
  cases w'
  simp only at e1 e2 e3 e4 e5
  subst e1 e2 e3 e4 e5
  rfl
theorem agg_fact (w : World) : (isAgg 23).run Try.prog w = .ok true w := by go_simp
theorem size_fact (w : World) : (Go.sizeOf 23).run Try.prog w = .ok 2 w := by go_simp
theorem fenters (args : Array Value) (w : World) : (callFunc 130 args).run Try.prog w = .ok (.enter 130 args) w := (dorder_p (K := True) (0, 0) (0, 0)).enter args w
theorem fcmp_lays (blk off size : Nat) (w : World) : CmpLays Try.prog 130 #[] encV 2 ordD blk off size w := by
  intro m os dk _ x y
  have hr : ∀ (O : Nat → Prop) (w : World), RepC O w [dA x, dA y] (fun j => (#[Value.agg (encV x).toArray, Value.agg (encV y).toArray] ++ (#[] : Array Value))[j]?) := fun O w => by
    simp only [RepC]
    exact ⟨⟨_, rfl, (AV.rep_val (dA x) rfl _).2 rfl⟩, ⟨_, rfl, (AV.rep_val (dA y) rfl _).2 rfl⟩, trivial⟩
  refine ((dorder_p (K := True) x y).calls (fun _ => False) _ _ (fun b hb => hb.elim) rfl (hr _ _)).mono ?_
  rintro e w' ⟨r, rfl, h2, h3⟩
  rw [rep_x] at h2
  subst h2
  obtain ⟨q, os', hw⟩ := exact_of h3
  exact ⟨rfl, q, os', hw⟩
theorem flt_of (x y : (Int × Int)) : ltOf ordD x y = ltD x y := ordD_lt x y
theorem swoF : SWO (ltOf ordD) where
  irrefl x := by rw [flt_of]; exact stoD.irrefl x
  trans x y z h1 h2 := by rw [flt_of] at *; exact stoD.trans x y z h1 h2
  ntrans x y z h1 h2 := by
    rw [flt_of] at *
    cases h : ltD x z with
    | false => rfl
    | true =>
      cases h3 : ltD y x with
      | true => have := stoD.trans y x z h3 h; rw [h2] at this; cases this
      | false =>
        have := stoD.total x y h1 h3
        subst this; rw [h2] at h; cases h
theorem sortf_c (blk off cap : Nat) (d : Array (Int × Int)) (w : World) (hH : HoldsK encV 2 w blk off d) (hblk : blk < w.heap.size) (hsz : d.size < 4611686018427387904) :
    Calls Try.prog 151 #[.slice (some ⟨blk, off, none⟩) d.size cap, .func (.func 130) #[] #[]] w fun e w' =>
      e = .returned (.tuple #[]) ∧ ∃ d' n os, PermIn 0 d.size d d' ∧ SortedIn (ltOf ordD) 0 d.size d' ∧ w' = sortWorldK encV 2 w blk off n d' os :=
  AnyQ.slices_SortFunc sortFact 2 agg_fact size_fact encV (fun _ => rfl) (fun x v hv => by simp [encV, encD] at hv; rcases hv with rfl | rfl <;> rfl) ordD swoF 130 #[] blk off cap d w fenters (fcmp_lays blk off d.size w) hH hblk hsz
end Go.Proofs.Ytmhkalalcmkpbaa.DotS

namespace Go.Proofs.Ytmhkalalcmkpbaa.DotS
open Go Go.Shelf Go.RowKit
open Go.Sort (HoldsK size_flatK get_flatK size_putRowK putRowK PermIn SortedIn flatK)
set_option linter.unusedVariables false
set_option linter.unusedSimpArgs false

theorem CmR.one {l : List (Int × Int)} {av : AV} {h' : List HObj} (h : CmR l av h') : ∃ p, h' = [p] := by
  obtain ⟨v, _, h2⟩ := h; exact ⟨_, h2⟩
theorem CmR.pq {l : List (Int × Int)} {av : AV} {p : HObj} (h : CmR l av [p]) : ∃ v', av = .x v' ∧ p = factRow v' l := by
  obtain ⟨v, h1, h2⟩ := h; exact ⟨v, h1, by simpa using h2⟩

set_option maxRecDepth 100000 in
theorem fclone_m {K : Prop} (l : List (Int × Int)) (hn : l.length < 1000000) : MFn Try.prog K 150 [slD l] [] (CmR l) := by
  refine mfn Try.func150 rfl (by kernel_rfl) 8 rfl _ rfl (Nat.le_of_ble_eq_true rfl) (fun X w0 => ?_)
  refine wSeq ?_
  refine wReg ?_
  refine sP rfl rfl rfl (pA rfl rfl) ?_
  refine lNil ?_
  refine wSeq ?_
  refine wSeq ?_
  refine wReg ?_
  refine sP rfl rfl rfl (pMs rfl rfl) ?_
  refine sSlNil rfl rfl rfl rfl rfl Try.underlying27 (fun b hbn => ?_)
  refine lNil ?_
  refine wCond rfl (fun hc1 => ?_) (fun hc1 => ?_)
  · refine wNilrow 23 2 ?_
    refine wSeq ?_
    refine wReg ?_
    refine sP rfl rfl rfl (pA rfl rfl) ?_
    refine lNil ?_
    refine wRet ?_
    have hl : l = [] := by
      have := hbn hc1
      exact List.eq_nil_of_length_eq_zero (by omega)
    subst hl
    exact ⟨_, [factRow (.slice none 0 0) []], [], rfl, ⟨_, rfl, rfl⟩, rgm_tmp (r := []) rfl Sub.refl⟩
  · refine wSkip ?_
    refine wSeq ?_
    refine wReg ?_
    refine sBuild0 rfl rfl rfl rfl ze23 Try.underlying27 ty23 (by decide) (fun v5 => ?_)
    refine sP rfl rfl rfl (pMs rfl rfl) ?_
    refine sAppendL (enc := encA) (l := []) 0 l rfl rfl rfl rfl Try.underlying27 ro23 rfl rfl rfl (fun _ => rfl) (by rw [List.length_nil]; omega) (by rw [List.length_nil]; omega) (fun v7 => ?_)
    refine sP rfl rfl rfl (pA rfl rfl) ?_
    refine lNil ?_
    refine wRet ?_
    exact ⟨_, [factRow v7 ([] ++ l)], [], rfl, ⟨v7, rfl, rfl⟩, rgm_tmp (r := []) rfl Sub.refl⟩

theorem flat_getG {α β : Type} {enc : α → List β} {k : Nat} (hk : ∀ x, (enc x).length = k) : ∀ (l : List α) (i j : Nat) (x : α), l[i]? = some x → j < k → (l.flatMap enc)[i * k + j]? = (enc x)[j]?
  | [], i, j, x, h, _ => by simp at h
  | y :: l, 0, j, x, h, hj => by
    obtain rfl : y = x := by simpa using h
    rw [List.flatMap_cons, Nat.zero_mul, Nat.zero_add, List.getElem?_append_left (by rw [hk]; exact hj)]
  | y :: l, i + 1, j, x, h, hj => by
    rw [List.flatMap_cons, List.getElem?_append_right (by rw [hk, Nat.add_mul, Nat.one_mul]; omega), hk, show (i + 1) * k + j - k = i * k + j by rw [Nat.add_mul, Nat.one_mul]; omega]
    exact flat_getG hk l i j x (by simpa using h) hj
theorem flat_lenG {α β : Type} {enc : α → List β} {k : Nat} (hk : ∀ x, (enc x).length = k) : ∀ l : List α, (l.flatMap enc).length = l.length * k
  | [] => by simp
  | x :: l => by rw [List.flatMap_cons, List.length_append, hk, flat_lenG hk l, List.length_cons, Nat.add_mul, Nat.one_mul, Nat.add_comm]
theorem encV8 (x : (Int × Int)) : (encV x).length = 2 := rfl
theorem flatV (d : Array (Int × Int)) (j : Nat) (h : j < d.size * 2) : (d.toList.flatMap encV)[j]? = some ((flatK encV 2 d)[j]!) := by
  have hi : j / 2 < d.toList.length := by rw [Array.length_toList]; omega
  have e := flat_getG encV8 d.toList (j / 2) (j % 2) _ (List.getElem?_eq_getElem hi) (Nat.mod_lt _ (by decide))
  rw [show j / 2 * 2 + j % 2 = j by omega] at e
  rw [e, get_flatK _ _ _ _ h]
  have hi2 : j / 2 < d.size := by simpa using hi
  have e2 : d[j / 2]! = d.toList[j / 2] := by simp [hi2]
  rw [e2]
  have hm : j % 2 < (encV d.toList[j / 2]).length := by rw [encV8]; exact Nat.mod_lt _ (by decide)
  rw [List.getElem?_eq_getElem hm]
  congr 1
  exact (getElem!_pos (encV d.toList[j / 2]) (j % 2) hm).symm
theorem vals_flat (l : List (Int × Int)) : AV.vals (l.flatMap encA) = l.flatMap encV ∧ AV.exL (l.flatMap encA) = true := by
  have app : ∀ a b : List AV, AV.vals (a ++ b) = AV.vals a ++ AV.vals b ∧ (AV.exL a = true → AV.exL b = true → AV.exL (a ++ b) = true) := by
    intro a b
    induction a with
    | nil => exact ⟨rfl, fun _ h => h⟩
    | cons c a ih =>
      refine ⟨by simp only [List.cons_append, AV.vals, ih.1], fun h1 h2 => ?_⟩
      simp only [AV.exL, Bool.and_eq_true] at h1
      simp only [List.cons_append, AV.exL, Bool.and_eq_true]
      exact ⟨h1.1, ih.2 h1.2 h2⟩
  induction l with
  | nil => exact ⟨rfl, rfl⟩
  | cons x l ih =>
    rw [List.flatMap_cons, List.flatMap_cons]
    exact ⟨by rw [(app _ _).1, ih.1]; rfl, (app _ _).2 rfl ih.2⟩
theorem vals_rep {O : Nat → Prop} {w : World} (l : List (Int × Int)) : RepC O w (l.flatMap encA) (fun j => (l.flatMap encV)[j]?) :=
  (AV.repC_vals_ (l.flatMap encA) (vals_flat l).2 _ (by rw [flat_lenG encV8, flat_lenG encF8])).2 (vals_flat l).1.symm

def SfR (l : List (Int × Int)) (v : Value) (av : AV) (h' : List HObj) : Prop := av = .tup [] ∧ ∃ s, s.Perm l ∧ s.Pairwise (fun a b => ltD b a = false) ∧ h' = [factRow v s]
theorem SfR.one {l : List (Int × Int)} {v : Value} {av : AV} {h' : List HObj} (h : SfR l v av h') : ∃ p, h' = [p] := by
  obtain ⟨_, s, _, _, h2⟩ := h; exact ⟨_, h2⟩
theorem SfR.pq {l : List (Int × Int)} {v : Value} {av : AV} {p : HObj} (h : SfR l v av [p]) : av = .tup [] ∧ ∃ s, s.Perm l ∧ s.Pairwise (fun a b => ltD b a = false) ∧ p = factRow v s := by
  obtain ⟨h1, s, h2, h3, h4⟩ := h; exact ⟨h1, s, h2, h3, by simpa using h4⟩
theorem sort_enter (args : Array Value) (w : World) : (callFunc 151 args).run Try.prog w = .ok (.enter 151 args) w := enter_of Try.func151 (by kernel_rfl) rfl args w
theorem fsortf_m (v : Value) (l : List (Int × Int)) (hn : l.length < 1000000) : MFn Try.prog False 151 [.x v, .x (.func (.func 130) #[] #[])] [factRow v l] (SfR l v) := by
  refine ⟨sort_enter, fun O w args env hl hr => ?_⟩
  have hargs : args = #[v, .func (.func 130) #[] #[]] := by
    apply Array.ext'
    have := (AV.repC_vals_ (O := owned O [factRow v l]) (w := w) [.x v, .x (.func (.func 130) #[] #[])] rfl args.toList (by simpa using hl)).1 (by
      have e : (fun j => args.toList[j]?) = (fun j => args[j]?) := funext fun j => Array.getElem?_toList
      rw [e]; exact hr)
    rw [this]; rfl
  subst hargs
  obtain ⟨vs, hown, hvl, hvr⟩ := env.objs (factRow v l) (by simp)
  have hvs : vs = l.flatMap encV := by
    rw [← (vals_flat l).1]
    exact (AV.repC_vals_ (l.flatMap encA) (vals_flat l).2 vs hvl).1 hvr
  subst hvs
  by_cases h0 : l.length = 0
  · have hl0 : l = [] := List.eq_nil_of_length_eq_zero h0
    subst hl0
    have hv : ∃ p cap, v = .slice p 0 cap := by
      rcases hown.2 with ⟨rfl, _⟩ | ⟨g, cap, cur, rfl, _⟩
      · exact ⟨_, _, rfl⟩
      · exact ⟨_, _, rfl⟩
    obtain ⟨p, cap, rfl⟩ := hv
    refine (AnyF.slices_SortFunc_none sortFact p cap _ w).mono ?_
    rintro e w' ⟨rfl, rfl⟩
    exact ⟨_, _, _, rfl, ⟨rfl, [], .refl _, .nil, rfl⟩, env, by simp only [Rep]; exact ⟨_, rfl, rfl, by simp [RepC]⟩⟩
  · rcases hown.2 with ⟨rfl, h1⟩ | ⟨g, cap, cur, rfl, hb, hh, hnc, hcm, hsz, htk⟩
    · exact absurd h1 h0
    have hd : l.toArray.size = l.length := by simp
    have hH : HoldsK encV 2 w g 0 l.toArray := by
      intro j hj
      rw [size_flatK, hd] at hj
      have h1 : w.cell? ⟨g, 0 + j, none⟩ = some ((flatK encV 2 l.toArray)[j]!) := by
        have := hown.cells (g := g) rfl j _ (flatV l.toArray j (by rw [hd]; exact hj))
        rw [add_plain] at this
        exact this
      exact ⟨h1, by simp [World.frozen?, hh]⟩
    have hlt := (Array.getElem?_eq_some_iff.1 hh).1
    have h := sortf_c g 0 cap l.toArray w hH hlt (by rw [hd]; omega)
    rw [hd] at h
    refine h.mono ?_
    rintro e w' ⟨rfl, d', q, os, hp, hs, hw⟩
    have hds : d'.size = l.length := by have := hp.1; rw [hd] at this; exact this
    have hperm : d'.toList.Perm l := by
      have h3 := hp.2.2
      rw [← hds] at h3
      have e1 : d'.extract 0 d'.size = d' := by simp
      have e2 : l.toArray.extract 0 d'.size = l.toArray := by rw [hds, ← hd]; simp
      rw [e1, e2] at h3
      simpa using h3
    have hpw : d'.toList.Pairwise (fun a b => ltD b a = false) := by
      rw [List.pairwise_iff_getElem]
      intro i j hi hj hij
      have h3 := hs i j (Nat.zero_le _) hij (by simp at hj; omega)
      rw [flt_of] at h3
      have hi' : i < d'.size := by simpa using hi
      have hj' : j < d'.size := by simpa using hj
      simpa [hi', hj'] using h3
    have hgr : w.grownBy w' (some g) := by
      rw [hw]
      refine ⟨rfl, rfl, rfl, ?_, fun k hk hne => ?_⟩
      · show w.heap.size ≤ (Sort.grow _ os).heap.size
        rw [Sort.size_grow, size_putRowK]
        show w.heap.size ≤ w.heap.size + _
        omega
      · show (Sort.grow _ os).heap[k]? = _
        rw [Sort.heap_grow_old _ _ (by rw [size_putRowK]; exact hk)]
        show (w.heap.modify g _)[k]? = _
        rw [Array.getElem?_modify, if_neg (by rintro rfl; exact hne rfl)]
    have hheap : w'.heap[g]? = some (.cells (Sort.putCells id 0 (flatK encV 2 d') cur) 23 (0, 0)) := by
      rw [hw]
      show (Sort.grow _ os).heap[g]? = _
      rw [Sort.heap_grow_old _ _ (by rw [size_putRowK]; exact hlt)]
      simp [putRowK, Sort.putRow, Sort.mapBlock, Sort.ahead, Array.getElem?_modify, hh, Sort.onCells]
    have hlen2 : d'.toList.length = l.length := by rw [Array.length_toList, hds]
    have hown' : w'.ownsRow 0 23 2 (.slice (some ⟨g, 0, none⟩) l.length cap) l.length (d'.toList.flatMap encV) := by
      refine ⟨by rw [flat_lenG encV8, hlen2], .inr ⟨g, cap, _, rfl, Nat.zero_le _, hheap, hnc, hcm, by simpa [Sort.putCells] using hsz, ?_⟩⟩
      apply List.ext_getElem?
      intro j
      rw [List.getElem?_take, Array.getElem?_toList]
      by_cases hj : j < l.length * 2
      · have hjc : j < cur.size := by rw [hsz]; have := Nat.mul_le_mul_right 2 hnc; omega
        rw [if_pos hj, flatV d' j (by rw [hds]; exact hj)]
        simp only [Sort.putCells, Array.getElem?_mapIdx, Array.getElem?_eq_getElem hjc, Option.map_some]
        rw [if_pos (by rw [size_flatK, hds]; omega)]
        simp
      · rw [if_neg hj, List.getElem?_eq_none (by rw [flat_lenG encV8, hlen2]; omega)]
    have e5 : factRow (.slice (some ⟨g, 0, none⟩) l.length cap) d'.toList = .row (.slice (some ⟨g, 0, none⟩) l.length cap) 23 2 l.length (d'.toList.flatMap encA) := by rw [factRow, hlen2]
    refine ⟨_, _, [factRow (.slice (some ⟨g, 0, none⟩) l.length cap) d'.toList], rfl, ⟨rfl, _, hperm, hpw, rfl⟩, ?_, by simp only [Rep]; exact ⟨_, rfl, rfl, by simp [RepC]⟩⟩
    have := Env.set_ (q := factRow (.slice (some ⟨g, 0, none⟩) l.length cap) d'.toList) env (i := 0) rfl hgr (fun h => h.elim) (by rw [e5]; exact ⟨_, hown', by rw [flat_lenG encV8, flat_lenG encF8], vals_rep _⟩) (fun c hc => .inl hc) (fun c hc => by
      obtain rfl : g = c := by simpa [factRow, HObj.blk, Value.ownBlock] using hc
      exact Nat.lt_of_lt_of_le hlt hgr.size)
    exact this

set_option maxRecDepth 100000 in
theorem fsort_p (l : List (Int × Int)) (hn : l.length < 1000000) : PFn Try.prog False 117 [slD l] (slD (sortK ltD l)) := by
  refine pfn Try.func117 rfl (by kernel_rfl) 10 rfl _ rfl (Nat.le_of_ble_eq_true rfl) (fun X w0 => ?_)
  refine wSeq ?_
  refine wReg ?_
  refine sP rfl rfl rfl (pA rfl rfl) ?_
  refine lNil ?_
  refine wSeq ?_
  refine wReg ?_
  refine sP rfl rfl rfl (pMs rfl rfl) ?_
  refine sM0 rfl rfl rfl rfl (fclone_m l hn) ⟨Sub.refl, trivial⟩ (fun _ _ h => h.one) (fun av q hr => ?_)
  obtain ⟨v, rfl, rfl⟩ := hr.pq
  refine sP rfl rfl rfl (pA rfl rfl) ?_
  refine lNil ?_
  refine wSeq ?_
  refine wReg ?_
  refine sP rfl rfl rfl (pM rfl rfl) ?_
  refine sM1 0 rfl rfl rfl (fsortf_m v l hn) ⟨Sub.refl, Sub.refl, trivial⟩ (fun _ _ h => h.one) (fun av q hr => ?_)
  obtain ⟨rfl, s, hperm, hpw, rfl⟩ := hr.pq
  refine lNil ?_
  refine wSeq ?_
  refine wReg ?_
  refine sP rfl rfl rfl (pM rfl rfl) ?_
  refine sM1 0 rfl rfl rfl (fcomp_m v s (by rw [hperm.length_eq]; exact hn)) ⟨Sub.refl, trivial⟩ (fun _ _ h => h.one) (fun av q hr => ?_)
  obtain ⟨v2, rfl, rfl⟩ := hr.pq
  refine sP rfl rfl rfl (pA rfl rfl) ?_
  refine lNil ?_
  refine wRet ?_
  rw [compact_sortK stoD l s hperm hpw]
  exact rgs1 (rg_tmp (gives_row (List.mem_of_getElem? (i := 0) rfl)))
end Go.Proofs.Ytmhkalalcmkpbaa.DotS
namespace Go.Proofs.Ytmhkalalcmkpbaa
open Go Go.RowKit
theorem dsort_p (l : List (Int × Int)) (hn : l.length < 1000000) : PFn Try.prog False 117 [slD l] (slD (sortK ltD l)) := DotS.fsort_p l hn
end Go.Proofs.Ytmhkalalcmkpbaa

namespace Go.Proofs.Ytmhkalalcmkpbaa
open Go
theorem ty184 : tyOf Try.prog 184 = some (false, 1) := by kernel_rfl
theorem ze184 : tyZero Try.prog 184 = some [.slice none 0 0] := by kernel_rfl
theorem ro184 : rowOf Try.prog 184 = some (1, 24) := by kernel_rfl
end Go.Proofs.Ytmhkalalcmkpbaa

namespace Go.Proofs.Ytmhkalalcmkpbaa
open Go Go.Shelf Go.RowKit Go.Lib
set_option linter.unusedVariables false
set_option linter.unusedSimpArgs false

def growDot_ren : Go.Shelf.Ren := ⟨fun | 4 => 136 | n => n, fun | 22 => 27 | 25 => 23 | 3 => 3 | 4 => 4 | 9 => 9 | 20 => 20 | 0 => 0 | 2 => 3 | n => n, fun | n => n⟩
theorem growDot : Go.Proofs.Lays8.n4 Try.prog growDot_ren := {
  mixed := by kernel_rfl
  f4 := ⟨Try.f136.name, by decide, Try.func136.trans (congrArg some (by kernel_rfl))⟩
  t0 := Try.underlying0
  a0 := Try.isAgg0
  z0 := Try.sizeOf0
  v0 := Try.zeroValue0
  t3 := Try.underlying3
  a3 := Try.isAgg3
  z3 := Try.sizeOf3
  v3 := Try.zeroValue3
  t4 := Try.underlying4
  a4 := Try.isAgg4
  z4 := Try.sizeOf4
  v4 := Try.zeroValue4
  t9 := Try.underlying9
  a9 := Try.isAgg9
  z9 := Try.sizeOf9
  v9 := Try.zeroValue9
  t20 := Try.underlying20
  a20 := Try.isAgg20
  z20 := Try.sizeOf20
  v20 := Try.zeroValue20
  t22 := Try.underlying27
  a22 := Try.isAgg27
  z22 := Try.sizeOf27
  v22 := Try.zeroValue27 }

set_option maxRecDepth 100000 in
theorem dgrow_m (n : Nat) (hn : n < 1000000000) : MFn Try.prog False 136 [.x (.slice none 0 0), iA n] [] (DotS.CmR []) := by
  refine ⟨enter_of Try.func136 (by kernel_rfl) rfl, fun O w args env hl hr => ?_⟩
  have hargs : args = #[.slice none 0 0, .int .i64 n] := by
    apply Array.ext'
    have := (AV.repC_vals_ (O := owned O []) (w := w) [.x (.slice none 0 0), iA n] rfl args.toList (by simpa using hl)).1 (by
      have e : (fun j => args.toList[j]?) = (fun j => args[j]?) := funext fun j => Array.getElem?_toList
      rw [e]; exact hr)
    rw [this]; rfl
  subst hargs
  rcases Nat.eq_zero_or_pos n with h0 | h0
  · subst h0
    refine (Any8.slices_Grow_room growDot none 0 0 0 w (Nat.le_refl _) (by omega) (by omega) (by omega)).mono ?_
    rintro e w' ⟨rfl, rfl⟩
    have hp := env.push (p := DotS.factRow (.slice none 0 0) []) (Bl.refl _ _) ⟨[], World.ownsRow_nil _ _ _ _, rfl, by simp [RepC]⟩ (fun b hb => by cases hb)
    exact ⟨_, _, _, rfl, ⟨_, rfl, rfl⟩, hp, rep_x.2 rfl⟩
  · obtain ⟨ti, hti⟩ := Option.isSome_iff_exists.1 (show (Try.prog.info? 23).isSome = true by kernel_rfl)
    have hsz : ti.size = 2 := by
      have : (Try.prog.info? 23).map (·.size) = some 2 := by kernel_rfl
      rw [hti] at this; simpa using this
    have hby : ti.bytes = 16 := by
      have : (Try.prog.info? 23).map (·.bytes) = some 16 := by kernel_rfl
      rw [hti] at this; simpa using this
    have hz : ti.zero = some (.agg #[.int .i64 0, .int .i64 0]) := by
      have : (Try.prog.info? 23).map (·.zero) = some (some (.agg #[.int .i64 0, .int .i64 0])) := by kernel_rfl
      rw [hti] at this; simpa using this
    refine (Any8.slices_Grow_grow growDot ti _ hti hz (by omega) none 0 0 n [] w (Nat.le_refl _) (by omega) (by rw [hby]; omega) (by omega) (by simp) (fun _ => rfl) (fun a ha => by cases ha)).mono ?_
    rintro e w' ⟨rfl, hw⟩
    generalize hcap : grownCap w (0 + n) 0 (growDot_ren.t 25) = cap at hw ⊢
    have hge : 0 + n ≤ cap := by rw [← hcap]; exact grownCap_ge _ _ _ _
    have hle : cap ≤ maxLen := by rw [← hcap]; exact grownCap_le_maxLen _ _ _ _ (by simp only [maxLen]; omega)
    generalize hcs : (([] : List Value).toArray ++ Builtin.zeroCells (Value.agg #[.int .i64 0, .int .i64 0]).cells (0 + n - 0) ++ Builtin.zeroCells (Value.agg #[.int .i64 0, .int .i64 0]).cells (cap - (0 + n))) = cs at hw
    have hcl : cs.size = cap * 2 := by
      rw [← hcs, Array.size_append, Array.size_append, size_zeroCells, size_zeroCells]
      show 0 + (0 + n - 0) * 2 + (cap - (0 + n)) * 2 = cap * 2
      omega
    have hb : Bl False w w' := by
      rw [hw]
      exact bl_weak ((below_drewN (Below.refl _ w) 1).alloc (Nat.le_refl _) _)
    have hheap : w'.heap[w.heap.size]? = some (.cells cs 23 (0, 0)) := by
      rw [hw]; exact heap_alloc_new w.drew _
    have hown : w'.ownsRow 0 23 2 (.slice (some ⟨w.heap.size, 0, none⟩) 0 cap) 0 [] := ⟨rfl, .inr ⟨w.heap.size, cap, cs, rfl, Nat.zero_le _, hheap, Nat.zero_le _, hle, hcl, by simp⟩⟩
    have hp := env.push (p := DotS.factRow (.slice (some ⟨w.heap.size, 0, none⟩) 0 cap) []) hb ⟨[], hown, rfl, by simp [RepC]⟩ (fun b hb' => by
      obtain rfl : w.heap.size = b := by simpa [DotS.factRow, HObj.blk, Value.ownBlock] using hb'
      exact ⟨Nat.le_refl _, (Array.getElem?_eq_some_iff.1 hheap).1⟩)
    exact ⟨_, _, _, rfl, ⟨_, rfl, rfl⟩, hp, rep_x.2 rfl⟩

def encS (l : List (Int × Int)) : List AV := [slD l]
def sumL (ls : List (List (Int × Int))) : Nat := (ls.map List.length).sum
theorem sumL_take {ls : List (List (Int × Int))} {i : Nat} {d : List (Int × Int)} (h : ls[i]? = some d) : sumL (ls.take (i + 1)) = sumL (ls.take i) + d.length := by
  obtain ⟨hi, rfl⟩ := List.getElem?_eq_some_iff.1 h
  unfold sumL
  rw [← List.take_append_getElem hi, List.map_append, List.sum_append]; simp
theorem sumL_le {ls : List (List (Int × Int))} (h : ∀ l ∈ ls, l.length < 1000000) : sumL ls ≤ ls.length * 1000000 := by
  induction ls with
  | nil => exact Nat.zero_le _
  | cons d ls ih =>
    have h1 := h d (by simp)
    have h2 := ih fun l hl => h l (by simp [hl])
    unfold sumL at h2 ⊢
    rw [List.map_cons, List.sum_cons, List.length_cons]
    omega
theorem cflat_take {ls : List (List (Int × Int))} {i : Nat} {d : List (Int × Int)} (h : ls[i]? = some d) : (ls.take (i + 1)).flatten = (ls.take i).flatten ++ d := by
  obtain ⟨hi, rfl⟩ := List.getElem?_eq_some_iff.1 h
  rw [← List.take_append_getElem hi, List.flatten_append]; simp
theorem flat_len_sum (ls : List (List (Int × Int))) : ls.flatten.length = sumL ls := List.length_flatten

set_option maxRecDepth 100000 in
theorem dconcat_p (ls : List (List (Int × Int))) (hn : ls.length < 100) (hl : ∀ l ∈ ls, l.length < 1000000) : PFn Try.prog False 98 [.sl 1 ls.length (ls.flatMap encS)] (slD ls.flatten) := by
  refine pfn Try.func98 rfl (by kernel_rfl) 36 rfl _ rfl (Nat.le_of_ble_eq_true rfl) (fun X w0 => ?_)
  refine wSeq ?_
  refine wReg ?_
  refine sP rfl rfl rfl (pA rfl rfl) ?_
  refine lNil ?_
  refine wSeq ?_
  refine wReg ?_
  refine sP rfl rfl rfl (pA rfl rfl) ?_
  refine lNil ?_
  refine wSeq ?_
  refine wSeq ?_
  refine wReg ?_
  refine sP rfl rfl rfl (pMs rfl rfl) ?_
  refine sP rfl rfl rfl (p_len_sl rfl rfl Try.underlying184) ?_
  refine sP rfl rfl rfl (pM rfl rfl) ?_
  refine lNil ?_
  refine wBlock ?_
  refine wLoop (fun mm L h => ∃ i s, mm = ls.length - i ∧ i ≤ ls.length ∧ s = sumL (ls.take i) ∧ L = [(0, .sl 1 ls.length (ls.flatMap encS)), (3, iA (s : Nat)), (9, .sl 1 ls.length (ls.flatMap encS)), (10, iA ls.length), (11, iA (i : Nat))] ∧ h = []) ⟨_, _, _, _, ⟨0, 0, rfl, Nat.zero_le _, rfl, rfl, rfl⟩, ⟨rfl, rfl, rfl, rfl, rfl, trivial⟩, rfl⟩ ?_
  rintro mm L h ⟨i, s, rfl, hi, hs, rfl, rfl⟩
  have hsb : s ≤ 100000000 := by
    rw [hs]
    have h1 := sumL_le (ls := ls.take i) fun l h => hl l (List.mem_of_mem_take h)
    rw [List.length_take] at h1
    omega
  refine wSeq ?_
  refine wReg ?_
  refine sP rfl rfl rfl (p_icmp rfl rfl rfl rfl) ?_
  refine lNil ?_
  refine wSeq ?_
  refine wCond rfl (fun hc1 => ?_) (fun hc1 => ?_)
  · have hlt : i < ls.length := by simpa using hc1
    obtain ⟨d, hd⟩ := getL hlt
    have hdl := hl d (List.mem_of_getElem? hd)
    refine wSkip ?_
    refine wSeq ?_
    refine wBlock ?_
    refine wSeq ?_
    refine wReg ?_
    refine sP rfl rfl rfl (pIdx (enc := encS) (l := ls) i rfl rfl Try.underlying184 ty27 (by decide) rfl (fun _ => rfl) rfl rfl hd) ?_
    refine sP rfl rfl rfl (pLd1 rfl rfl ty27) ?_
    refine sP rfl rfl rfl (pAs rfl rfl) ?_
    refine lNil ?_
    refine wSeq ?_
    refine wReg ?_
    refine sP rfl rfl rfl (pM rfl rfl) ?_
    refine sP rfl rfl rfl (pMs rfl rfl) ?_
    refine sP rfl rfl rfl (p_len_sl rfl rfl Try.underlying27) ?_
    refine sP rfl rfl rfl (p_iar rfl rfl rfl (by show some _ = some _; rw [wrapI (by omega) (by omega)])) ?_
    refine sP rfl rfl rfl (pA rfl rfl) ?_
    refine lNil ?_
    refine wSeq ?_
    refine wReg ?_
    refine sP rfl rfl rfl (pM rfl rfl) ?_
    refine sP rfl rfl rfl (p_icmp rfl rfl rfl rfl) ?_
    refine lNil ?_
    refine wCond rfl (fun hc2 => ?_) (fun hc2 => ?_)
    · exact absurd hc2 (by simp; omega)
    · refine wSkip ?_
      refine wReg ?_
      refine sP rfl rfl rfl (p_iar rfl rfl rfl rfl) ?_
      refine sP rfl rfl rfl (pM rfl rfl) ?_
      refine lNil ?_
      refine ⟨_, _, [], [], ?_, ⟨i + 1, s + d.length, rfl, hlt, ?_, rfl, rfl⟩, ⟨rfl, avI (by rw [Int.natCast_add]), rfl, rfl, avI (wrapI (by omega) (by omega)), trivial⟩, rfl⟩
      · omega
      · rw [hs, sumL_take hd]
  · have hge : i = ls.length := by
      have h : ¬ i < ls.length := by simpa using hc1
      omega
    subst hge
    refine wExit ?_
    refine wSeq ?_
    refine wReg ?_
    refine sP rfl rfl rfl (pM rfl rfl) ?_
    refine sM0 rfl rfl rfl rfl (dgrow_m s (by omega)) ⟨Sub.refl, Sub.refl, trivial⟩ (fun _ _ h => h.one) (fun av q hr => ?_)
    obtain ⟨v, rfl, rfl⟩ := hr.pq
    refine sP rfl rfl rfl (pA rfl rfl) ?_
    refine lNil ?_
    refine wSeq ?_
    refine wSeq ?_
    refine wReg ?_
    refine sP rfl rfl rfl (pMs rfl rfl) ?_
    refine sP rfl rfl rfl (p_len_sl rfl rfl Try.underlying184) ?_
    refine sP rfl rfl rfl (pM rfl rfl) ?_
    refine lNil ?_
    refine wBlock ?_
    refine wLoop (fun mm L h => ∃ i v, mm = ls.length - i ∧ i ≤ ls.length ∧ L = [(6, .x v), (25, .sl 1 ls.length (ls.flatMap encS)), (26, iA ls.length), (27, iA (i : Nat))] ∧ h = [DotS.factRow v (ls.take i).flatten]) ⟨_, _, _, _, ⟨0, _, rfl, Nat.zero_le _, rfl, rfl⟩, ⟨rfl, rfl, rfl, rfl, trivial⟩, rfl⟩ ?_
    rintro mm L h ⟨i, v, rfl, hi, rfl, rfl⟩
    have hsb : sumL (ls.take i) ≤ 100000000 := by
      have h1 := sumL_le (ls := ls.take i) fun l h => hl l (List.mem_of_mem_take h)
      rw [List.length_take] at h1
      omega
    refine wSeq ?_
    refine wReg ?_
    refine sP rfl rfl rfl (p_icmp rfl rfl rfl rfl) ?_
    refine lNil ?_
    refine wSeq ?_
    refine wCond rfl (fun hc3 => ?_) (fun hc3 => ?_)
    · have hlt : i < ls.length := by simpa using hc3
      obtain ⟨d, hd⟩ := getL hlt
      have hdl := hl d (List.mem_of_getElem? hd)
      refine wSkip ?_
      refine wSeq ?_
      refine wBlock ?_
      refine wSeq ?_
      refine wReg ?_
      refine sP rfl rfl rfl (pIdx (enc := encS) (l := ls) i rfl rfl Try.underlying184 ty27 (by decide) rfl (fun _ => rfl) rfl rfl hd) ?_
      refine sP rfl rfl rfl (pLd1 rfl rfl ty27) ?_
      refine sP rfl rfl rfl (pAs rfl rfl) ?_
      refine lNil ?_
      refine wReg ?_
      refine sP rfl rfl rfl (pM rfl rfl) ?_
      refine sP rfl rfl rfl (pMs rfl rfl) ?_
      refine sAppendL (enc := encA) (l := (ls.take i).flatten) 0 d rfl rfl rfl rfl Try.underlying27 ro23 rfl rfl rfl (fun _ => rfl) (by rw [flat_len_sum]; omega) (by rw [flat_len_sum]; omega) (fun v33 => ?_)
      refine sP rfl rfl rfl (pA rfl rfl) ?_
      refine lNil ?_
      refine wReg ?_
      refine sP rfl rfl rfl (p_iar rfl rfl rfl rfl) ?_
      refine sP rfl rfl rfl (pM rfl rfl) ?_
      refine lNil ?_
      refine ⟨_, _, [DotS.factRow v33 (ls.take (i + 1)).flatten], [], ?_, ⟨i + 1, v33, rfl, hlt, rfl, rfl⟩, ⟨rfl, rfl, rfl, avI (wrapI (by omega) (by omega)), trivial⟩, ?_⟩
      · omega
      · rw [cflat_take hd]; rfl
    · have hge : i = ls.length := by
        have h : ¬ i < ls.length := by simpa using hc3
        omega
      subst hge
      rw [List.take_length]
      refine wExit ?_
      refine wSeq ?_
      refine wReg ?_
      refine sP rfl rfl rfl (pM rfl rfl) ?_
      refine sP rfl rfl rfl (pA rfl rfl) ?_
      refine lNil ?_
      refine wRet ?_
      exact rgs1 (rg_tmp (gives_row (List.mem_of_getElem? (i := 0) rfl)))
set_option maxRecDepth 100000 in
theorem dequal_p (a b : List (Int × Int)) (ha : a.length < 1000000) (hb : b.length < 1000000) : PFn Try.prog False 153 [slD a, slD b] (bA (decide (a = b))) := by
  refine pfn Try.func153 rfl (by kernel_rfl) 26 rfl _ rfl (Nat.le_of_ble_eq_true rfl) (fun X w0 => ?_)
  refine wSeq ?_
  refine wReg ?_
  refine sP rfl rfl rfl (pA rfl rfl) ?_
  refine lNil ?_
  refine wSeq ?_
  refine wSeq ?_
  refine wReg ?_
  refine sP rfl rfl rfl (pMs rfl rfl) ?_
  refine sP rfl rfl rfl (p_len_sl rfl rfl Try.underlying27) ?_
  refine sP rfl rfl rfl (pMs rfl rfl) ?_
  refine sP rfl rfl rfl (p_len_sl rfl rfl Try.underlying27) ?_
  refine sP rfl rfl rfl (p_icmp rfl rfl rfl rfl) ?_
  refine lNil ?_
  refine wCond rfl (fun hc1 => ?_) (fun hc1 => ?_)
  · refine wSeq ?_
    refine wReg ?_
    refine sP rfl rfl rfl (pA rfl rfl) ?_
    refine lNil ?_
    refine wRet ?_
    have hne : a.length ≠ b.length := by have h := hc1; simp at h; omega
    exact rgs1 (rg_tmp (gives_sub (Sub.of_eq (avB (decide_eq_false fun e => hne (by rw [e])).symm))))
  · have hab : a.length = b.length := by have h := hc1; simp at h; omega
    refine wSkip ?_
    refine wSeq ?_
    refine wSeq ?_
    refine wReg ?_
    refine sP rfl rfl rfl (pMs rfl rfl) ?_
    refine sP rfl rfl rfl (p_len_sl rfl rfl Try.underlying27) ?_
    refine sP rfl rfl rfl (pM rfl rfl) ?_
    refine lNil ?_
    refine wBlock ?_
    refine wLoop (fun mm L h => ∃ i, mm = a.length - i ∧ i ≤ a.length ∧ (∀ j, j < i → a[j]? = b[j]?) ∧ L = [(0, slD a), (1, slD b), (12, iA a.length), (13, iA (i : Nat))] ∧ h = []) ⟨_, _, _, _, ⟨0, rfl, Nat.zero_le _, fun j hj => absurd hj (by omega), rfl, rfl⟩, ⟨rfl, rfl, rfl, rfl, trivial⟩, rfl⟩ ?_
    rintro mm L h ⟨i, rfl, hi, h0, rfl, rfl⟩
    refine wSeq ?_
    refine wReg ?_
    refine sP rfl rfl rfl (p_icmp rfl rfl rfl rfl) ?_
    refine lNil ?_
    refine wSeq ?_
    refine wCond rfl (fun hc2 => ?_) (fun hc2 => ?_)
    · have hlt : i < a.length := by simpa using hc2
      obtain ⟨x, hx⟩ := getL hlt
      obtain ⟨y, hy⟩ := getL (l := b) (i := i) (by omega)
      refine wSkip ?_
      refine wSeq ?_
      refine wBlock ?_
      refine wSeq ?_
      refine wReg ?_
      refine sP rfl rfl rfl (pM rfl rfl) ?_
      refine sP rfl rfl rfl (pA rfl rfl) ?_
      refine lNil ?_
      refine wSeq ?_
      refine wDraw 9 (by kernel_rfl) (by kernel_rfl) ?_
      refine sP rfl rfl rfl (pMs rfl rfl) ?_
      refine sP rfl rfl rfl (pM rfl rfl) ?_
      refine sP rfl rfl rfl (pIdx i rfl rfl Try.underlying27 ty23 (by decide) rfl (fun _ => rfl) rfl rfl hx) ?_
      refine sP rfl rfl rfl (pLdE rfl rfl ty23 rfl) ?_
      refine sP rfl rfl rfl (pMs rfl rfl) ?_
      refine sP rfl rfl rfl (pM rfl rfl) ?_
      refine sP rfl rfl rfl (pIdx i rfl rfl Try.underlying27 ty23 (by decide) rfl (fun _ => rfl) rfl rfl hy) ?_
      refine sP rfl rfl rfl (pLdE rfl rfl ty23 rfl) ?_
      refine sP rfl rfl rfl (p_nes rfl rfl rfl rfl rfl guardD (fun w => eqD 9998 w x y)) ?_
      refine lTail ?_
      refine lNil ?_
      refine wCond rfl (fun hc3 => ?_) (fun hc3 => ?_)
      · refine wSeq ?_
        refine wReg ?_
        refine sP rfl rfl rfl (pA rfl rfl) ?_
        refine lNil ?_
        refine wRet ?_
        have hne : x ≠ y := by simpa using hc3
        exact rgs1 (rg_tmp (gives_sub (Sub.of_eq (avB (decide_eq_false fun e => hne (by rw [e, hy] at hx; injection hx with hx; exact hx.symm)).symm))))
      · refine wSkip ?_
        refine wReg ?_
        refine sP rfl rfl rfl (p_iar rfl rfl rfl rfl) ?_
        refine sP rfl rfl rfl (pM rfl rfl) ?_
        refine lNil ?_
        have he : x = y := by simpa using hc3
        refine ⟨_, _, [], [], ?_, ⟨i + 1, rfl, hlt, fun j hj => ?_, rfl, rfl⟩, ⟨rfl, rfl, rfl, avI (wrapI (by omega) (by omega)), trivial⟩, rfl⟩
        · omega
        · rcases Nat.lt_or_ge j i with h | h
          · exact h0 j h
          · obtain rfl : j = i := by omega
            rw [hx, hy, he]
    · have hge : i = a.length := by
        have h : ¬ i < a.length := by simpa using hc2
        omega
      subst hge
      refine wExit ?_
      refine wSeq ?_
      refine wReg ?_
      refine sP rfl rfl rfl (pA rfl rfl) ?_
      refine lNil ?_
      refine wRet ?_
      have he : a = b := List.ext_getElem? fun j => by
        rcases Nat.lt_or_ge j a.length with g | g
        · exact h0 j g
        · rw [List.getElem?_eq_none g, List.getElem?_eq_none (by omega)]
      exact rgs1 (rg_tmp (gives_sub (Sub.of_eq (avB (decide_eq_true he).symm))))
end Go.Proofs.Ytmhkalalcmkpbaa

namespace Go.Proofs.Ytmhkalalcmkpbaa
open Go Go.RowKit
set_option linter.unusedVariables false
set_option linter.unusedSimpArgs false

def encI (n : Int) : List AV := [iA n]
abbrev iL (v : List Int) : List AV := v.map fun n => iA n
abbrev vA (v : List Int) : AV := .agg (iL v)
theorem vals_ints : ∀ (v : List Int), AV.vals (iL v) = v.map fun n => Value.int .i64 n
  | [] => rfl
  | n :: v => by show _ :: AV.vals (iL v) = _; rw [vals_ints v]; rfl
theorem exL_ints : ∀ (v : List Int), AV.exL (iL v) = true
  | [] => rfl
  | n :: v => by show (true && AV.exL (iL v)) = true; rw [exL_ints v]; rfl
theorem eqItems_ints {P : Program} {e : TypeId} (he : P.plainKey e = true) (hu : P.underlying e = some (.int .i64)) (hc : P.cellsOf e = 1) (d : Nat) (w : World) (v u : List Int) : ∀ (is : List Nat), (∀ i ∈ is, i < v.length ∧ i < u.length) →
    (Op.eqItems (d + 1) e 1 (v.map fun n => Value.int .i64 n).toArray (u.map fun n => Value.int .i64 n).toArray is).run P w = .ok (is.all fun i => decide (v[i]? = u[i]?)) w
  | [], _ => by simp [Op.eqItems]
  | i :: is, h => by
    obtain ⟨h1, h2⟩ := h i (by simp)
    have p1 : (part e (v.map fun n => Value.int .i64 n).toArray (i * 1)).run P w = .ok (.int .i64 v[i]) w := run_part_plain w he (by simp [h1])
    have p2 : (part e (u.map fun n => Value.int .i64 n).toArray (i * 1)).run P w = .ok (.int .i64 u[i]) w := run_part_plain w he (by simp [h2])
    have ih := eqItems_ints he hu hc d w v u is fun j hj => h j (by simp [hj])
    simp only [Op.eqItems, Sem.run_bind, p1, p2, Result.andThen_ok, run_equalIn_int w d e .i64 .i64 _ _ hu]
    by_cases e1 : v[i] = u[i]
    · simp only [e1, beq_self_eq_true, Bool.not_true, Bool.false_eq_true, if_false]
      rw [ih, List.all_cons, List.getElem?_eq_getElem h1, List.getElem?_eq_getElem h2, e1]
      simp
    · have e2 : (v[i] == u[i]) = false := by simpa using e1
      simp only [e2, Bool.not_false, if_true]
      rw [List.all_cons, List.getElem?_eq_getElem h1, List.getElem?_eq_getElem h2]
      simp [e1]
set_option maxRecDepth 100000 in
theorem eqV (w : World) (v u : List Int) (hv : v.length = 16) (hu : u.length = 16) : (Op.equalIn 10000 53 (.agg (AV.vals (iL v)).toArray) (.agg (AV.vals (iL u)).toArray)).run Try.prog w = .ok (decide (v = u)) w := by
  obtain ⟨ti, hti⟩ := Option.isSome_iff_exists.1 (show (Try.prog.info? 3).isSome = true by kernel_rfl)
  rw [vals_ints, vals_ints, run_equalIn_array (P := Try.prog) (w := w) 9999 (t := 53) (e := 3) (n := 16) _ _ (by kernel_rfl) hti, show Try.prog.cellsOf 3 = 1 by kernel_rfl,
    eqItems_ints (P := Try.prog) (by kernel_rfl) (by kernel_rfl) (by kernel_rfl) 9998 w v u (List.range 16) (fun i hi => by have := List.mem_range.1 hi; omega)]
  congr 1
  rw [Bool.eq_iff_iff, List.all_eq_true, decide_eq_true_eq]
  constructor
  · intro h
    refine List.ext_getElem? fun i => ?_
    rcases Nat.lt_or_ge i 16 with hi | hi
    · simpa using h i (List.mem_range.2 hi)
    · rw [List.getElem?_eq_none (by omega), List.getElem?_eq_none (by omega)]
  · rintro rfl i _
    simp
theorem guardV : Try.prog.eqGuardType Try.prog.depth 53 = false := by kernel_rfl
end Go.Proofs.Ytmhkalalcmkpbaa

namespace Go.Proofs.Ytmhkalalcmkpbaa
open Go
theorem ty53 : tyOf Try.prog 53 = some (true, 16) := by kernel_rfl
theorem ze53 : tyZero Try.prog 53 = some [.int .i64 0, .int .i64 0, .int .i64 0, .int .i64 0, .int .i64 0, .int .i64 0, .int .i64 0, .int .i64 0, .int .i64 0, .int .i64 0, .int .i64 0, .int .i64 0, .int .i64 0, .int .i64 0, .int .i64 0, .int .i64 0] := by kernel_rfl
theorem ro53 : rowOf Try.prog 53 = some (16, 128) := by kernel_rfl
theorem ty55 : tyOf Try.prog 55 = some (true, 17) := by kernel_rfl
theorem ze55 : tyZero Try.prog 55 = some [.int .i64 0, .int .i64 0, .int .i64 0, .int .i64 0, .int .i64 0, .int .i64 0, .int .i64 0, .int .i64 0, .int .i64 0, .int .i64 0, .int .i64 0, .int .i64 0, .int .i64 0, .int .i64 0, .int .i64 0, .int .i64 0, .slice none 0 0] := by kernel_rfl
theorem ro55 : rowOf Try.prog 55 = some (17, 152) := by kernel_rfl
theorem fl55_0 : tyField Try.prog 55 0 = some (0, 53) := by kernel_rfl
theorem fl55_1 : tyField Try.prog 55 1 = some (16, 27) := by kernel_rfl
theorem pl55 : stPlaces Try.prog 55 = some [(0, 16), (16, 1)] := by kernel_rfl
theorem ty52 : tyOf Try.prog 52 = some (true, 16) := by kernel_rfl
theorem ze52 : tyZero Try.prog 52 = some [.int .i64 0, .int .i64 0, .int .i64 0, .int .i64 0, .int .i64 0, .int .i64 0, .int .i64 0, .int .i64 0, .int .i64 0, .int .i64 0, .int .i64 0, .int .i64 0, .int .i64 0, .int .i64 0, .int .i64 0, .int .i64 0] := by kernel_rfl
theorem ro52 : rowOf Try.prog 52 = some (16, 128) := by kernel_rfl
end Go.Proofs.Ytmhkalalcmkpbaa

namespace Go.Proofs.Ytmhkalalcmkpbaa
open Go Go.RowKit
set_option linter.unusedVariables false
set_option linter.unusedSimpArgs false

theorem iL_len {v : List Int} (h : v.length = 16) : (iL v).length = 16 := by rw [List.length_map]; exact h
theorem iL_at {v : List Int} {i : Nat} {x : Int} (h : v[i]? = some x) : (iL v)[i * 1]? = some (iA x) := by rw [Nat.mul_one, List.getElem?_map, h]; rfl
theorem iL_at0 {v : List Int} {i : Nat} {x : Int} (h : v[i]? = some x) : (iL v)[0 + i * 1]? = some (iA x) := by rw [Nat.zero_add]; exact iL_at h
theorem iL_set {v : List Int} {i : Nat} {x : Int} : (iL v).set (0 + i * 1) (iA x) = iL (v.set i x) := by
  rw [Nat.zero_add, Nat.mul_one]
  exact List.map_set.symm
theorem spl_whole {α : Type} {cs news : List α} (h : cs.length = news.length) : spl cs 0 news = news := by
  unfold spl
  rw [Nat.zero_add, ← h, List.drop_length]
  simp
theorem zeroV_len : zeroV.length = 16 := rfl
theorem vget_at {v : List Int} {r : Int} (h : v.length = 16) (h0 : 0 ≤ r) (h1 : r < 16) : v[r.toNat]? = some (vget v r) := by
  have hr : r.toNat < v.length := by omega
  unfold vget
  rw [getD_lt hr, List.getElem?_eq_getElem hr]
theorem eql0_t {a : Int} (h : a = 0) : icmp .eql a 0 = some true := congrArg some (decide_eq_true h)
theorem eql0_f {a : Int} (h : a ≠ 0) : icmp .eql a 0 = some false := congrArg some (decide_eq_false h)
theorem leqq_t {a b : Int} (h : a ≤ b) : icmp .leq a b = some true := congrArg some (decide_eq_true h)
theorem leqq_f {a b : Int} (h : ¬ a ≤ b) : icmp .leq a b = some false := congrArg some (decide_eq_false h)
def badN (x : Int) : Bool := decide (x < 0) || decide (1099511627776 < x)
theorem badN_ok {x : Int} (h : badN x = false) : vOk x = true := by
  unfold badN at h; unfold vOk
  rw [Bool.or_eq_false_iff, decide_eq_false_iff_not, decide_eq_false_iff_not] at h
  rw [decide_eq_true (by omega : 0 ≤ x), decide_eq_true (by omega : x ≤ 1099511627776)]; rfl
theorem badN_no {x : Int} (h : badN x = true) : vOk x = false := by
  cases hh : vOk x with
  | false => rfl
  | true =>
    unfold badN at h; unfold vOk at hh
    rw [Bool.or_eq_true, decide_eq_true_eq, decide_eq_true_eq] at h
    rw [Bool.and_eq_true, decide_eq_true_eq, decide_eq_true_eq] at hh
    omega
theorem vE_bad {v : List Int} {i : Nat} {x : Int} (h : v[i]? = some x) (hb : badN x = true) : vE v = 2 := by
  unfold vE
  rw [if_neg]
  intro hall
  have := List.all_eq_true.1 hall x (List.mem_of_getElem? h)
  rw [badN_no hb] at this; cases this
theorem vE_all {v : List Int} (h : ∀ (j : Nat) y, v[j]? = some y → vOk y = true) : vE v = 0 := by
  unfold vE
  rw [if_pos]
  exact List.all_eq_true.2 fun x hx => by obtain ⟨j, hj⟩ := List.mem_iff_getElem?.1 hx; exact h j x hj
theorem has_cases (v : List Int) (d : Int × Int) : (chk d ≠ 0 ∧ vhas v d = false) ∨ (chk d = 0 ∧ d.2 ≤ vget v d.1 ∧ vhas v d = true) ∨ (chk d = 0 ∧ ¬ d.2 ≤ vget v d.1 ∧ vhas v d = false) := by
  unfold vhas
  by_cases h1 : chk d = 0
  · by_cases h2 : d.2 ≤ vget v d.1
    · exact .inr (.inl ⟨h1, h2, by rw [decide_eq_true h1, decide_eq_true h2]; rfl⟩)
    · exact .inr (.inr ⟨h1, h2, by rw [decide_eq_false h2]; simp⟩)
  · exact .inl ⟨h1, by rw [decide_eq_false h1]; rfl⟩
def vTo (f : Int → Int → Int) (a b : List Int) (i : Nat) : List Int := (List.zipWith f a b).take i ++ a.drop i
theorem vTo_len {f : Int → Int → Int} {a b : List Int} (ha : a.length = 16) (hb : b.length = 16) {i : Nat} (hi : i ≤ 16) : (vTo f a b i).length = 16 := by
  unfold vTo; rw [List.length_append, List.length_take, List.length_drop, List.length_zipWith]; omega
theorem vTo_at {f : Int → Int → Int} {a b : List Int} {i : Nat} {x : Int} (ha : a.length = 16) (hb : b.length = 16) (hi : i < 16) (h : a[i]? = some x) : (vTo f a b i)[i]? = some x := by
  unfold vTo
  have hl : ((List.zipWith f a b).take i).length = i := by rw [List.length_take, List.length_zipWith]; omega
  rw [List.getElem?_append_right (by omega), hl, Nat.sub_self, List.getElem?_drop, Nat.add_zero]; exact h
theorem vTo_set {f : Int → Int → Int} {a b : List Int} {i : Nat} {x y : Int} (ha : a.length = 16) (hb : b.length = 16) (hi : i < 16) (h : a[i]? = some x) (h2 : b[i]? = some y) : (vTo f a b i).set i (f x y) = vTo f a b (i + 1) := by
  unfold vTo
  have hl : ((List.zipWith f a b).take i).length = i := by rw [List.length_take, List.length_zipWith]; omega
  have hz : i < (List.zipWith f a b).length := by rw [List.length_zipWith]; omega
  have hia : i < a.length := by omega
  rw [List.set_append_right _ _ (by omega), hl, Nat.sub_self, List.drop_eq_getElem_cons hia, List.set_cons_zero, ← List.take_append_getElem hz, List.append_assoc, List.getElem_zipWith]
  have e1 : a[i] = x := (List.getElem?_eq_some_iff.1 h).2
  have e2 : b[i]'(by omega) = y := (List.getElem?_eq_some_iff.1 h2).2
  rw [e1, e2]; rfl
theorem vTo_all {f : Int → Int → Int} {a b : List Int} (ha : a.length = 16) (hb : b.length = 16) : vTo f a b 16 = List.zipWith f a b := by
  unfold vTo
  rw [List.take_of_length_le (by rw [List.length_zipWith]; omega), List.drop_eq_nil_of_le (by omega), List.append_nil]
theorem vTo_zero (f : Int → Int → Int) (a b : List Int) : vTo f a b 0 = a := by unfold vTo; simp
theorem avV {a b : List Int} (h : a = b) : vA a = vA b := by rw [h]
theorem nums16 (v : List Int) (hv : v.length = 16) (k : Nat) : (cat ((v.take k).map numS)).size ≤ 128 := by
  have h := cat_size (k := 8) ((v.take k).map numS) fun x hx => by obtain ⟨n, _, rfl⟩ := List.mem_map.1 hx; exact numS_size n
  have h2 : ((v.take k).map numS).length ≤ 16 := by rw [List.length_map, List.length_take]; omega
  omega
theorem vputS_err {v : List Int} (h : vE v ≠ 0) : vputS v = ⟨#[]⟩ := if_pos h
theorem vputS_ok {v : List Int} (h : vE v = 0) : vputS v = cat (v.map numS) := if_neg (by simpa using h)
theorem vmax_len' {a b : List Int} (ha : a.length = 16) (hb : b.length = 16) : (vmax a b).length = 16 := vmax_len ha hb

set_option maxRecDepth 100000 in
theorem vcheck_p (v : List Int) (hv : v.length = 16) : PFn Try.prog False 95 [vA v] (iA (vE v)) := by
  refine pfn Try.func95 rfl (by kernel_rfl) 16 rfl _ rfl (Nat.le_of_ble_eq_true rfl) (fun X w0 => ?_)
  refine wSeq ?_
  refine wReg ?_
  refine sBox rfl rfl rfl rfl rfl (fun g1 => ?_)
  refine sP rfl rfl rfl (pA rfl rfl) ?_
  refine lNil ?_
  refine wSeq ?_
  refine wSeq ?_
  refine wReg ?_
  refine sP rfl rfl rfl (pLdW 0 rfl rfl rfl ty53 (iL_len hv)) ?_
  refine sP rfl rfl rfl (pM rfl rfl) ?_
  refine lNil ?_
  refine wBlock ?_
  refine wLoop (fun mm L h => ∃ i, mm = 16 - i ∧ i ≤ 16 ∧ (∀ j y, j < i → v[j]? = some y → vOk y = true) ∧ L = [(5, vA v), (6, iA (i : Nat))] ∧ h = []) ⟨_, _, _, _, ⟨0, rfl, Nat.zero_le _, fun j y hj => absurd hj (by omega), rfl, rfl⟩, ⟨rfl, rfl, trivial⟩, rfl⟩ ?_
  rintro mm L h ⟨i, rfl, hi, h0, rfl, rfl⟩
  refine wSeq ?_
  refine wReg ?_
  refine sP rfl rfl rfl (p_icmp rfl rfl rfl rfl) ?_
  refine lNil ?_
  refine wSeq ?_
  refine wCond rfl (fun hc1 => ?_) (fun hc1 => ?_)
  · have hi16 : i < 16 := by have h := hc1; simp at h; omega
    obtain ⟨x, hx⟩ : ∃ x, v[i]? = some x := getL (by omega)
    refine wSkip ?_
    refine wSeq ?_
    refine wBlock ?_
    refine wSeq ?_
    refine wReg ?_
    refine sP rfl rfl rfl (p_index_arr rfl rfl Try.underlying53 ty3 rfl (i := i) rfl hi16 (.inr ⟨rfl, iL_at hx⟩)) ?_
    refine sP rfl rfl rfl (pA rfl rfl) ?_
    refine lNil ?_
    refine wCut (fun L h => ∃ b : Bool, b = (badN x) ∧ L = [(4, iA x), (5, vA v), (6, iA (i : Nat)), (14, bA b)] ∧ h = []) ?_ ?_
    · cases hb : (decide (x < 0)) with
      | true =>
        refine wReg ?_
        refine sP rfl rfl rfl (pM rfl rfl) ?_
        refine sP rfl rfl rfl (p_icmp rfl rfl rfl (congrArg some hb)) ?_
        refine sP rfl rfl rfl (pM rfl rfl) ?_
        refine sU rfl rfl rfl (by decide) rfl rfl ?_
        refine sU rfl rfl rfl (by decide) rfl rfl ?_
        refine sP rfl rfl rfl (p_pick rfl rfl rfl) ?_
        refine lNil ?_
        exact ⟨_, [], [], ⟨_, (by exact (by unfold badN; rw [hb]; rfl)), rfl, rfl⟩, ⟨rfl, rfl, rfl, rfl, trivial⟩, rfl⟩
      | false =>
        refine wReg ?_
        refine sP rfl rfl rfl (pM rfl rfl) ?_
        refine sP rfl rfl rfl (p_icmp rfl rfl rfl (congrArg some hb)) ?_
        refine sP rfl rfl rfl (pM rfl rfl) ?_
        refine sG rfl rfl rfl rfl rfl (pM rfl rfl) ?_
        refine sG rfl rfl rfl rfl rfl (p_icmp rfl rfl rfl rfl) ?_
        refine sP rfl rfl rfl (p_pick rfl rfl rfl) ?_
        refine lNil ?_
        exact ⟨_, [], [], ⟨_, (by exact (by unfold badN; rw [hb]; rfl)), rfl, rfl⟩, ⟨rfl, rfl, rfl, rfl, trivial⟩, rfl⟩
    · rintro L h ⟨b, hb, rfl, rfl⟩
      refine wCond rfl (fun hc2 => ?_) (fun hc2 => ?_)
      · refine wSeq ?_
        refine wReg ?_
        refine sP rfl rfl rfl (pA rfl rfl) ?_
        refine lNil ?_
        refine wRet ?_
        exact rgs1 (rg_tmp (gives_sub (Sub.of_eq (avI (vE_bad hx (hb.symm.trans hc2)).symm))))
      · refine wSkip ?_
        refine wReg ?_
        refine sP rfl rfl rfl (p_iar rfl rfl rfl rfl) ?_
        refine sP rfl rfl rfl (pM rfl rfl) ?_
        refine lNil ?_
        have hok := badN_ok (hb.symm.trans hc2)
        refine ⟨_, _, [], _, ?_, ⟨i + 1, rfl, hi16, fun j y hj hy => ?_, rfl, rfl⟩, ⟨rfl, avI (wrapI (by omega) (by omega)), trivial⟩, rfl⟩
        · omega
        · rcases Nat.lt_or_ge j i with h | h
          · exact h0 j y h hy
          · obtain rfl : j = i := by omega
            rw [hx] at hy; injection hy with hy; rw [← hy]; exact hok
  · have hge : i = 16 := by have h := hc1; simp at h; omega
    subst hge
    refine wExit ?_
    refine wSeq ?_
    refine wReg ?_
    refine sP rfl rfl rfl (pA rfl rfl) ?_
    refine lNil ?_
    refine wRet ?_
    exact rgs1 (rg_tmp (gives_sub (Sub.of_eq (avI (vE_all fun j y hy => h0 j y (by have := (List.getElem?_eq_some_iff.1 hy).1; omega) hy).symm))))
theorem ones_ints : ∀ v : List Int, AV.ones (iL v) = true
  | [] => rfl
  | n :: v => by show (true && AV.ones (iL v)) = true; rw [ones_ints v]; rfl

set_option maxRecDepth 100000 in
theorem vjoin_p (a b : List Int) (ha : a.length = 16) (hb : b.length = 16) : PFn Try.prog False 121 [vA a, vA b] (vA (vmax a b)) := by
  refine pfn Try.func121 rfl (by kernel_rfl) 21 rfl _ rfl (Nat.le_of_ble_eq_true rfl) (fun X w0 => ?_)
  refine wSeq ?_
  refine wReg ?_
  refine sBox rfl rfl rfl rfl rfl (fun g2 => ?_)
  refine sBox rfl rfl rfl rfl rfl (fun g3 => ?_)
  refine sAlloc rfl rfl rfl rfl ze53 (fun g4 => ?_)
  refine lNil ?_
  refine wSeq ?_
  refine wSeq ?_
  refine wReg ?_
  refine sP rfl rfl rfl (pLdW 1 rfl rfl rfl ty53 (iL_len hb)) ?_
  refine sP rfl rfl rfl (pM rfl rfl) ?_
  refine lNil ?_
  refine wBlock ?_
  refine wLoop (fun mm L h => ∃ i, mm = 16 - i ∧ i ≤ 16 ∧ L = [(2, .x (.pointer (some ⟨g2, 0, none⟩))), (4, .x (.pointer (some ⟨g4, 0, none⟩))), (7, vA b), (8, iA (i : Nat))] ∧ h = [.cells g2 53 (iL (vTo max a b i)), .cells g3 53 (iL b), .cells g4 53 (iL zeroV)]) ⟨_, _, [.cells g2 53 (iL a), .cells g3 53 (iL b), .cells g4 53 (iL zeroV)], _, ⟨0, rfl, Nat.zero_le _, rfl, by rw [vTo_zero]⟩, ⟨rfl, rfl, rfl, rfl, trivial⟩, rfl⟩ ?_
  rintro mm L h ⟨i, rfl, hi, rfl, rfl⟩
  refine wSeq ?_
  refine wReg ?_
  refine sP rfl rfl rfl (p_icmp rfl rfl rfl rfl) ?_
  refine lNil ?_
  refine wSeq ?_
  refine wCond rfl (fun hc1 => ?_) (fun hc1 => ?_)
  · have hi16 : i < 16 := by have h := hc1; simp at h; omega
    obtain ⟨x, hx⟩ : ∃ x, a[i]? = some x := getL (by omega)
    obtain ⟨y, hy⟩ : ∃ y, b[i]? = some y := getL (by omega)
    refine wSkip ?_
    refine wSeq ?_
    refine wBlock ?_
    refine wSeq ?_
    refine wReg ?_
    refine sP rfl rfl rfl (pM rfl rfl) ?_
    refine sP rfl rfl rfl (p_index_arr rfl rfl Try.underlying53 ty3 rfl (i := i) rfl hi16 (.inr ⟨rfl, iL_at hy⟩)) ?_
    refine sP rfl rfl rfl (pA rfl rfl) ?_
    refine sP rfl rfl rfl (pA rfl rfl) ?_
    refine lNil ?_
    refine wReg ?_
    refine sP rfl rfl rfl (pM rfl rfl) ?_
    refine sP rfl rfl rfl (pM rfl rfl) ?_
    refine sP rfl rfl rfl (p_indexAddr_arr rfl rfl Try.underlying53 ty3 rfl (i := i) rfl hi16) ?_
    refine sP rfl rfl rfl (pLdO1 0 rfl rfl rfl ty3 (iL_at0 (vTo_at ha hb hi16 hx))) ?_
    refine sP rfl rfl rfl (pM rfl rfl) ?_
    refine sP rfl rfl rfl (p_max rfl rfl rfl) ?_
    refine sP rfl rfl rfl (p_indexAddr_arr rfl rfl Try.underlying53 ty3 rfl (i := i) rfl hi16) ?_
    refine sStore1 0 rfl rfl rfl rfl rfl ty3 rfl rfl (by rw [iL_len (vTo_len ha hb hi)]; omega) ?_
    refine lNil ?_
    refine wReg ?_
    refine sP rfl rfl rfl (p_iar rfl rfl rfl rfl) ?_
    refine sP rfl rfl rfl (pM rfl rfl) ?_
    refine lNil ?_
    refine ⟨_, _, [.cells g2 53 (iL (vTo max a b (i + 1))), .cells g3 53 (iL b), .cells g4 53 (iL zeroV)], [], ?_, ⟨i + 1, rfl, hi16, rfl, rfl⟩, ⟨rfl, rfl, rfl, avI (wrapI (by omega) (by omega)), trivial⟩, ?_⟩
    · omega
    · show [HObj.cells g2 _ ((iL (vTo max a b i)).set (0 + i * 1) (iA (max x y))), _, _] = _
      rw [iL_set, vTo_set ha hb hi16 hx hy]
      rfl
  · have hge : i = 16 := by have h := hc1; simp at h; omega
    subst hge
    refine wExit ?_
    refine wSeq ?_
    refine wReg ?_
    refine sP rfl rfl rfl (pLdW 0 rfl rfl rfl ty53 (iL_len (vTo_len ha hb (Nat.le_refl _)))) ?_
    refine sStore 2 rfl rfl rfl rfl rfl ty53 rfl (ones_ints _) (iL_len (vTo_len ha hb (Nat.le_refl _))) (Nat.le_of_ble_eq_true rfl) ?_
    refine lNil ?_
    refine wRet ?_
    have hsp : spl (iL zeroV) 0 (iL (vTo max a b 16)) = iL (vmax a b) := by
      rw [spl_whole (by rw [iL_len zeroV_len, iL_len (vTo_len ha hb (Nat.le_refl _))]), vTo_all ha hb]
      rfl
    exact rgs1 (rg_cell rfl (List.mem_of_getElem? (i := 2) rfl) ty53 (.inl ⟨rfl, by rw [hsp, iL_len (vmax_len ha hb)]; exact Nat.le_refl _, rfl⟩) (gives_sub (Sub.of_eq (by rw [hsp, List.take_of_length_le (by rw [iL_len (vmax_len ha hb)]; exact Nat.le_refl _)]))))
set_option maxRecDepth 100000 in
theorem vhas_p (v : List Int) (d : Int × Int) (hv : v.length = 16) : PFn Try.prog False 99 [vA v, dA d] (bA (vhas v d)) := by
  refine pfn Try.func99 rfl (by kernel_rfl) 17 rfl _ rfl (Nat.le_of_ble_eq_true rfl) (fun X w0 => ?_)
  refine wSeq ?_
  refine wReg ?_
  refine sBox rfl rfl rfl rfl rfl (fun g2 => ?_)
  refine sBox rfl rfl rfl rfl rfl (fun g3 => ?_)
  refine sP rfl rfl rfl (pA rfl rfl) ?_
  refine lNil ?_
  refine wCut (fun L h => ∃ b : Bool, b = (vhas v d) ∧ L = [(2, .x (.pointer (some ⟨g2, 0, none⟩))), (4, bA b)] ∧ h = []) ?_ ?_
  · rcases has_cases v d with ⟨e1, hbv⟩ | ⟨e1, e2, hbv⟩ | ⟨e1, e2, hbv⟩
    · refine wDraw 13 (by kernel_rfl) (by kernel_rfl) ?_
      refine sP rfl rfl rfl (pLdW 1 rfl rfl rfl ty23 rfl) ?_
      refine sP rfl rfl rfl (p_call rfl (dcheck_p d) ⟨Sub.refl, trivial⟩) ?_
      refine sP rfl rfl rfl (p_icmp rfl rfl rfl (eql0_f e1)) ?_
      refine sP rfl rfl rfl (pM rfl rfl) ?_
      refine sUx rfl rfl rfl (by decide) rfl rfl ?_
      refine sUx rfl rfl rfl (by decide) rfl rfl ?_
      refine sUx rfl rfl rfl (by decide) rfl rfl ?_
      refine sUx rfl rfl rfl (by decide) rfl rfl ?_
      refine sUx rfl rfl rfl (by decide) rfl rfl ?_
      refine sUx rfl rfl rfl (by decide) rfl rfl ?_
      refine sUx rfl rfl rfl (by decide) rfl rfl ?_
      refine sP rfl rfl rfl (p_pick rfl rfl rfl) ?_
      refine sP rfl rfl rfl (pA rfl rfl) ?_
      refine lTail ?_
      refine lNil ?_
      exact ⟨_, [], _, ⟨_, (by exact hbv.symm), rfl, rfl⟩, ⟨rfl, rfl, trivial⟩, rfl⟩
    · refine wDraw 13 (by kernel_rfl) (by kernel_rfl) ?_
      refine sP rfl rfl rfl (pLdW 1 rfl rfl rfl ty23 rfl) ?_
      refine sP rfl rfl rfl (p_call rfl (dcheck_p d) ⟨Sub.refl, trivial⟩) ?_
      refine sP rfl rfl rfl (p_icmp rfl rfl rfl (eql0_t e1)) ?_
      refine sP rfl rfl rfl (pM rfl rfl) ?_
      refine sG rfl rfl rfl rfl rfl (p_fieldAddr_own rfl rfl fl23_1 ty3 (by decide)) ?_
      refine sG rfl rfl rfl rfl rfl (pLdO1 1 rfl rfl rfl ty3 rfl) ?_
      refine sG rfl rfl rfl rfl rfl (p_fieldAddr_own rfl rfl fl23_0 ty3 (by decide)) ?_
      refine sG rfl rfl rfl rfl rfl (pLdO1 1 rfl rfl rfl ty3 rfl) ?_
      refine sG rfl rfl rfl rfl rfl (p_indexAddr_arr rfl rfl Try.underlying53 ty3 rfl (i := d.1.toNat) (by have := (chk_iff d).1 e1; omega) (by have := (chk_iff d).1 e1; omega)) ?_
      refine sG rfl rfl rfl rfl rfl (pLdO1 0 rfl rfl rfl ty3 (iL_at0 (vget_at hv ((chk_iff d).1 e1).1 ((chk_iff d).1 e1).2.1))) ?_
      refine sG rfl rfl rfl rfl rfl (p_icmp rfl rfl rfl (leqq_t e2)) ?_
      refine sP rfl rfl rfl (p_pick rfl rfl rfl) ?_
      refine sP rfl rfl rfl (pA rfl rfl) ?_
      refine lTail ?_
      refine lNil ?_
      exact ⟨_, [], _, ⟨_, (by exact hbv.symm), rfl, rfl⟩, ⟨rfl, rfl, trivial⟩, rfl⟩
    · refine wDraw 13 (by kernel_rfl) (by kernel_rfl) ?_
      refine sP rfl rfl rfl (pLdW 1 rfl rfl rfl ty23 rfl) ?_
      refine sP rfl rfl rfl (p_call rfl (dcheck_p d) ⟨Sub.refl, trivial⟩) ?_
      refine sP rfl rfl rfl (p_icmp rfl rfl rfl (eql0_t e1)) ?_
      refine sP rfl rfl rfl (pM rfl rfl) ?_
      refine sG rfl rfl rfl rfl rfl (p_fieldAddr_own rfl rfl fl23_1 ty3 (by decide)) ?_
      refine sG rfl rfl rfl rfl rfl (pLdO1 1 rfl rfl rfl ty3 rfl) ?_
      refine sG rfl rfl rfl rfl rfl (p_fieldAddr_own rfl rfl fl23_0 ty3 (by decide)) ?_
      refine sG rfl rfl rfl rfl rfl (pLdO1 1 rfl rfl rfl ty3 rfl) ?_
      refine sG rfl rfl rfl rfl rfl (p_indexAddr_arr rfl rfl Try.underlying53 ty3 rfl (i := d.1.toNat) (by have := (chk_iff d).1 e1; omega) (by have := (chk_iff d).1 e1; omega)) ?_
      refine sG rfl rfl rfl rfl rfl (pLdO1 0 rfl rfl rfl ty3 (iL_at0 (vget_at hv ((chk_iff d).1 e1).1 ((chk_iff d).1 e1).2.1))) ?_
      refine sG rfl rfl rfl rfl rfl (p_icmp rfl rfl rfl (leqq_f e2)) ?_
      refine sP rfl rfl rfl (p_pick rfl rfl rfl) ?_
      refine sP rfl rfl rfl (pA rfl rfl) ?_
      refine lTail ?_
      refine lNil ?_
      exact ⟨_, [], _, ⟨_, (by exact hbv.symm), rfl, rfl⟩, ⟨rfl, rfl, trivial⟩, rfl⟩
  · rintro L h ⟨b, hb, rfl, rfl⟩
    refine wRet ?_
    exact rgs1 (rg_tmp (gives_sub (Sub.of_eq (avB hb))))
set_option maxRecDepth 100000 in
theorem vput_p (v : List Int) (hv : v.length = 16) : PFn Try.prog False 92 [vA v] (.tup [sA (vputS v), iA (vE v)]) := by
  refine pfn Try.func92 rfl (by kernel_rfl) 29 rfl _ rfl (Nat.le_of_ble_eq_true rfl) (fun X w0 => ?_)
  refine wSeq ?_
  refine wReg ?_
  refine sBox rfl rfl rfl rfl rfl (fun g1 => ?_)
  refine sP rfl rfl rfl (pA rfl rfl) ?_
  refine sP rfl rfl rfl (pA rfl rfl) ?_
  refine lNil ?_
  refine wSeq ?_
  refine wSeq ?_
  refine wReg ?_
  refine sP rfl rfl rfl (pLdW 0 rfl rfl rfl ty53 (iL_len hv)) ?_
  refine sP rfl rfl rfl (p_call rfl (vcheck_p v hv) ⟨Sub.refl, trivial⟩) ?_
  refine sP rfl rfl rfl (pA rfl rfl) ?_
  refine lNil ?_
  refine wSeq ?_
  refine wReg ?_
  refine sP rfl rfl rfl (pM rfl rfl) ?_
  refine sP rfl rfl rfl (p_icmp rfl rfl rfl rfl) ?_
  refine lNil ?_
  refine wCond rfl (fun hc1 => ?_) (fun hc1 => ?_)
  · refine wSeq ?_
    refine wReg ?_
    refine sP rfl rfl rfl (pM rfl rfl) ?_
    refine sP rfl rfl rfl (pA rfl rfl) ?_
    refine sP rfl rfl rfl (pA rfl rfl) ?_
    refine lNil ?_
    refine wRet ?_
    have h : vE v ≠ 0 := by simpa using hc1
    exact rgs2 (rg_tmp (gives_sub (Sub.of_eq (avS (vputS_err h).symm)))) (rg_tmp (gives_sub Sub.refl))
  · have hz : vE v = 0 := by simpa using hc1
    refine wSkip ?_
    refine wSeq ?_
    refine wReg ?_
    refine sP rfl rfl rfl (pA rfl rfl) ?_
    refine lNil ?_
    refine wSeq ?_
    refine wSeq ?_
    refine wReg ?_
    refine sP rfl rfl rfl (pLdW 0 rfl rfl rfl ty53 (iL_len hv)) ?_
    refine sP rfl rfl rfl (pM rfl rfl) ?_
    refine lNil ?_
    refine wBlock ?_
    refine wLoop (fun mm L h => ∃ i s, mm = 16 - i ∧ i ≤ 16 ∧ s = cat ((v.take i).map numS) ∧ L = [(5, sA s), (15, vA v), (16, iA (i : Nat))] ∧ h = []) ⟨_, _, _, _, ⟨0, _, rfl, Nat.zero_le _, rfl, rfl, rfl⟩, ⟨rfl, rfl, rfl, trivial⟩, rfl⟩ ?_
    rintro mm L h ⟨i, s, rfl, hi, hs, rfl, rfl⟩
    refine wSeq ?_
    refine wReg ?_
    refine sP rfl rfl rfl (p_icmp rfl rfl rfl rfl) ?_
    refine lNil ?_
    refine wSeq ?_
    refine wCond rfl (fun hc2 => ?_) (fun hc2 => ?_)
    · have hi16 : i < 16 := by have h := hc2; simp at h; omega
      obtain ⟨x, hx⟩ : ∃ x, v[i]? = some x := getL (by omega)
      have hsz : s.size ≤ 128 := by rw [hs]; exact nums16 v hv i
      have hnz := numS_size x
      refine wSkip ?_
      refine wSeq ?_
      refine wBlock ?_
      refine wSeq ?_
      refine wReg ?_
      refine sP rfl rfl rfl (p_index_arr rfl rfl Try.underlying53 ty3 rfl (i := i) rfl hi16 (.inr ⟨rfl, iL_at hx⟩)) ?_
      refine sP rfl rfl rfl (pA rfl rfl) ?_
      refine lNil ?_
      refine wSeq ?_
      refine wReg ?_
      refine sP rfl rfl rfl (pM rfl rfl) ?_
      refine sP rfl rfl rfl (p_call rfl (num_p x) ⟨Sub.refl, trivial⟩) ?_
      refine sP rfl rfl rfl (pMt rfl rfl) ?_
      refine sP rfl rfl rfl (p_extract rfl rfl rfl) ?_
      refine sP rfl rfl rfl (p_extract rfl rfl rfl) ?_
      refine sP rfl rfl rfl (pA rfl rfl) ?_
      refine sP rfl rfl rfl (pA rfl rfl) ?_
      refine lNil ?_
      refine wReg ?_
      refine sP rfl rfl rfl (pM rfl rfl) ?_
      refine sP rfl rfl rfl (pM rfl rfl) ?_
      refine sP rfl rfl rfl (p_sadd rfl rfl rfl (by omega)) ?_
      refine sP rfl rfl rfl (pA rfl rfl) ?_
      refine lNil ?_
      refine wReg ?_
      refine sP rfl rfl rfl (p_iar rfl rfl rfl rfl) ?_
      refine sP rfl rfl rfl (pM rfl rfl) ?_
      refine lNil ?_
      refine ⟨_, _, [], [], ?_, ⟨i + 1, _, rfl, hi16, ?_, rfl, rfl⟩, ⟨rfl, rfl, avI (wrapI (by omega) (by omega)), trivial⟩, rfl⟩
      · omega
      · rw [hs]; exact cat_take0 numS hx
    · have hge : i = 16 := by have h := hc2; simp at h; omega
      subst hge
      refine wExit ?_
      refine wSeq ?_
      refine wReg ?_
      refine sP rfl rfl rfl (pM rfl rfl) ?_
      refine sP rfl rfl rfl (pA rfl rfl) ?_
      refine sP rfl rfl rfl (pA rfl rfl) ?_
      refine lNil ?_
      refine wRet ?_
      have hS : s = vputS v := by rw [vputS_ok hz, hs, List.take_of_length_le (by omega)]
      exact rgs2 (rg_tmp (gives_sub (Sub.of_eq (avS hS)))) (rg_tmp (gives_sub (Sub.of_eq (avI hz.symm))))
end Go.Proofs.Ytmhkalalcmkpbaa

namespace Go.Proofs.Ytmhkalalcmkpbaa
open Go Go.RowKit
set_option linter.unusedVariables false
set_option linter.unusedSimpArgs false

def vpad (st : ByteArray × Int) (i : Nat) : List Int := (rdV i st).1 ++ List.replicate (16 - i) 0
theorem vpad_len (st : ByteArray × Int) {i : Nat} (h : i ≤ 16) : (vpad st i).length = 16 := by unfold vpad; rw [List.length_append, rdV_len, List.length_replicate]; omega
theorem vpad_set (st : ByteArray × Int) {i : Nat} (h : i < 16) : (vpad st i).set i ((rdN (rdV i st).2).1 : Int) = vpad st (i + 1) := by
  unfold vpad
  have hl := rdV_len i st
  rw [List.set_append_right _ _ (by omega), hl, Nat.sub_self, show 16 - i = (16 - (i + 1)) + 1 by omega, List.replicate_succ, List.set_cons_zero]
  show _ = ((rdV i st).1 ++ [_]) ++ _
  rw [List.append_assoc]; rfl
theorem vpad_all (st : ByteArray × Int) : vpad st 16 = (rdV 16 st).1 := by unfold vpad; rw [Nat.sub_self, List.replicate_zero, List.append_nil]

set_option maxRecDepth 100000 in
theorem rvcheck_p (v : List Int) (hv : v.length = 16) : PFn Try.prog False 97 [vA v] (iA (vE v)) := by
  refine pfn Try.func97 rfl (by kernel_rfl) 18 rfl _ rfl (Nat.le_of_ble_eq_true rfl) (fun X w0 => ?_)
  refine wSeq ?_
  refine wReg ?_
  refine sBox rfl rfl rfl rfl rfl (fun g1 => ?_)
  refine sP rfl rfl rfl (pA rfl rfl) ?_
  refine lNil ?_
  refine wSeq ?_
  refine wSeq ?_
  refine wReg ?_
  refine sP rfl rfl rfl (pA rfl rfl) ?_
  refine lNil ?_
  refine wBlock ?_
  refine wLoop (fun mm L h => ∃ i, mm = 16 - i ∧ i ≤ 16 ∧ (∀ j y, j < i → v[j]? = some y → vOk y = true) ∧ L = [(1, .x (.pointer (some ⟨g1, 0, none⟩))), (3, iA (i : Nat))] ∧ h = [.cells g1 53 (iL v)]) ⟨_, _, _, _, ⟨0, rfl, Nat.zero_le _, fun j y hj => absurd hj (by omega), rfl, rfl⟩, ⟨rfl, rfl, trivial⟩, rfl⟩ ?_
  rintro mm L h ⟨i, rfl, hi, h0, rfl, rfl⟩
  refine wSeq ?_
  refine wSeq ?_
  refine wReg ?_
  refine sP rfl rfl rfl (pM rfl rfl) ?_
  refine sP rfl rfl rfl (p_icmp rfl rfl rfl rfl) ?_
  refine lNil ?_
  refine wCond rfl (fun hc1 => ?_) (fun hc1 => ?_)
  · have hi16 : i < 16 := by have h := hc1; simp at h; omega
    obtain ⟨x, hx⟩ : ∃ x, v[i]? = some x := getL (by omega)
    refine wSkip ?_
    refine wSeq ?_
    refine wBlock ?_
    refine wCut (fun L h => ∃ b : Bool, b = (badN x) ∧ L = [(1, .x (.pointer (some ⟨g1, 0, none⟩))), (3, iA (i : Nat)), (17, bA b)] ∧ h = [.cells g1 53 (iL v)]) ?_ ?_
    · cases hb : (decide (x < 0)) with
      | true =>
        refine wReg ?_
        refine sP rfl rfl rfl (pM rfl rfl) ?_
        refine sP rfl rfl rfl (p_indexAddr_arr rfl rfl Try.underlying53 ty3 rfl (i := i) rfl hi16) ?_
        refine sP rfl rfl rfl (pLdO1 0 rfl rfl rfl ty3 (iL_at0 hx)) ?_
        refine sP rfl rfl rfl (p_icmp rfl rfl rfl (congrArg some hb)) ?_
        refine sP rfl rfl rfl (pM rfl rfl) ?_
        refine sU rfl rfl rfl (by decide) rfl rfl ?_
        refine sU rfl rfl rfl (by decide) rfl rfl ?_
        refine sU rfl rfl rfl (by decide) rfl rfl ?_
        refine sU rfl rfl rfl (by decide) rfl rfl ?_
        refine sP rfl rfl rfl (p_pick rfl rfl rfl) ?_
        refine lNil ?_
        exact ⟨_, [.cells g1 53 (iL v)], [], ⟨_, (by exact (by unfold badN; rw [hb]; rfl)), rfl, rfl⟩, ⟨rfl, rfl, rfl, trivial⟩, rfl⟩
      | false =>
        refine wReg ?_
        refine sP rfl rfl rfl (pM rfl rfl) ?_
        refine sP rfl rfl rfl (p_indexAddr_arr rfl rfl Try.underlying53 ty3 rfl (i := i) rfl hi16) ?_
        refine sP rfl rfl rfl (pLdO1 0 rfl rfl rfl ty3 (iL_at0 hx)) ?_
        refine sP rfl rfl rfl (p_icmp rfl rfl rfl (congrArg some hb)) ?_
        refine sP rfl rfl rfl (pM rfl rfl) ?_
        refine sG rfl rfl rfl rfl rfl (pM rfl rfl) ?_
        refine sG rfl rfl rfl rfl rfl (p_indexAddr_arr rfl rfl Try.underlying53 ty3 rfl (i := i) rfl hi16) ?_
        refine sG rfl rfl rfl rfl rfl (pLdO1 0 rfl rfl rfl ty3 (iL_at0 hx)) ?_
        refine sG rfl rfl rfl rfl rfl (p_icmp rfl rfl rfl rfl) ?_
        refine sP rfl rfl rfl (p_pick rfl rfl rfl) ?_
        refine lNil ?_
        exact ⟨_, [.cells g1 53 (iL v)], [], ⟨_, (by exact (by unfold badN; rw [hb]; rfl)), rfl, rfl⟩, ⟨rfl, rfl, rfl, trivial⟩, rfl⟩
    · rintro L h ⟨b, hb, rfl, rfl⟩
      refine wCond rfl (fun hc2 => ?_) (fun hc2 => ?_)
      · refine wSeq ?_
        refine wReg ?_
        refine sP rfl rfl rfl (pA rfl rfl) ?_
        refine lNil ?_
        refine wRet ?_
        exact rgs1 (rg_tmp (gives_sub (Sub.of_eq (avI (vE_bad hx (hb.symm.trans hc2)).symm))))
      · refine wSkip ?_
        refine wReg ?_
        refine sP rfl rfl rfl (pM rfl rfl) ?_
        refine sP rfl rfl rfl (p_iar rfl rfl rfl rfl) ?_
        refine sP rfl rfl rfl (pA rfl rfl) ?_
        refine lNil ?_
        have hok := badN_ok (hb.symm.trans hc2)
        refine ⟨_, _, [.cells g1 53 (iL v)], [], ?_, ⟨i + 1, rfl, hi16, fun j y hj hy => ?_, rfl, rfl⟩, ⟨rfl, avI (wrapI (by omega) (by omega)), trivial⟩, rfl⟩
        · omega
        · rcases Nat.lt_or_ge j i with h | h
          · exact h0 j y h hy
          · obtain rfl : j = i := by omega
            rw [hx] at hy; injection hy with hy; rw [← hy]; exact hok
  · have hge : i = 16 := by have h := hc1; simp at h; omega
    subst hge
    refine wExit ?_
    refine wSeq ?_
    refine wReg ?_
    refine sP rfl rfl rfl (pA rfl rfl) ?_
    refine lNil ?_
    refine wRet ?_
    exact rgs1 (rg_tmp (gives_sub (Sub.of_eq (avI (vE_all fun j y hy => h0 j y (by have := (List.getElem?_eq_some_iff.1 hy).1; omega) hy).symm))))
set_option maxRecDepth 100000 in
theorem rvjoin_p (a b : List Int) (ha : a.length = 16) (hb : b.length = 16) : PFn Try.prog False 122 [vA a, vA b] (vA (vmax a b)) := by
  refine pfn Try.func122 rfl (by kernel_rfl) 20 rfl _ rfl (Nat.le_of_ble_eq_true rfl) (fun X w0 => ?_)
  refine wSeq ?_
  refine wReg ?_
  refine sBox rfl rfl rfl rfl rfl (fun g2 => ?_)
  refine sBox rfl rfl rfl rfl rfl (fun g3 => ?_)
  refine sAlloc rfl rfl rfl rfl ze53 (fun g4 => ?_)
  refine lNil ?_
  refine wSeq ?_
  refine wSeq ?_
  refine wReg ?_
  refine sP rfl rfl rfl (pA rfl rfl) ?_
  refine lNil ?_
  refine wBlock ?_
  refine wLoop (fun mm L h => ∃ i, mm = 16 - i ∧ i ≤ 16 ∧ L = [(2, .x (.pointer (some ⟨g2, 0, none⟩))), (3, .x (.pointer (some ⟨g3, 0, none⟩))), (4, .x (.pointer (some ⟨g4, 0, none⟩))), (5, iA (i : Nat))] ∧ h = [.cells g2 53 (iL (vTo max a b i)), .cells g3 53 (iL b), .cells g4 53 (iL zeroV)]) ⟨_, _, [.cells g2 53 (iL a), .cells g3 53 (iL b), .cells g4 53 (iL zeroV)], _, ⟨0, rfl, Nat.zero_le _, rfl, by rw [vTo_zero]⟩, ⟨rfl, rfl, rfl, rfl, trivial⟩, rfl⟩ ?_
  rintro mm L h ⟨i, rfl, hi, rfl, rfl⟩
  refine wSeq ?_
  refine wSeq ?_
  refine wReg ?_
  refine sP rfl rfl rfl (pM rfl rfl) ?_
  refine sP rfl rfl rfl (p_icmp rfl rfl rfl rfl) ?_
  refine lNil ?_
  refine wCond rfl (fun hc1 => ?_) (fun hc1 => ?_)
  · have hi16 : i < 16 := by have h := hc1; simp at h; omega
    obtain ⟨x, hx⟩ : ∃ x, a[i]? = some x := getL (by omega)
    obtain ⟨y, hy⟩ : ∃ y, b[i]? = some y := getL (by omega)
    refine wSkip ?_
    refine wSeq ?_
    refine wBlock ?_
    refine wDraw 9 (by kernel_rfl) (by kernel_rfl) ?_
    refine sP rfl rfl rfl (pM rfl rfl) ?_
    refine sP rfl rfl rfl (pM rfl rfl) ?_
    refine sP rfl rfl rfl (p_indexAddr_arr rfl rfl Try.underlying53 ty3 rfl (i := i) rfl hi16) ?_
    refine sP rfl rfl rfl (pLdO1 0 rfl rfl rfl ty3 (iL_at0 (vTo_at ha hb hi16 hx))) ?_
    refine sP rfl rfl rfl (pM rfl rfl) ?_
    refine sP rfl rfl rfl (p_indexAddr_arr rfl rfl Try.underlying53 ty3 rfl (i := i) rfl hi16) ?_
    refine sP rfl rfl rfl (pLdO1 1 rfl rfl rfl ty3 (iL_at0 hy)) ?_
    refine sP rfl rfl rfl (p_max rfl rfl rfl) ?_
    refine sP rfl rfl rfl (p_indexAddr_arr rfl rfl Try.underlying53 ty3 rfl (i := i) rfl hi16) ?_
    refine lTail ?_
    refine sStore1 0 rfl rfl rfl rfl rfl ty3 rfl rfl (by rw [iL_len (vTo_len ha hb hi)]; omega) ?_
    refine lNil ?_
    refine wReg ?_
    refine sP rfl rfl rfl (pM rfl rfl) ?_
    refine sP rfl rfl rfl (p_iar rfl rfl rfl rfl) ?_
    refine sP rfl rfl rfl (pA rfl rfl) ?_
    refine lNil ?_
    refine ⟨_, _, [.cells g2 53 (iL (vTo max a b (i + 1))), .cells g3 53 (iL b), .cells g4 53 (iL zeroV)], [], ?_, ⟨i + 1, rfl, hi16, rfl, rfl⟩, ⟨rfl, rfl, rfl, avI (wrapI (by omega) (by omega)), trivial⟩, ?_⟩
    · omega
    · show [HObj.cells g2 _ ((iL (vTo max a b i)).set (0 + i * 1) (iA (max x y))), _, _] = _
      rw [iL_set, vTo_set ha hb hi16 hx hy]
      rfl
  · have hge : i = 16 := by have h := hc1; simp at h; omega
    subst hge
    refine wExit ?_
    refine wSeq ?_
    refine wReg ?_
    refine sP rfl rfl rfl (pLdW 0 rfl rfl rfl ty53 (iL_len (vTo_len ha hb (Nat.le_refl _)))) ?_
    refine sStore 2 rfl rfl rfl rfl rfl ty53 rfl (ones_ints _) (iL_len (vTo_len ha hb (Nat.le_refl _))) (Nat.le_of_ble_eq_true rfl) ?_
    refine lNil ?_
    refine wRet ?_
    have hsp : spl (iL zeroV) 0 (iL (vTo max a b 16)) = iL (vmax a b) := by
      rw [spl_whole (by rw [iL_len zeroV_len, iL_len (vTo_len ha hb (Nat.le_refl _))]), vTo_all ha hb]
      rfl
    exact rgs1 (rg_cell rfl (List.mem_of_getElem? (i := 2) rfl) ty53 (.inl ⟨rfl, by rw [hsp, iL_len (vmax_len ha hb)]; exact Nat.le_refl _, rfl⟩) (gives_sub (Sub.of_eq (by rw [hsp, List.take_of_length_le (by rw [iL_len (vmax_len ha hb)]; exact Nat.le_refl _)]))))
set_option maxRecDepth 100000 in
theorem rvhas_p (v : List Int) (d : Int × Int) (hv : v.length = 16) : PFn Try.prog False 119 [vA v, dA d] (bA (vhas v d)) := by
  refine pfn Try.func119 rfl (by kernel_rfl) 17 rfl _ rfl (Nat.le_of_ble_eq_true rfl) (fun X w0 => ?_)
  refine wSeq ?_
  refine wReg ?_
  refine sBox rfl rfl rfl rfl rfl (fun g2 => ?_)
  refine sBox rfl rfl rfl rfl rfl (fun g3 => ?_)
  refine sP rfl rfl rfl (pA rfl rfl) ?_
  refine lNil ?_
  refine wCut (fun L h => ∃ b : Bool, b = (vhas v d) ∧ L = [(2, .x (.pointer (some ⟨g2, 0, none⟩))), (4, bA b)] ∧ h = []) ?_ ?_
  · rcases has_cases v d with ⟨e1, hbv⟩ | ⟨e1, e2, hbv⟩ | ⟨e1, e2, hbv⟩
    · refine wDraw 13 (by kernel_rfl) (by kernel_rfl) ?_
      refine sP rfl rfl rfl (pLdW 1 rfl rfl rfl ty23 rfl) ?_
      refine sP rfl rfl rfl (p_call rfl (rdcheck_p d) ⟨Sub.refl, trivial⟩) ?_
      refine sP rfl rfl rfl (p_icmp rfl rfl rfl (eql0_f e1)) ?_
      refine sP rfl rfl rfl (pM rfl rfl) ?_
      refine sUx rfl rfl rfl (by decide) rfl rfl ?_
      refine sUx rfl rfl rfl (by decide) rfl rfl ?_
      refine sUx rfl rfl rfl (by decide) rfl rfl ?_
      refine sUx rfl rfl rfl (by decide) rfl rfl ?_
      refine sUx rfl rfl rfl (by decide) rfl rfl ?_
      refine sUx rfl rfl rfl (by decide) rfl rfl ?_
      refine sUx rfl rfl rfl (by decide) rfl rfl ?_
      refine sP rfl rfl rfl (p_pick rfl rfl rfl) ?_
      refine sP rfl rfl rfl (pA rfl rfl) ?_
      refine lTail ?_
      refine lNil ?_
      exact ⟨_, [], _, ⟨_, (by exact hbv.symm), rfl, rfl⟩, ⟨rfl, rfl, trivial⟩, rfl⟩
    · refine wDraw 13 (by kernel_rfl) (by kernel_rfl) ?_
      refine sP rfl rfl rfl (pLdW 1 rfl rfl rfl ty23 rfl) ?_
      refine sP rfl rfl rfl (p_call rfl (rdcheck_p d) ⟨Sub.refl, trivial⟩) ?_
      refine sP rfl rfl rfl (p_icmp rfl rfl rfl (eql0_t e1)) ?_
      refine sP rfl rfl rfl (pM rfl rfl) ?_
      refine sG rfl rfl rfl rfl rfl (p_fieldAddr_own rfl rfl fl23_1 ty3 (by decide)) ?_
      refine sG rfl rfl rfl rfl rfl (pLdO1 1 rfl rfl rfl ty3 rfl) ?_
      refine sG rfl rfl rfl rfl rfl (p_fieldAddr_own rfl rfl fl23_0 ty3 (by decide)) ?_
      refine sG rfl rfl rfl rfl rfl (pLdO1 1 rfl rfl rfl ty3 rfl) ?_
      refine sG rfl rfl rfl rfl rfl (p_indexAddr_arr rfl rfl Try.underlying53 ty3 rfl (i := d.1.toNat) (by have := (chk_iff d).1 e1; omega) (by have := (chk_iff d).1 e1; omega)) ?_
      refine sG rfl rfl rfl rfl rfl (pLdO1 0 rfl rfl rfl ty3 (iL_at0 (vget_at hv ((chk_iff d).1 e1).1 ((chk_iff d).1 e1).2.1))) ?_
      refine sG rfl rfl rfl rfl rfl (p_icmp rfl rfl rfl (leqq_t e2)) ?_
      refine sP rfl rfl rfl (p_pick rfl rfl rfl) ?_
      refine sP rfl rfl rfl (pA rfl rfl) ?_
      refine lTail ?_
      refine lNil ?_
      exact ⟨_, [], _, ⟨_, (by exact hbv.symm), rfl, rfl⟩, ⟨rfl, rfl, trivial⟩, rfl⟩
    · refine wDraw 13 (by kernel_rfl) (by kernel_rfl) ?_
      refine sP rfl rfl rfl (pLdW 1 rfl rfl rfl ty23 rfl) ?_
      refine sP rfl rfl rfl (p_call rfl (rdcheck_p d) ⟨Sub.refl, trivial⟩) ?_
      refine sP rfl rfl rfl (p_icmp rfl rfl rfl (eql0_t e1)) ?_
      refine sP rfl rfl rfl (pM rfl rfl) ?_
      refine sG rfl rfl rfl rfl rfl (p_fieldAddr_own rfl rfl fl23_1 ty3 (by decide)) ?_
      refine sG rfl rfl rfl rfl rfl (pLdO1 1 rfl rfl rfl ty3 rfl) ?_
      refine sG rfl rfl rfl rfl rfl (p_fieldAddr_own rfl rfl fl23_0 ty3 (by decide)) ?_
      refine sG rfl rfl rfl rfl rfl (pLdO1 1 rfl rfl rfl ty3 rfl) ?_
      refine sG rfl rfl rfl rfl rfl (p_indexAddr_arr rfl rfl Try.underlying53 ty3 rfl (i := d.1.toNat) (by have := (chk_iff d).1 e1; omega) (by have := (chk_iff d).1 e1; omega)) ?_
      refine sG rfl rfl rfl rfl rfl (pLdO1 0 rfl rfl rfl ty3 (iL_at0 (vget_at hv ((chk_iff d).1 e1).1 ((chk_iff d).1 e1).2.1))) ?_
      refine sG rfl rfl rfl rfl rfl (p_icmp rfl rfl rfl (leqq_f e2)) ?_
      refine sP rfl rfl rfl (p_pick rfl rfl rfl) ?_
      refine sP rfl rfl rfl (pA rfl rfl) ?_
      refine lTail ?_
      refine lNil ?_
      exact ⟨_, [], _, ⟨_, (by exact hbv.symm), rfl, rfl⟩, ⟨rfl, rfl, trivial⟩, rfl⟩
  · rintro L h ⟨b, hb, rfl, rfl⟩
    refine wRet ?_
    exact rgs1 (rg_tmp (gives_sub (Sub.of_eq (avB hb))))
set_option maxRecDepth 100000 in
theorem rvput_p (v : List Int) (hv : v.length = 16) : PFn Try.prog False 93 [vA v] (.tup [sA (vputS v), iA (vE v)]) := by
  refine pfn Try.func93 rfl (by kernel_rfl) 29 rfl _ rfl (Nat.le_of_ble_eq_true rfl) (fun X w0 => ?_)
  refine wSeq ?_
  refine wReg ?_
  refine sBox rfl rfl rfl rfl rfl (fun g1 => ?_)
  refine sP rfl rfl rfl (pA rfl rfl) ?_
  refine sP rfl rfl rfl (pA rfl rfl) ?_
  refine lNil ?_
  refine wSeq ?_
  refine wSeq ?_
  refine wReg ?_
  refine sP rfl rfl rfl (pLdW 0 rfl rfl rfl ty53 (iL_len hv)) ?_
  refine sP rfl rfl rfl (p_call rfl (rvcheck_p v hv) ⟨Sub.refl, trivial⟩) ?_
  refine sP rfl rfl rfl (pA rfl rfl) ?_
  refine lNil ?_
  refine wSeq ?_
  refine wReg ?_
  refine sP rfl rfl rfl (pM rfl rfl) ?_
  refine sP rfl rfl rfl (p_icmp rfl rfl rfl rfl) ?_
  refine lNil ?_
  refine wCond rfl (fun hc1 => ?_) (fun hc1 => ?_)
  · refine wSeq ?_
    refine wReg ?_
    refine sP rfl rfl rfl (pM rfl rfl) ?_
    refine sP rfl rfl rfl (pA rfl rfl) ?_
    refine sP rfl rfl rfl (pA rfl rfl) ?_
    refine lNil ?_
    refine wRet ?_
    have h : vE v ≠ 0 := by simpa using hc1
    exact rgs2 (rg_tmp (gives_sub (Sub.of_eq (avS (vputS_err h).symm)))) (rg_tmp (gives_sub Sub.refl))
  · have hz : vE v = 0 := by simpa using hc1
    refine wSkip ?_
    refine wSeq ?_
    refine wReg ?_
    refine sP rfl rfl rfl (pA rfl rfl) ?_
    refine lNil ?_
    refine wSeq ?_
    refine wSeq ?_
    refine wReg ?_
    refine sP rfl rfl rfl (pA rfl rfl) ?_
    refine lNil ?_
    refine wBlock ?_
    refine wLoop (fun mm L h => ∃ i s, mm = 16 - i ∧ i ≤ 16 ∧ s = cat ((v.take i).map numS) ∧ L = [(1, .x (.pointer (some ⟨g1, 0, none⟩))), (5, sA s), (6, iA (i : Nat))] ∧ h = [.cells g1 53 (iL v)]) ⟨_, _, _, _, ⟨0, _, rfl, Nat.zero_le _, rfl, rfl, rfl⟩, ⟨rfl, rfl, rfl, trivial⟩, rfl⟩ ?_
    rintro mm L h ⟨i, s, rfl, hi, hs, rfl, rfl⟩
    refine wSeq ?_
    refine wSeq ?_
    refine wReg ?_
    refine sP rfl rfl rfl (pM rfl rfl) ?_
    refine sP rfl rfl rfl (p_icmp rfl rfl rfl rfl) ?_
    refine lNil ?_
    refine wCond rfl (fun hc2 => ?_) (fun hc2 => ?_)
    · have hi16 : i < 16 := by have h := hc2; simp at h; omega
      obtain ⟨x, hx⟩ : ∃ x, v[i]? = some x := getL (by omega)
      have hsz : s.size ≤ 128 := by rw [hs]; exact nums16 v hv i
      have hnz := numS_size x
      refine wSkip ?_
      refine wSeq ?_
      refine wBlock ?_
      refine wSeq ?_
      refine wReg ?_
      refine sP rfl rfl rfl (pM rfl rfl) ?_
      refine sP rfl rfl rfl (p_indexAddr_arr rfl rfl Try.underlying53 ty3 rfl (i := i) rfl hi16) ?_
      refine sP rfl rfl rfl (pLdO1 0 rfl rfl rfl ty3 (iL_at0 hx)) ?_
      refine sP rfl rfl rfl (p_call rfl (rnum_p x) ⟨Sub.refl, trivial⟩) ?_
      refine sP rfl rfl rfl (pMt rfl rfl) ?_
      refine sP rfl rfl rfl (p_extract rfl rfl rfl) ?_
      refine sP rfl rfl rfl (p_extract rfl rfl rfl) ?_
      refine sP rfl rfl rfl (pA rfl rfl) ?_
      refine sP rfl rfl rfl (pA rfl rfl) ?_
      refine lNil ?_
      refine wReg ?_
      refine sP rfl rfl rfl (pM rfl rfl) ?_
      refine sP rfl rfl rfl (pM rfl rfl) ?_
      refine sP rfl rfl rfl (p_sadd rfl rfl rfl (by omega)) ?_
      refine sP rfl rfl rfl (pA rfl rfl) ?_
      refine lNil ?_
      refine wReg ?_
      refine sP rfl rfl rfl (pM rfl rfl) ?_
      refine sP rfl rfl rfl (p_iar rfl rfl rfl rfl) ?_
      refine sP rfl rfl rfl (pA rfl rfl) ?_
      refine lNil ?_
      refine ⟨_, _, [.cells g1 53 (iL v)], [], ?_, ⟨i + 1, _, rfl, hi16, ?_, rfl, rfl⟩, ⟨rfl, rfl, avI (wrapI (by omega) (by omega)), trivial⟩, rfl⟩
      · omega
      · rw [hs]; exact cat_take0 numS hx
    · have hge : i = 16 := by have h := hc2; simp at h; omega
      subst hge
      refine wExit ?_
      refine wSeq ?_
      refine wReg ?_
      refine sP rfl rfl rfl (pM rfl rfl) ?_
      refine sP rfl rfl rfl (pA rfl rfl) ?_
      refine sP rfl rfl rfl (pA rfl rfl) ?_
      refine lNil ?_
      refine wRet ?_
      have hS : s = vputS v := by rw [vputS_ok hz, hs, List.take_of_length_le (by omega)]
      exact rgs2 (rg_tmp (gives_sub (Sub.of_eq (avS hS)))) (rg_tmp (gives_sub (Sub.of_eq (avI hz.symm))))
set_option maxRecDepth 100000 in
theorem rvtake_p (st : ByteArray × Int) (hs : st.1.size < 9223372036854775807) : PFn Try.prog False 96 [rA st] (.tup [rA (rdV 16 st).2, vA (rdV 16 st).1]) := by
  refine pfn Try.func96 rfl (by kernel_rfl) 23 rfl _ rfl (Nat.le_of_ble_eq_true rfl) (fun X w0 => ?_)
  refine wSeq ?_
  refine wReg ?_
  refine sBox rfl rfl rfl rfl rfl (fun g1 => ?_)
  refine sAlloc rfl rfl rfl rfl ze127 (fun g2 => ?_)
  refine sAlloc rfl rfl rfl rfl ze53 (fun g3 => ?_)
  refine lNil ?_
  refine wSeq ?_
  refine wReg ?_
  refine sAlloc rfl rfl rfl rfl ze53 (fun g4 => ?_)
  refine lNil ?_
  refine wSeq ?_
  refine wSeq ?_
  refine wReg ?_
  refine sP rfl rfl rfl (pA rfl rfl) ?_
  refine lNil ?_
  refine wBlock ?_
  refine wLoop (fun mm L h => ∃ i, mm = 16 - i ∧ i ≤ 16 ∧ L = [(1, .x (.pointer (some ⟨g1, 0, none⟩))), (2, .x (.pointer (some ⟨g2, 0, none⟩))), (3, .x (.pointer (some ⟨g3, 0, none⟩))), (4, .x (.pointer (some ⟨g4, 0, none⟩))), (5, iA (i : Nat))] ∧ h = [.cells g1 127 [sA (rdV i st).2.1, iA (rdV i st).2.2], .cells g2 127 [sA ⟨#[]⟩, iA 0], .cells g3 53 (iL zeroV), .cells g4 53 (iL (vpad st i))]) ⟨_, _, [.cells g1 127 [sA (rdV 0 st).2.1, iA (rdV 0 st).2.2], .cells g2 127 [sA ⟨#[]⟩, iA 0], .cells g3 53 (iL zeroV), .cells g4 53 (iL (vpad st 0))], _, ⟨0, rfl, Nat.zero_le _, rfl, rfl⟩, ⟨rfl, rfl, rfl, rfl, rfl, trivial⟩, rfl⟩ ?_
  rintro mm L h ⟨i, rfl, hi, rfl, rfl⟩
  refine wSeq ?_
  refine wSeq ?_
  refine wReg ?_
  refine sP rfl rfl rfl (pM rfl rfl) ?_
  refine sP rfl rfl rfl (p_icmp rfl rfl rfl rfl) ?_
  refine lNil ?_
  refine wCond rfl (fun hc1 => ?_) (fun hc1 => ?_)
  · have hi16 : i < 16 := by have h := hc1; simp at h; omega
    refine wSkip ?_
    refine wSeq ?_
    refine wBlock ?_
    refine wSeq ?_
    refine wReg ?_
    refine sP rfl rfl rfl (pLdW 0 rfl rfl rfl ty127 rfl) ?_
    refine sP rfl rfl rfl (p_call rfl (rrnum_p (rdV i st).2 (Nat.lt_of_le_of_lt (rdV_size i st) hs)) ⟨Sub.refl, trivial⟩) ?_
    refine sP rfl rfl rfl (pMt rfl rfl) ?_
    refine sP rfl rfl rfl (p_extract rfl rfl rfl) ?_
    refine sP rfl rfl rfl (p_extract rfl rfl rfl) ?_
    refine sAlloc rfl rfl rfl rfl ze127 (fun g6 => ?_)
    refine sStore 4 rfl rfl rfl rfl rfl ty127 rfl rfl rfl (Nat.le_of_ble_eq_true rfl) ?_
    refine sP rfl rfl rfl (pA rfl rfl) ?_
    refine lNil ?_
    refine wSeq ?_
    refine wReg ?_
    refine sP rfl rfl rfl (pLdW 4 rfl rfl rfl ty127 rfl) ?_
    refine sStore 0 rfl rfl rfl rfl rfl ty127 rfl rfl rfl (Nat.le_of_ble_eq_true rfl) ?_
    refine lNil ?_
    refine wReg ?_
    refine sP rfl rfl rfl (pM rfl rfl) ?_
    refine sP rfl rfl rfl (pM rfl rfl) ?_
    refine sP rfl rfl rfl (p_indexAddr_arr rfl rfl Try.underlying53 ty3 rfl (i := i) rfl hi16) ?_
    refine sStore1 3 rfl rfl rfl rfl rfl ty3 rfl rfl (by rw [iL_len (vpad_len st hi)]; omega) ?_
    refine lNil ?_
    refine wReg ?_
    refine sP rfl rfl rfl (pM rfl rfl) ?_
    refine sP rfl rfl rfl (p_iar rfl rfl rfl rfl) ?_
    refine sP rfl rfl rfl (pA rfl rfl) ?_
    refine lNil ?_
    refine ⟨_, _, [.cells g1 127 [sA (rdV (i + 1) st).2.1, iA (rdV (i + 1) st).2.2], .cells g2 127 [sA ⟨#[]⟩, iA 0], .cells g3 53 (iL zeroV), .cells g4 53 (iL (vpad st (i + 1)))], [.cells g6 127 [sA (rdV (i + 1) st).2.1, iA (rdV (i + 1) st).2.2]], ?_, ⟨i + 1, rfl, hi16, rfl, rfl⟩, ⟨rfl, rfl, rfl, rfl, avI (wrapI (by omega) (by omega)), trivial⟩, ?_⟩
    · omega
    · show [_, _, _, HObj.cells g4 _ ((iL (vpad st i)).set (0 + i * 1) (iA ((rdN (rdV i st).2).1 : Nat))), _] = _
      rw [iL_set, vpad_set st hi16]
      rfl
  · have hge : i = 16 := by have h := hc1; simp at h; omega
    subst hge
    have hqa := vpad_all st
    have hql := vpad_len st (i := 16) (Nat.le_refl _)
    have hpl := rdV_len 16 st
    generalize vpad st 16 = q at hqa hql ⊢
    generalize rdV 16 st = p at hqa hpl ⊢
    refine wExit ?_
    refine wSeq ?_
    refine wDrawM 4 (by kernel_rfl) (by kernel_rfl) (fun m => [.cells g1 127 [sA p.2.1, iA p.2.2], .cells g2 127 (match m with | 0 => [sA ⟨#[]⟩, iA 0] | _ => [sA p.2.1, iA p.2.2]), .cells g3 53 (match m with | 2 => spl (iL zeroV) 0 (iL q) | _ => iL zeroV), .cells g4 53 (iL q)]) [2, 3] (by kernel_rfl) rfl (fun m _ => rfl) ?_
    refine dwP rfl rfl rfl rfl rfl (fun k al => (pLdW 0 rfl rfl rfl ty127 rfl)) ?_
    refine dwP rfl rfl rfl rfl rfl (fun k al => (pLdW 3 rfl rfl rfl ty53 (iL_len hql))) ?_
    refine dwS 0 rfl rfl rfl rfl (fun al => mstep_storeE 1 rfl rfl rfl ty127 rfl rfl rfl (Nat.le_of_ble_eq_true rfl) rfl) ?_
    refine dwS 1 rfl rfl rfl rfl (fun al => mstep_storeE 2 rfl rfl rfl ty53 rfl (ones_ints _) (iL_len hql) (Nat.le_of_ble_eq_true rfl) rfl) ?_
    refine dwNil ?_
    refine lNil ?_
    refine wRet ?_
    have hsp : spl (iL zeroV) 0 (iL q) = iL p.1 := by
      rw [spl_whole (by rw [iL_len zeroV_len, iL_len hql]), hqa]
    have hl : (iL p.1).length = 16 := iL_len hpl
    exact rgs2 (rg_cell rfl (List.mem_of_getElem? (i := 1) rfl) ty127 (.inl ⟨rfl, Nat.le_refl _, rfl⟩) (gives_sub Sub.refl)) (rg_cell rfl (List.mem_of_getElem? (i := 2) rfl) ty53 (.inl ⟨rfl, by rw [hsp]; show 16 ≤ (iL p.1).length; rw [hl]; exact Nat.le_refl _, rfl⟩) (gives_sub (Sub.of_eq (by rw [hsp]; show AV.agg ((iL p.1).take 16) = _; rw [List.take_of_length_le (by rw [hl]; exact Nat.le_refl _)]))))
end Go.Proofs.Ytmhkalalcmkpbaa

namespace Go.Proofs.Ytmhkalalcmkpbaa
open Go.ChangeShapes Go.WideShapes Go.ChangeAt Go.RowKit Go.Deep
set_option linter.unusedVariables false
set_option linter.unusedSimpArgs false

set_option maxRecDepth 100000 in
theorem el_stamp {H : Type} {enc : TypeId × Value → H} {W : World} {b0 : Nat} {sp : Nat → Bool} {hd : Bool} (fuel : Nat) (cs : List Value) (x : DataW H × List MemPlace)
    (h : DataW.trod enc Try.prog W b0 sp hd fuel 25 cs = some x) : ∃ a b c : Int, cs = [.int .i64 a, .int .i64 b, .int .i64 c] := by
  obtain ⟨ys, n, _, hx, hlen, hyl, hf⟩ := DataW.trod_struct Try.underlying25 h
  have hC : Try.prog.cellsOf 25 = 3 := by kernel_rfl
  have hI : Try.prog.cellsOf 3 = 1 := by kernel_rfl
  rw [hC] at hlen
  match cs, hlen with
  | [c0, c1, c2], _ =>
    match ys, hyl with
    | [y0, y1, y2], _ =>
      have h0 : DataW.trod enc Try.prog W b0 sp hd n 3 ((([c0, c1, c2] : List Value).drop 0).take (Try.prog.cellsOf 3)) = some y0 := hf 0 _ rfl
      have h1 : DataW.trod enc Try.prog W b0 sp hd n 3 ((([c0, c1, c2] : List Value).drop 1).take (Try.prog.cellsOf 3)) = some y1 := hf 1 _ rfl
      have h2 : DataW.trod enc Try.prog W b0 sp hd n 3 ((([c0, c1, c2] : List Value).drop 2).take (Try.prog.cellsOf 3)) = some y2 := hf 2 _ rfl
      rw [hI] at h0 h1 h2
      obtain ⟨z0, e0, _⟩ := DataW.trod_int Try.underlying3 h0
      obtain ⟨z1, e1, _⟩ := DataW.trod_int Try.underlying3 h1
      obtain ⟨z2, e2, _⟩ := DataW.trod_int Try.underlying3 h2
      simp at e0 e1 e2
      exact ⟨z0, z1, z2, by rw [e0, e1, e2]⟩
set_option maxRecDepth 100000 in
/-- The cells of one fact. -/
theorem el_fact {H : Type} {enc : TypeId × Value → H} {W : World} {b0 : Nat} {sp : Nat → Bool} {hd : Bool} (fuel : Nat) (cs : List Value) (x : DataW H × List MemPlace)
    (h : DataW.trod enc Try.prog W b0 sp hd fuel 87 cs = some x) : ∃ y : FactT, cs = encV y := by
  obtain ⟨ys, n, _, hx, hlen, hyl, hf⟩ := DataW.trod_struct Try.underlying87 h
  have hC : Try.prog.cellsOf 87 = 8 := by kernel_rfl
  have hI : Try.prog.cellsOf 3 = 1 := by kernel_rfl
  have hS : Try.prog.cellsOf 9 = 1 := by kernel_rfl
  have hD : Try.prog.cellsOf 23 = 2 := by kernel_rfl
  have hW : Try.prog.cellsOf 25 = 3 := by kernel_rfl
  rw [hC] at hlen
  match cs, hlen with
  | [c0, c1, c2, c3, c4, c5, c6, c7], _ =>
    match ys, hyl with
    | [y0, y1, y2, y3, y4], _ =>
      have h0 : DataW.trod enc Try.prog W b0 sp hd n 23 ((([c0, c1, c2, c3, c4, c5, c6, c7] : List Value).drop 0).take (Try.prog.cellsOf 23)) = some y0 := hf 0 _ rfl
      have h1 : DataW.trod enc Try.prog W b0 sp hd n 25 ((([c0, c1, c2, c3, c4, c5, c6, c7] : List Value).drop 2).take (Try.prog.cellsOf 25)) = some y1 := hf 1 _ rfl
      have h2 : DataW.trod enc Try.prog W b0 sp hd n 3 ((([c0, c1, c2, c3, c4, c5, c6, c7] : List Value).drop 5).take (Try.prog.cellsOf 3)) = some y2 := hf 2 _ rfl
      have h3 : DataW.trod enc Try.prog W b0 sp hd n 9 ((([c0, c1, c2, c3, c4, c5, c6, c7] : List Value).drop 6).take (Try.prog.cellsOf 9)) = some y3 := hf 3 _ rfl
      have h4 : DataW.trod enc Try.prog W b0 sp hd n 9 ((([c0, c1, c2, c3, c4, c5, c6, c7] : List Value).drop 7).take (Try.prog.cellsOf 9)) = some y4 := hf 4 _ rfl
      rw [hD] at h0
      rw [hW] at h1
      rw [hI] at h2
      rw [hS] at h3 h4
      obtain ⟨d, e0⟩ := el_dot _ _ _ h0
      obtain ⟨s1, s2, s3, e1⟩ := el_stamp _ _ _ h1
      obtain ⟨z2, e2, _⟩ := DataW.trod_int Try.underlying3 h2
      obtain ⟨z3, e3, _⟩ := DataW.trod_string Try.underlying9 h3
      obtain ⟨z4, e4, _⟩ := DataW.trod_string Try.underlying9 h4
      simp [encD] at e0 e1 e2 e3 e4
      refine ⟨(d, (s1, s2, s3), z2, z3, z4), ?_⟩
      rw [e0.1, e0.2, e1.1, e1.2.1, e1.2.2, e2, e3, e4]; rfl
set_option maxRecDepth 100000 in
theorem read_facts {H : Type} {enc : TypeId × Value → H} {W : World} {b0 : Nat} {hd : Bool} {a : Option Addr} {len cap : Nat} {d : DataW H} {p : List MemPlace}
    (h : DataW.Trod enc Try.prog W b0 (fun _ => true) hd 26 (.slice a len cap) d p) : ∃ xs : List FactT, xs.length = len ∧ Reads W W.heap.size 8 a len (xs.flatMap encV) :=
  read_slice encV 8 (by decide) (fun _ => rfl) (by kernel_rfl) (by kernel_rfl) (fun fuel cs x hx => el_fact fuel cs x hx) h
set_option maxRecDepth 100000 in
theorem read_fact {H : Type} {enc : TypeId × Value → H} {W : World} {b0 : Nat} {r : Reach} {b1 : Nat} {hd : Bool} {v : Value} {d : DataW H} {p : List MemPlace}
    (hv : Value.okWide Try.prog W r b1 87 v) (h : DataW.Trod enc Try.prog W b0 (fun _ => true) hd 87 v d p) : ∃ x : FactT, v = .agg (encV x).toArray := by
  obtain ⟨cs, rfl, hsz⟩ := okWide_struct Try.underlying87 hv
  obtain ⟨fuel, hf⟩ := h
  obtain ⟨y, hy⟩ := el_fact _ _ _ hf
  refine ⟨y, ?_⟩
  have : cs.toList = encV y := by simpa [Value.cells] using hy
  congr 1
  exact Array.ext' (by rw [this])
end Go.Proofs.Ytmhkalalcmkpbaa

namespace Go.Proofs.Ytmhkalalcmkpbaa
open Go Go.RowKit
set_option linter.unusedVariables false
set_option linter.unusedSimpArgs false

theorem fr4 (s : ByteArray) (m : List FactT) : (freadE s = 0 ∧ fputE m = 0) ∨ (freadE s = 0 ∧ fputE m ≠ 0) ∨ (freadE s ≠ 0 ∧ fputE m = 0) ∨ (freadE s ≠ 0 ∧ fputE m ≠ 0) := by
  by_cases h1 : freadE s = 0 <;> by_cases h2 : fputE m = 0 <;> simp [h1, h2]
theorem freadL_ok_all (s : ByteArray) : ∀ f ∈ freadL s, okF f := by
  intro f hf
  unfold freadL at hf
  split at hf
  · simp at hf
  · exact rdFs_ok _ _ f hf
theorem freadL_len (s : ByteArray) : (freadL s).length < 1000000 := by
  by_cases h : freadE s = 0
  · have := (fputE_zero (fput_read h).1).1; omega
  · unfold freadL; rw [if_pos h]; decide
theorem fputS_size {m : List FactT} (h : ∀ f ∈ m, okF f) : (fputS m).size < 9223372036854775807 := by
  by_cases h1 : fputE m = 0
  · rw [fputS_ok h1, ByteArray.size_append]
    have := factsB_size m h (fputE_zero h1).1
    have := numS_size m.length
    omega
  · rw [fputS_err h1]; decide
theorem same_eq {a b : List FactT} (h : a = b) (hn : b.length < 1000000) : PFn Try.prog False 47 [slF a, slF b] (bA true) := by
  have h2 := rfsame_p a b (by rw [h]; exact hn) hn
  rw [decide_eq_true h] at h2
  exact h2
theorem neq_t {a : Int} (h : a ≠ 0) : icmp .neq a 0 = some true := congrArg some (by simp [h])
theorem neq_f {a : Int} (h : a = 0) : icmp .neq a 0 = some false := congrArg some (by simp [h])
theorem eql_t {a b : Int} (h : a = b) : icmp .eql a b = some true := congrArg some (decide_eq_true h)
theorem seql_t {a b : ByteArray} (h : a = b) : scmp .eql a b = some true := congrArg some (decide_eq_true h)

theorem facts_rep {w : World} {A : Option Addr} {n c : Nat} {l : List FactT} (hl : l.length = n) (hnc : n ≤ c) (hcm : c ≤ 9223372036854775807) (hr : Reads w w.heap.size 8 A n (l.flatMap encV)) : Rep (fun _ => False) w (slF l) (.slice A n c) := by
  subst hl
  simp only [Rep]
  refine ⟨flat_lenG encF8 l, A, c, rfl, hnc, hcm, ?_⟩
  rcases Nat.eq_zero_or_pos l.length with h0 | h0
  · exact .inl (by rw [h0])
  · obtain ⟨ad, h1, h2, h3⟩ := hr.2 h0
    refine .inr ⟨ad, h1, h2, fun h => h, ?_⟩
    refine RepC.mk fun j cc hj => ?_
    obtain ⟨u, hu, hru⟩ := (vals_rep (O := fun _ => False) (w := w) l).at_ j cc hj
    exact ⟨u, h3 j u hu, hru⟩
end Go.Proofs.Ytmhkalalcmkpbaa

namespace Go.Proofs.Ytmhkalalcmkpbaa
open Go Go.RowKit
set_option linter.unusedVariables false
set_option linter.unusedSimpArgs false

def encCt (c : CtxT) : List AV := iL c.1 ++ [slD c.2]
abbrev ctA (c : CtxT) : AV := .agg (encCt c)
theorem v16 {v : List Int} (h : v.length = 16) : ∃ a0 a1 a2 a3 a4 a5 a6 a7 a8 a9 a10 a11 a12 a13 a14 a15 : Int, v = [a0, a1, a2, a3, a4, a5, a6, a7, a8, a9, a10, a11, a12, a13, a14, a15] := by
  match v, h with
  | [a0, a1, a2, a3, a4, a5, a6, a7, a8, a9, a10, a11, a12, a13, a14, a15], _ => exact ⟨a0, a1, a2, a3, a4, a5, a6, a7, a8, a9, a10, a11, a12, a13, a14, a15, rfl⟩
theorem ctx_len {v : List Int} {a : AV} (h : v.length = 16) : (iL v ++ [a]).length = 17 := by rw [List.length_append, iL_len h]; rfl
theorem ctx_le {v : List Int} {a : AV} (h : v.length = 16) : 0 + 0 + 16 ≤ (iL v ++ [a]).length := by rw [ctx_len h]; omega
theorem ctx_V {v : List Int} {a : AV} (h : v.length = 16) : ((iL v ++ [a]).drop 0).take 16 = iL v := by obtain ⟨a0, a1, a2, a3, a4, a5, a6, a7, a8, a9, a10, a11, a12, a13, a14, a15, rfl⟩ := v16 h; rfl
theorem ctx_C {v : List Int} {a : AV} (h : v.length = 16) : (iL v ++ [a])[16]? = some a := by obtain ⟨a0, a1, a2, a3, a4, a5, a6, a7, a8, a9, a10, a11, a12, a13, a14, a15, rfl⟩ := v16 h; rfl
theorem ctx_at {v : List Int} {a : AV} {i : Nat} {x : Int} (h : v[i]? = some x) : (iL v ++ [a])[0 + i * 1]? = some (iA x) := by
  have hl : 0 + i * 1 < (iL v).length := by rw [List.length_map]; have := (List.getElem?_eq_some_iff.1 h).1; omega
  rw [List.getElem?_append_left hl]; exact iL_at0 h
theorem ctx_set {v : List Int} {a : AV} {i : Nat} {x : Int} (h : i < v.length) : (iL v ++ [a]).set (0 + i * 1) (iA x) = iL (v.set i x) ++ [a] := by
  rw [List.set_append_left _ _ (by rw [List.length_map]; omega), iL_set]
theorem ctx_setC {v : List Int} {a b : AV} (h : v.length = 16) : (iL v ++ [a]).set 16 b = iL v ++ [b] := by obtain ⟨a0, a1, a2, a3, a4, a5, a6, a7, a8, a9, a10, a11, a12, a13, a14, a15, rfl⟩ := v16 h; rfl
theorem ctx_ones {v : List Int} {k n : Nat} {cs : List AV} (h : v.length = 16) : AV.ones (iL v ++ [.sl k n cs]) = true := by obtain ⟨a0, a1, a2, a3, a4, a5, a6, a7, a8, a9, a10, a11, a12, a13, a14, a15, rfl⟩ := v16 h; rfl
theorem ctx_fill {v : List Int} {k n : Nat} {cs : List AV} (h : v.length = 16) : fillA (([(0, 16), (16, 1)] : List (Nat × Nat))[·]?) (([.int .i64 0, .int .i64 0, .int .i64 0, .int .i64 0, .int .i64 0, .int .i64 0, .int .i64 0, .int .i64 0, .int .i64 0, .int .i64 0, .int .i64 0, .int .i64 0, .int .i64 0, .int .i64 0, .int .i64 0, .int .i64 0, .slice none 0 0] : List Value).map .x) [(0, .agg (iL v)), (1, .sl k n cs)] = some (iL v ++ [.sl k n cs]) := by obtain ⟨a0, a1, a2, a3, a4, a5, a6, a7, a8, a9, a10, a11, a12, a13, a14, a15, rfl⟩ := v16 h; rfl
theorem ctx_spl {xs ys : List AV} (h : xs.length = 17) (h2 : ys.length = 17) : spl xs 0 ys = ys := spl_whole (by rw [h, h2])
theorem ctC {a b : CtxT} (h : a = b) : ctA a = ctA b := by rw [h]
theorem vhas_is {v : List Int} {d : Int × Int} {b : Bool} (hv : v.length = 16) (h : vhas v d = b) : PFn Try.prog False 99 [vA v, dA d] (bA b) := h ▸ vhas_p v d hv
theorem dcontains_is {l : List (Int × Int)} {x : Int × Int} {b : Bool} (hn : l.length < 1000000) (h : decide (x ∈ l) = b) : PFn Try.prog False 100 [slD l, dA x] (bA b) := h ▸ dcontains_p l x hn
theorem dequal_is {a b : List (Int × Int)} {r : Bool} (ha : a.length < 1000000) (hb : b.length < 1000000) (h : decide (a = b) = r) : PFn Try.prog False 153 [slD a, slD b] (bA r) := h ▸ dequal_p a b ha hb
theorem eqV_t {w : World} {v u : List Int} (hv : v.length = 16) (hu : u.length = 16) (h : v = u) : (Op.equalIn 10000 53 (.agg (AV.vals (iL v)).toArray) (.agg (AV.vals (iL u)).toArray)).run Try.prog w = .ok true w := by rw [eqV w v u hv hu, decide_eq_true h]
theorem eqV_f {w : World} {v u : List Int} (hv : v.length = 16) (hu : u.length = 16) (h : v ≠ u) : (Op.equalIn 10000 53 (.agg (AV.vals (iL v)).toArray) (.agg (AV.vals (iL u)).toArray)).run Try.prog w = .ok false w := by rw [eqV w v u hv hu, decide_eq_false h]
theorem hasC_cases (c : CtxT) (d : Int × Int) : (vhas c.1 d = true ∧ hasC c d = true) ∨ (vhas c.1 d = false ∧ chk d ≠ 0 ∧ hasC c d = false) ∨ (vhas c.1 d = false ∧ chk d = 0 ∧ d ∈ c.2 ∧ hasC c d = true) ∨ (vhas c.1 d = false ∧ chk d = 0 ∧ d ∉ c.2 ∧ hasC c d = false) := by
  unfold hasC
  cases h : vhas c.1 d with
  | true => exact .inl ⟨rfl, rfl⟩
  | false =>
    by_cases h1 : chk d = 0
    · by_cases h2 : d ∈ c.2
      · exact .inr (.inr (.inl ⟨rfl, h1, h2, by rw [decide_eq_true h1, decide_eq_true h2]; rfl⟩))
      · exact .inr (.inr (.inr ⟨rfl, h1, h2, by rw [decide_eq_false h2]; simp⟩))
    · exact .inr (.inl ⟨rfl, h1, by rw [decide_eq_false h1]; rfl⟩)
theorem eqC_cases (a b : CtxT) : (a.1 ≠ b.1 ∧ decide (a = b) = false) ∨ (a.1 = b.1 ∧ a.2 ≠ b.2 ∧ decide (a = b) = false) ∨ (a.1 = b.1 ∧ a.2 = b.2 ∧ decide (a = b) = true) := by
  by_cases h1 : a.1 = b.1
  · by_cases h2 : a.2 = b.2
    · exact .inr (.inr ⟨h1, h2, decide_eq_true (Prod.ext h1 h2)⟩)
    · exact .inr (.inl ⟨h1, h2, decide_eq_false fun e => h2 (by rw [e])⟩)
  · exact .inl ⟨h1, decide_eq_false fun e => h1 (by rw [e])⟩

set_option maxRecDepth 100000 in
theorem chas_p (c : CtxT) (d : Int × Int) (hv : c.1.length = 16) (hn : c.2.length < 1000000) : PFn Try.prog False 40 [ctA c, dA d] (bA (hasC c d)) := by
  refine pfn Try.func40 rfl (by kernel_rfl) 20 rfl _ rfl (Nat.le_of_ble_eq_true rfl) (fun X w0 => ?_)
  refine wSeq ?_
  refine wReg ?_
  refine sBox rfl rfl rfl rfl rfl (fun g2 => ?_)
  refine sBox rfl rfl rfl rfl rfl (fun g3 => ?_)
  refine sP rfl rfl rfl (pA rfl rfl) ?_
  refine lNil ?_
  refine wCut (fun L h => ∃ b : Bool, b = (hasC c d) ∧ L = [(2, .x (.pointer (some ⟨g2, 0, none⟩))), (4, bA b)] ∧ h = []) ?_ ?_
  · rcases hasC_cases c d with ⟨e1, hbv⟩ | ⟨e1, e2, hbv⟩ | ⟨e1, e2, e3, hbv⟩ | ⟨e1, e2, e3, hbv⟩
    · refine wReg ?_
      refine sP rfl rfl rfl (p_fieldAddr_own rfl rfl fl55_0 ty53 (by decide)) ?_
      refine sP rfl rfl rfl (pLdO 0 rfl rfl rfl ty53 (ctx_le hv) (ctx_V hv)) ?_
      refine sP rfl rfl rfl (pLdW 1 rfl rfl rfl ty23 rfl) ?_
      refine sP rfl rfl rfl (p_call rfl (vhas_is hv e1) ⟨Sub.refl, Sub.refl, trivial⟩) ?_
      refine sP rfl rfl rfl (pM rfl rfl) ?_
      refine sUx rfl rfl rfl (by decide) rfl rfl ?_
      refine sUx rfl rfl rfl (by decide) rfl rfl ?_
      refine sUx rfl rfl rfl (by decide) rfl rfl ?_
      refine sUx rfl rfl rfl (by decide) rfl rfl ?_
      refine sNx rfl rfl rfl rfl rfl ?_
      refine sNx rfl rfl rfl rfl rfl ?_
      refine sNx rfl rfl rfl rfl rfl ?_
      refine sNx rfl rfl rfl rfl rfl ?_
      refine sUx rfl rfl rfl (by decide) rfl rfl ?_
      refine sP rfl rfl rfl (p_pick rfl rfl rfl) ?_
      refine sP rfl rfl rfl (pA rfl rfl) ?_
      refine lNil ?_
      exact ⟨_, [], _, ⟨_, (by exact hbv.symm), rfl, rfl⟩, ⟨rfl, rfl, trivial⟩, rfl⟩
    · refine wReg ?_
      refine sP rfl rfl rfl (p_fieldAddr_own rfl rfl fl55_0 ty53 (by decide)) ?_
      refine sP rfl rfl rfl (pLdO 0 rfl rfl rfl ty53 (ctx_le hv) (ctx_V hv)) ?_
      refine sP rfl rfl rfl (pLdW 1 rfl rfl rfl ty23 rfl) ?_
      refine sP rfl rfl rfl (p_call rfl (vhas_is hv e1) ⟨Sub.refl, Sub.refl, trivial⟩) ?_
      refine sP rfl rfl rfl (pM rfl rfl) ?_
      refine sG rfl rfl rfl rfl rfl (pLdW 1 rfl rfl rfl ty23 rfl) ?_
      refine sG rfl rfl rfl rfl rfl (p_call rfl (dcheck_p d) ⟨Sub.refl, trivial⟩) ?_
      refine sG rfl rfl rfl rfl rfl (p_icmp rfl rfl rfl (eql0_f e2)) ?_
      refine sG rfl rfl rfl rfl rfl (pM rfl rfl) ?_
      refine sUx rfl rfl rfl (by decide) rfl rfl ?_
      refine sUx rfl rfl rfl (by decide) rfl rfl ?_
      refine sUx rfl rfl rfl (by decide) rfl rfl ?_
      refine sUx rfl rfl rfl (by decide) rfl rfl ?_
      refine sG rfl rfl rfl rfl rfl (p_pick rfl rfl rfl) ?_
      refine sP rfl rfl rfl (p_pick rfl rfl rfl) ?_
      refine sP rfl rfl rfl (pA rfl rfl) ?_
      refine lNil ?_
      exact ⟨_, [], _, ⟨_, (by exact hbv.symm), rfl, rfl⟩, ⟨rfl, rfl, trivial⟩, rfl⟩
    · refine wReg ?_
      refine sP rfl rfl rfl (p_fieldAddr_own rfl rfl fl55_0 ty53 (by decide)) ?_
      refine sP rfl rfl rfl (pLdO 0 rfl rfl rfl ty53 (ctx_le hv) (ctx_V hv)) ?_
      refine sP rfl rfl rfl (pLdW 1 rfl rfl rfl ty23 rfl) ?_
      refine sP rfl rfl rfl (p_call rfl (vhas_is hv e1) ⟨Sub.refl, Sub.refl, trivial⟩) ?_
      refine sP rfl rfl rfl (pM rfl rfl) ?_
      refine sG rfl rfl rfl rfl rfl (pLdW 1 rfl rfl rfl ty23 rfl) ?_
      refine sG rfl rfl rfl rfl rfl (p_call rfl (dcheck_p d) ⟨Sub.refl, trivial⟩) ?_
      refine sG rfl rfl rfl rfl rfl (p_icmp rfl rfl rfl (eql0_t e2)) ?_
      refine sG rfl rfl rfl rfl rfl (pM rfl rfl) ?_
      refine sG rfl rfl rfl rfl rfl (p_fieldAddr_own rfl rfl fl55_1 ty27 (by decide)) ?_
      refine sG rfl rfl rfl rfl rfl (pLdO1 0 rfl rfl rfl ty27 (ctx_C hv)) ?_
      refine sG rfl rfl rfl rfl rfl (pLdW 1 rfl rfl rfl ty23 rfl) ?_
      refine sG rfl rfl rfl rfl rfl (p_call rfl (dcontains_is hn (decide_eq_true e3)) ⟨Sub.refl, Sub.refl, trivial⟩) ?_
      refine sG rfl rfl rfl rfl rfl (p_pick rfl rfl rfl) ?_
      refine sP rfl rfl rfl (p_pick rfl rfl rfl) ?_
      refine sP rfl rfl rfl (pA rfl rfl) ?_
      refine lNil ?_
      exact ⟨_, [], _, ⟨_, (by exact hbv.symm), rfl, rfl⟩, ⟨rfl, rfl, trivial⟩, rfl⟩
    · refine wReg ?_
      refine sP rfl rfl rfl (p_fieldAddr_own rfl rfl fl55_0 ty53 (by decide)) ?_
      refine sP rfl rfl rfl (pLdO 0 rfl rfl rfl ty53 (ctx_le hv) (ctx_V hv)) ?_
      refine sP rfl rfl rfl (pLdW 1 rfl rfl rfl ty23 rfl) ?_
      refine sP rfl rfl rfl (p_call rfl (vhas_is hv e1) ⟨Sub.refl, Sub.refl, trivial⟩) ?_
      refine sP rfl rfl rfl (pM rfl rfl) ?_
      refine sG rfl rfl rfl rfl rfl (pLdW 1 rfl rfl rfl ty23 rfl) ?_
      refine sG rfl rfl rfl rfl rfl (p_call rfl (dcheck_p d) ⟨Sub.refl, trivial⟩) ?_
      refine sG rfl rfl rfl rfl rfl (p_icmp rfl rfl rfl (eql0_t e2)) ?_
      refine sG rfl rfl rfl rfl rfl (pM rfl rfl) ?_
      refine sG rfl rfl rfl rfl rfl (p_fieldAddr_own rfl rfl fl55_1 ty27 (by decide)) ?_
      refine sG rfl rfl rfl rfl rfl (pLdO1 0 rfl rfl rfl ty27 (ctx_C hv)) ?_
      refine sG rfl rfl rfl rfl rfl (pLdW 1 rfl rfl rfl ty23 rfl) ?_
      refine sG rfl rfl rfl rfl rfl (p_call rfl (dcontains_is hn (decide_eq_false e3)) ⟨Sub.refl, Sub.refl, trivial⟩) ?_
      refine sG rfl rfl rfl rfl rfl (p_pick rfl rfl rfl) ?_
      refine sP rfl rfl rfl (p_pick rfl rfl rfl) ?_
      refine sP rfl rfl rfl (pA rfl rfl) ?_
      refine lNil ?_
      exact ⟨_, [], _, ⟨_, (by exact hbv.symm), rfl, rfl⟩, ⟨rfl, rfl, trivial⟩, rfl⟩
  · rintro L h ⟨b, hb, rfl, rfl⟩
    refine wRet ?_
    exact rgs1 (rg_tmp (gives_sub (Sub.of_eq (avB hb))))
set_option maxRecDepth 100000 in
theorem cequal_p (y z : CtxT) (ha : y.1.length = 16) (hb : z.1.length = 16) (ha2 : y.2.length < 1000000) (hb2 : z.2.length < 1000000) : PFn Try.prog False 120 [ctA y, ctA z] (bA (decide (y = z))) := by
  refine pfn Try.func120 rfl (by kernel_rfl) 17 rfl _ rfl (Nat.le_of_ble_eq_true rfl) (fun X w0 => ?_)
  refine wSeq ?_
  refine wReg ?_
  refine sBox rfl rfl rfl rfl rfl (fun g2 => ?_)
  refine sBox rfl rfl rfl rfl rfl (fun g3 => ?_)
  refine sP rfl rfl rfl (pA rfl rfl) ?_
  refine lNil ?_
  refine wCut (fun L h => ∃ b : Bool, b = (decide (y = z)) ∧ L = [(2, .x (.pointer (some ⟨g2, 0, none⟩))), (4, bA b)] ∧ h = []) ?_ ?_
  · rcases eqC_cases y z with ⟨e1, hbv⟩ | ⟨e1, e2, hbv⟩ | ⟨e1, e2, hbv⟩
    · refine wReg ?_
      refine sP rfl rfl rfl (p_fieldAddr_own rfl rfl fl55_0 ty53 (by decide)) ?_
      refine sP rfl rfl rfl (pLdO 0 rfl rfl rfl ty53 (ctx_le ha) (ctx_V ha)) ?_
      refine sP rfl rfl rfl (p_fieldAddr_own rfl rfl fl55_0 ty53 (by decide)) ?_
      refine sP rfl rfl rfl (pLdO 1 rfl rfl rfl ty53 (ctx_le hb) (ctx_V hb)) ?_
      refine sP rfl rfl rfl (p_eqs (r := false) rfl rfl rfl (exL_ints _) (exL_ints _) guardV (fun w => eqV_f ha hb e1)) ?_
      refine sP rfl rfl rfl (pM rfl rfl) ?_
      refine sUx rfl rfl rfl (by decide) rfl rfl ?_
      refine sUx rfl rfl rfl (by decide) rfl rfl ?_
      refine sUx rfl rfl rfl (by decide) rfl rfl ?_
      refine sUx rfl rfl rfl (by decide) rfl rfl ?_
      refine sUx rfl rfl rfl (by decide) rfl rfl ?_
      refine sP rfl rfl rfl (p_pick rfl rfl rfl) ?_
      refine sP rfl rfl rfl (pA rfl rfl) ?_
      refine lNil ?_
      exact ⟨_, [], _, ⟨_, (by exact hbv.symm), rfl, rfl⟩, ⟨rfl, rfl, trivial⟩, rfl⟩
    · refine wReg ?_
      refine sP rfl rfl rfl (p_fieldAddr_own rfl rfl fl55_0 ty53 (by decide)) ?_
      refine sP rfl rfl rfl (pLdO 0 rfl rfl rfl ty53 (ctx_le ha) (ctx_V ha)) ?_
      refine sP rfl rfl rfl (p_fieldAddr_own rfl rfl fl55_0 ty53 (by decide)) ?_
      refine sP rfl rfl rfl (pLdO 1 rfl rfl rfl ty53 (ctx_le hb) (ctx_V hb)) ?_
      refine sP rfl rfl rfl (p_eqs (r := true) rfl rfl rfl (exL_ints _) (exL_ints _) guardV (fun w => eqV_t ha hb e1)) ?_
      refine sP rfl rfl rfl (pM rfl rfl) ?_
      refine sG rfl rfl rfl rfl rfl (p_fieldAddr_own rfl rfl fl55_1 ty27 (by decide)) ?_
      refine sG rfl rfl rfl rfl rfl (pLdO1 0 rfl rfl rfl ty27 (ctx_C ha)) ?_
      refine sG rfl rfl rfl rfl rfl (p_fieldAddr_own rfl rfl fl55_1 ty27 (by decide)) ?_
      refine sG rfl rfl rfl rfl rfl (pLdO1 1 rfl rfl rfl ty27 (ctx_C hb)) ?_
      refine sG rfl rfl rfl rfl rfl (p_call rfl (dequal_is ha2 hb2 (decide_eq_false e2)) ⟨Sub.refl, Sub.refl, trivial⟩) ?_
      refine sP rfl rfl rfl (p_pick rfl rfl rfl) ?_
      refine sP rfl rfl rfl (pA rfl rfl) ?_
      refine lNil ?_
      exact ⟨_, [], _, ⟨_, (by exact hbv.symm), rfl, rfl⟩, ⟨rfl, rfl, trivial⟩, rfl⟩
    · refine wReg ?_
      refine sP rfl rfl rfl (p_fieldAddr_own rfl rfl fl55_0 ty53 (by decide)) ?_
      refine sP rfl rfl rfl (pLdO 0 rfl rfl rfl ty53 (ctx_le ha) (ctx_V ha)) ?_
      refine sP rfl rfl rfl (p_fieldAddr_own rfl rfl fl55_0 ty53 (by decide)) ?_
      refine sP rfl rfl rfl (pLdO 1 rfl rfl rfl ty53 (ctx_le hb) (ctx_V hb)) ?_
      refine sP rfl rfl rfl (p_eqs (r := true) rfl rfl rfl (exL_ints _) (exL_ints _) guardV (fun w => eqV_t ha hb e1)) ?_
      refine sP rfl rfl rfl (pM rfl rfl) ?_
      refine sG rfl rfl rfl rfl rfl (p_fieldAddr_own rfl rfl fl55_1 ty27 (by decide)) ?_
      refine sG rfl rfl rfl rfl rfl (pLdO1 0 rfl rfl rfl ty27 (ctx_C ha)) ?_
      refine sG rfl rfl rfl rfl rfl (p_fieldAddr_own rfl rfl fl55_1 ty27 (by decide)) ?_
      refine sG rfl rfl rfl rfl rfl (pLdO1 1 rfl rfl rfl ty27 (ctx_C hb)) ?_
      refine sG rfl rfl rfl rfl rfl (p_call rfl (dequal_is ha2 hb2 (decide_eq_true e2)) ⟨Sub.refl, Sub.refl, trivial⟩) ?_
      refine sP rfl rfl rfl (p_pick rfl rfl rfl) ?_
      refine sP rfl rfl rfl (pA rfl rfl) ?_
      refine lNil ?_
      exact ⟨_, [], _, ⟨_, (by exact hbv.symm), rfl, rfl⟩, ⟨rfl, rfl, trivial⟩, rfl⟩
  · rintro L h ⟨bb, hbb, rfl, rfl⟩
    refine wRet ?_
    exact rgs1 (rg_tmp (gives_sub (Sub.of_eq (avB hbb))))

def clV (v : List Int) (i : Nat) : List Int := (v.map clampI).take i ++ List.replicate (16 - i) 0
theorem clV_len {v : List Int} (hv : v.length = 16) {i : Nat} (h : i ≤ 16) : (clV v i).length = 16 := by unfold clV; rw [List.length_append, List.length_take, List.length_map, List.length_replicate]; omega
theorem clV_set {v : List Int} (hv : v.length = 16) {i : Nat} {x : Int} (h : i < 16) (hx : v[i]? = some x) : (clV v i).set i (clampI x) = clV v (i + 1) := by
  unfold clV
  have hl : ((v.map clampI).take i).length = i := by rw [List.length_take, List.length_map]; omega
  have hz : i < (v.map clampI).length := by rw [List.length_map]; omega
  rw [List.set_append_right _ _ (by omega), hl, Nat.sub_self, show 16 - i = (16 - (i + 1)) + 1 by omega, List.replicate_succ, List.set_cons_zero, ← List.take_append_getElem hz, List.append_assoc, List.getElem_map, (List.getElem?_eq_some_iff.1 hx).2]; rfl
theorem clV_all {v : List Int} (hv : v.length = 16) : clV v 16 = v.map clampI := by unfold clV; rw [List.take_of_length_le (by rw [List.length_map]; omega), Nat.sub_self, List.replicate_zero, List.append_nil]
def clTo (c : CtxT) (i : Nat) : CtxT := ((sortK ltD c.2).take i).foldl clStep (c.1.map clampI, [])
theorem clTo_next {c : CtxT} {i : Nat} {d : Int × Int} (h : (sortK ltD c.2)[i]? = some d) : clTo c (i + 1) = clStep (clTo c i) d := by
  obtain ⟨hi, rfl⟩ := List.getElem?_eq_some_iff.1 h
  unfold clTo
  rw [← List.take_append_getElem hi, List.foldl_append]; rfl
theorem clTo_all (c : CtxT) : clTo c (sortK ltD c.2).length = cleanF c := by unfold clTo cleanF; rw [List.take_length]
theorem clStep_skip {o : CtxT} {d : Int × Int} (h : chk d ≠ 0 ∨ vhas o.1 d = true) : clStep o d = o := if_pos h
theorem clStep_inc {o : CtxT} {d : Int × Int} (h : ¬ (chk d ≠ 0 ∨ vhas o.1 d = true)) (h2 : d.2 = vget o.1 d.1 + 1) : clStep o d = (o.1.set d.1.toNat (vget o.1 d.1 + 1), o.2) := by unfold clStep; rw [if_neg h, if_pos h2]
theorem clStep_app {o : CtxT} {d : Int × Int} (h : ¬ (chk d ≠ 0 ∨ vhas o.1 d = true)) (h2 : ¬ d.2 = vget o.1 d.1 + 1) : clStep o d = (o.1, o.2 ++ [d]) := by unfold clStep; rw [if_neg h, if_neg h2]
theorem clStep_len (o : CtxT) (d : Int × Int) : (clStep o d).2.length ≤ o.2.length + 1 := by
  unfold clStep
  split
  · exact Nat.le_succ _
  · split
    · exact Nat.le_succ _
    · rw [List.length_append]; exact Nat.le_refl _
theorem clTo_len (c : CtxT) : ∀ i, (clTo c i).2.length ≤ i
  | 0 => by unfold clTo; simp
  | i + 1 => by
    rcases Nat.lt_or_ge i (sortK ltD c.2).length with h | h
    · rw [clTo_next (List.getElem?_eq_getElem h)]
      have := clTo_len c i
      have := clStep_len (clTo c i) (sortK ltD c.2)[i]
      omega
    · have e : clTo c (i + 1) = clTo c i := by unfold clTo; rw [List.take_of_length_le (by omega), List.take_of_length_le h]
      rw [e]; have := clTo_len c i; omega
theorem clean_len (c : CtxT) : (cleanF c).2.length ≤ c.2.length := by
  rw [← clTo_all]
  exact Nat.le_trans (clTo_len c _) (sortK_length_le _)
def skipD (o : CtxT) (d : Int × Int) : Bool := decide (chk d ≠ 0) || vhas o.1 d
theorem skip_cases (o : CtxT) (d : Int × Int) : (chk d ≠ 0 ∧ skipD o d = true) ∨ (chk d = 0 ∧ vhas o.1 d = true ∧ skipD o d = true) ∨ (chk d = 0 ∧ vhas o.1 d = false ∧ skipD o d = false) := by
  unfold skipD
  by_cases h1 : chk d = 0
  · cases h : vhas o.1 d with
    | true => exact .inr (.inl ⟨h1, rfl, by simp⟩)
    | false => exact .inr (.inr ⟨h1, rfl, by simp [h1]⟩)
  · exact .inl ⟨h1, by rw [decide_eq_true h1]; rfl⟩
theorem skip_yes {o : CtxT} {d : Int × Int} (h : skipD o d = true) : chk d ≠ 0 ∨ vhas o.1 d = true := by unfold skipD at h; simpa using h
theorem skip_no {o : CtxT} {d : Int × Int} (h : skipD o d = false) : chk d = 0 ∧ ¬ (chk d ≠ 0 ∨ vhas o.1 d = true) := by
  unfold skipD at h
  rw [Bool.or_eq_false_iff, decide_eq_false_iff_not] at h
  have h1 : chk d = 0 := Decidable.byContradiction h.1
  exact ⟨h1, fun g => g.elim (fun g => g h1) fun g => by rw [h.2] at g; cases g⟩
theorem sFreezeE {P : Program} {C : Cx} {Q : Exit → AS → Prop} {f : Nat → AV} {h : List HObj} {ops : Array Oper} {rest : List Oper} (i t j : Nat) {v : Value} {e : TypeId} {k n : Nat} {cs ys zs : List AV} (hi : h[i]? = some (.row v e k n cs)) (ht : f t = .agg ys) (hj : ys[j]? = some (.x v)) (hz : ys.set j (.sl k n cs) = zs) (kk : WL none P C ops Q rest ⟨upd f t (.agg zs), h.set i .dead⟩) : WL none P C ops Q rest ⟨f, h⟩ := sFreezeA i t j hi ht hj (by rw [hz]; exact kk)

set_option maxHeartbeats 1000000 in
set_option maxRecDepth 100000 in
theorem cclean_p (c : CtxT) (hv : c.1.length = 16) (hn : c.2.length < 1000000) : PFn Try.prog False 50 [ctA c] (ctA (cleanF c)) := by
  refine pfn Try.func50 rfl (by kernel_rfl) 65 rfl _ rfl (Nat.le_of_ble_eq_true rfl) (fun X w0 => ?_)
  refine wSeq ?_
  refine wReg ?_
  refine sBox rfl rfl rfl rfl rfl (fun g1 => ?_)
  refine sAlloc rfl rfl rfl rfl ze55 (fun g2 => ?_)
  refine lNil ?_
  refine wSeq ?_
  refine wReg ?_
  refine sAlloc rfl rfl rfl rfl ze55 (fun g3 => ?_)
  refine lNil ?_
  refine wSeq ?_
  refine wSeq ?_
  refine wReg ?_
  refine sP rfl rfl rfl (p_fieldAddr_own rfl rfl fl55_0 ty53 (by decide)) ?_
  refine sP rfl rfl rfl (pLdO 0 rfl rfl rfl ty53 (ctx_le hv) (ctx_V hv)) ?_
  refine sP rfl rfl rfl (pM rfl rfl) ?_
  refine lNil ?_
  refine wBlock ?_
  refine wLoop (fun mm L h => ∃ i, mm = 16 - i ∧ i ≤ 16 ∧ L = [(1, .x (.pointer (some ⟨g1, 0, none⟩))), (2, .x (.pointer (some ⟨g2, 0, none⟩))), (3, .x (.pointer (some ⟨g3, 0, none⟩))), (9, vA c.1), (10, iA (i : Nat))] ∧ h = [.cells g1 55 (encCt c), .cells g2 55 (iL zeroV ++ [.x (.slice none 0 0)]), .cells g3 55 (iL (clV c.1 i) ++ [.x (.slice none 0 0)])]) ⟨_, _, [.cells g1 55 (encCt c), .cells g2 55 (iL zeroV ++ [.x (.slice none 0 0)]), .cells g3 55 (iL (clV c.1 0) ++ [.x (.slice none 0 0)])], _, ⟨0, rfl, Nat.zero_le _, rfl, rfl⟩, ⟨rfl, rfl, rfl, rfl, rfl, trivial⟩, rfl⟩ ?_
  rintro mm L h ⟨i, rfl, hi, rfl, rfl⟩
  refine wSeq ?_
  refine wReg ?_
  refine sP rfl rfl rfl (p_icmp rfl rfl rfl rfl) ?_
  refine lNil ?_
  refine wSeq ?_
  refine wCond rfl (fun hc1 => ?_) (fun hc1 => ?_)
  · have hi16 : i < 16 := by have h := hc1; simp at h; omega
    obtain ⟨x, hx⟩ : ∃ x, c.1[i]? = some x := getL (by omega)
    refine wSkip ?_
    refine wSeq ?_
    refine wBlock ?_
    refine wSeq ?_
    refine wReg ?_
    refine sP rfl rfl rfl (pM rfl rfl) ?_
    refine sP rfl rfl rfl (p_index_arr rfl rfl Try.underlying53 ty3 rfl (i := i) rfl hi16 (.inr ⟨rfl, iL_at hx⟩)) ?_
    refine sP rfl rfl rfl (pA rfl rfl) ?_
    refine sP rfl rfl rfl (pA rfl rfl) ?_
    refine lNil ?_
    refine wReg ?_
    refine sP rfl rfl rfl (pM rfl rfl) ?_
    refine sP rfl rfl rfl (pM rfl rfl) ?_
    refine sP rfl rfl rfl (p_min rfl rfl rfl) ?_
    refine sP rfl rfl rfl (p_max rfl rfl rfl) ?_
    refine sP rfl rfl rfl (p_fieldAddr_own rfl rfl fl55_0 ty53 (by decide)) ?_
    refine sP rfl rfl rfl (p_indexAddr_arr rfl rfl Try.underlying53 ty3 rfl (i := i) rfl hi16) ?_
    refine sStore1 2 rfl rfl rfl rfl rfl ty3 rfl rfl (by rw [ctx_len (clV_len hv hi)]; omega) ?_
    refine lNil ?_
    refine wReg ?_
    refine sP rfl rfl rfl (p_iar rfl rfl rfl rfl) ?_
    refine sP rfl rfl rfl (pM rfl rfl) ?_
    refine lNil ?_
    refine ⟨_, _, [.cells g1 55 (encCt c), .cells g2 55 (iL zeroV ++ [.x (.slice none 0 0)]), .cells g3 55 (iL (clV c.1 (i + 1)) ++ [.x (.slice none 0 0)])], [], ?_, ⟨i + 1, rfl, hi16, rfl, rfl⟩, ⟨rfl, rfl, rfl, rfl, avI (wrapI (by omega) (by omega)), trivial⟩, ?_⟩
    · omega
    · show [_, _, HObj.cells g3 _ ((iL (clV c.1 i) ++ _).set (0 + i * 1) (iA (clampI x)))] = _
      rw [ctx_set (by rw [clV_len hv hi]; exact hi16), clV_set hv hi16 hx]
      rfl
  · have hge : i = 16 := by have h := hc1; simp at h; omega
    subst hge
    refine wExit ?_
    refine wNilrow 23 2 ?_
    refine wSeq ?_
    refine wSeq ?_
    refine wReg ?_
    refine sP rfl rfl rfl (p_fieldAddr_own rfl rfl fl55_1 ty27 (by decide)) ?_
    refine sP rfl rfl rfl (pLdO1 0 rfl rfl rfl ty27 (ctx_C hv)) ?_
    refine sP rfl rfl rfl (p_call rfl (dsort_p c.2 hn) ⟨Sub.refl, trivial⟩) ?_
    refine sP rfl rfl rfl (p_len_sl rfl rfl Try.underlying27) ?_
    refine sP rfl rfl rfl (pM rfl rfl) ?_
    refine lNil ?_
    refine wBlock ?_
    refine wLoop (fun mm L h => ∃ i v, mm = (sortK ltD c.2).length - i ∧ i ≤ (sortK ltD c.2).length ∧ L = [(2, .x (.pointer (some ⟨g2, 0, none⟩))), (3, .x (.pointer (some ⟨g3, 0, none⟩))), (23, slD (sortK ltD c.2)), (24, iA (sortK ltD c.2).length), (25, iA (i : Nat))] ∧ h = [.cells g1 55 (encCt c), .cells g2 55 (iL zeroV ++ [.x (.slice none 0 0)]), .cells g3 55 (iL (clTo c i).1 ++ [.x v]), .row v 23 2 (clTo c i).2.length ((clTo c i).2.flatMap encA)]) ⟨_, _, [.cells g1 55 (encCt c), .cells g2 55 (iL zeroV ++ [.x (.slice none 0 0)]), .cells g3 55 (iL (clV c.1 16) ++ [.x (.slice none 0 0)]), .row (.slice none 0 0) 23 2 0 []], _, ⟨0, .slice none 0 0, rfl, Nat.zero_le _, rfl, by rw [clV_all hv]; rfl⟩, ⟨rfl, rfl, rfl, rfl, rfl, trivial⟩, rfl⟩ ?_
    rintro mm L h ⟨i, v, rfl, hi, rfl, rfl⟩
    refine wSeq ?_
    refine wReg ?_
    refine sP rfl rfl rfl (p_icmp rfl rfl rfl rfl) ?_
    refine lNil ?_
    refine wSeq ?_
    refine wCond rfl (fun hc2 => ?_) (fun hc2 => ?_)
    · have hlt : i < (sortK ltD c.2).length := by simpa using hc2
      obtain ⟨d, hd⟩ := getL hlt
      have hcl : ClInv c _ (clTo c i) := clInv_take (c := c) hv i hi
      have hol : (clTo c i).1.length = 16 := hcl.cl.len
      have hln : (sortK ltD c.2).length ≤ c.2.length := sortK_length_le _
      refine wSkip ?_
      refine wSeq ?_
      refine wBlock ?_
      refine wSeq ?_
      refine wReg ?_
      refine sP rfl rfl rfl (pIdx i rfl rfl Try.underlying27 ty23 (by decide) rfl (fun _ => rfl) rfl rfl hd) ?_
      refine sP rfl rfl rfl (pLdE rfl rfl ty23 rfl) ?_
      refine sAlloc rfl rfl rfl rfl ze23 (fun g7 => ?_)
      refine sStore 4 rfl rfl rfl rfl rfl ty23 rfl rfl rfl (Nat.le_of_ble_eq_true rfl) ?_
      refine lNil ?_
      refine wBlock ?_
      refine wCut (fun L h => ∃ b : Bool, b = (skipD (clTo c i) d) ∧ L = [(2, .x (.pointer (some ⟨g2, 0, none⟩))), (3, .x (.pointer (some ⟨g3, 0, none⟩))), (7, .x (.pointer (some ⟨g7, 0, none⟩))), (23, slD (sortK ltD c.2)), (24, iA (sortK ltD c.2).length), (25, iA (i : Nat)), (35, bA b)] ∧ h = [.cells g1 55 (encCt c), .cells g2 55 (iL zeroV ++ [.x (.slice none 0 0)]), .cells g3 55 (iL (clTo c i).1 ++ [.x v]), .row v 23 2 (clTo c i).2.length ((clTo c i).2.flatMap encA), .cells g7 23 (encA d)]) ?_ ?_
      · rcases skip_cases (clTo c i) d with ⟨e1, hbv⟩ | ⟨e1, e2, hbv⟩ | ⟨e1, e2, hbv⟩
        · refine wReg ?_
          refine sP rfl rfl rfl (pLdW 4 rfl rfl rfl ty23 rfl) ?_
          refine sP rfl rfl rfl (p_call rfl (dcheck_p d) ⟨Sub.refl, trivial⟩) ?_
          refine sP rfl rfl rfl (p_icmp rfl rfl rfl (neq_t e1)) ?_
          refine sP rfl rfl rfl (pM rfl rfl) ?_
          refine sUx rfl rfl rfl (by decide) rfl rfl ?_
          refine sUx rfl rfl rfl (by decide) rfl rfl ?_
          refine sUx rfl rfl rfl (by decide) rfl rfl ?_
          refine sUx rfl rfl rfl (by decide) rfl rfl ?_
          refine sP rfl rfl rfl (p_pick rfl rfl rfl) ?_
          refine sP rfl rfl rfl (pA rfl rfl) ?_
          refine lNil ?_
          exact ⟨_, [.cells g1 55 (encCt c), .cells g2 55 (iL zeroV ++ [.x (.slice none 0 0)]), .cells g3 55 (iL (clTo c i).1 ++ [.x v]), .row v 23 2 (clTo c i).2.length ((clTo c i).2.flatMap encA), .cells g7 23 (encA d)], _, ⟨_, (by exact hbv.symm), rfl, rfl⟩, ⟨rfl, rfl, rfl, rfl, rfl, rfl, rfl, trivial⟩, rfl⟩
        · refine wReg ?_
          refine sP rfl rfl rfl (pLdW 4 rfl rfl rfl ty23 rfl) ?_
          refine sP rfl rfl rfl (p_call rfl (dcheck_p d) ⟨Sub.refl, trivial⟩) ?_
          refine sP rfl rfl rfl (p_icmp rfl rfl rfl (neq_f e1)) ?_
          refine sP rfl rfl rfl (pM rfl rfl) ?_
          refine sG rfl rfl rfl rfl rfl (p_fieldAddr_own rfl rfl fl55_0 ty53 (by decide)) ?_
          refine sG rfl rfl rfl rfl rfl (pLdO 2 rfl rfl rfl ty53 (ctx_le hol) (ctx_V hol)) ?_
          refine sG rfl rfl rfl rfl rfl (pLdW 4 rfl rfl rfl ty23 rfl) ?_
          refine sG rfl rfl rfl rfl rfl (p_call rfl (vhas_is hol e2) ⟨Sub.refl, Sub.refl, trivial⟩) ?_
          refine sP rfl rfl rfl (p_pick rfl rfl rfl) ?_
          refine sP rfl rfl rfl (pA rfl rfl) ?_
          refine lNil ?_
          exact ⟨_, [.cells g1 55 (encCt c), .cells g2 55 (iL zeroV ++ [.x (.slice none 0 0)]), .cells g3 55 (iL (clTo c i).1 ++ [.x v]), .row v 23 2 (clTo c i).2.length ((clTo c i).2.flatMap encA), .cells g7 23 (encA d)], _, ⟨_, (by exact hbv.symm), rfl, rfl⟩, ⟨rfl, rfl, rfl, rfl, rfl, rfl, rfl, trivial⟩, rfl⟩
        · refine wReg ?_
          refine sP rfl rfl rfl (pLdW 4 rfl rfl rfl ty23 rfl) ?_
          refine sP rfl rfl rfl (p_call rfl (dcheck_p d) ⟨Sub.refl, trivial⟩) ?_
          refine sP rfl rfl rfl (p_icmp rfl rfl rfl (neq_f e1)) ?_
          refine sP rfl rfl rfl (pM rfl rfl) ?_
          refine sG rfl rfl rfl rfl rfl (p_fieldAddr_own rfl rfl fl55_0 ty53 (by decide)) ?_
          refine sG rfl rfl rfl rfl rfl (pLdO 2 rfl rfl rfl ty53 (ctx_le hol) (ctx_V hol)) ?_
          refine sG rfl rfl rfl rfl rfl (pLdW 4 rfl rfl rfl ty23 rfl) ?_
          refine sG rfl rfl rfl rfl rfl (p_call rfl (vhas_is hol e2) ⟨Sub.refl, Sub.refl, trivial⟩) ?_
          refine sP rfl rfl rfl (p_pick rfl rfl rfl) ?_
          refine sP rfl rfl rfl (pA rfl rfl) ?_
          refine lNil ?_
          exact ⟨_, [.cells g1 55 (encCt c), .cells g2 55 (iL zeroV ++ [.x (.slice none 0 0)]), .cells g3 55 (iL (clTo c i).1 ++ [.x v]), .row v 23 2 (clTo c i).2.length ((clTo c i).2.flatMap encA), .cells g7 23 (encA d)], _, ⟨_, (by exact hbv.symm), rfl, rfl⟩, ⟨rfl, rfl, rfl, rfl, rfl, rfl, rfl, trivial⟩, rfl⟩
      · rintro L h ⟨b, hb, rfl, rfl⟩
        refine wCond rfl (fun hc3 => ?_) (fun hc3 => ?_)
        · refine wSkip ?_
          refine wReg ?_
          refine sP rfl rfl rfl (p_iar rfl rfl rfl rfl) ?_
          refine sP rfl rfl rfl (pM rfl rfl) ?_
          refine lNil ?_
          have hst : clTo c (i + 1) = clTo c i := by rw [clTo_next hd, clStep_skip (skip_yes (hb.symm.trans hc3))]
          refine ⟨_, _, [.cells g1 55 (encCt c), .cells g2 55 (iL zeroV ++ [.x (.slice none 0 0)]), .cells g3 55 (iL (clTo c (i + 1)).1 ++ [.x v]), .row v 23 2 (clTo c (i + 1)).2.length ((clTo c (i + 1)).2.flatMap encA)], [.cells g7 23 (encA d)], ?_, ⟨i + 1, v, rfl, hlt, rfl, rfl⟩, ⟨rfl, rfl, rfl, rfl, avI (wrapI (by omega) (by omega)), trivial⟩, ?_⟩
          · omega
          · rw [hst]; rfl
        · obtain ⟨hck, hsk⟩ := skip_no (hb.symm.trans hc3)
          obtain ⟨hr0, hr1, _, _⟩ := (chk_iff d).1 hck
          have hrv : 0 ≤ vget (clTo c i).1 d.1 ∧ vget (clTo c i).1 d.1 ≤ 1099511627776 := hcl.cl.at_ d.1
          refine wSeq ?_
          refine wDraw 10 (by kernel_rfl) (by kernel_rfl) ?_
          refine sP rfl rfl rfl (p_fieldAddr_own rfl rfl fl23_1 ty3 (by decide)) ?_
          refine sP rfl rfl rfl (pLdO1 4 rfl rfl rfl ty3 rfl) ?_
          refine sP rfl rfl rfl (p_fieldAddr_own rfl rfl fl23_0 ty3 (by decide)) ?_
          refine sP rfl rfl rfl (pLdO1 4 rfl rfl rfl ty3 rfl) ?_
          refine sP rfl rfl rfl (p_fieldAddr_own rfl rfl fl55_0 ty53 (by decide)) ?_
          refine sP rfl rfl rfl (p_indexAddr_arr rfl rfl Try.underlying53 ty3 rfl (i := d.1.toNat) (by omega) (by omega)) ?_
          refine sP rfl rfl rfl (pLdO1 2 rfl rfl rfl ty3 (ctx_at (vget_at hol hr0 hr1))) ?_
          refine sP rfl rfl rfl (p_iar rfl rfl rfl (by show some _ = some _; rw [wrapI (by omega) (by omega)])) ?_
          refine sP rfl rfl rfl (p_icmp rfl rfl rfl rfl) ?_
          refine sP rfl rfl rfl (pA rfl rfl) ?_
          refine lTail ?_
          refine lNil ?_
          refine wCond rfl (fun hc4 => ?_) (fun hc4 => ?_)
          · refine wReg ?_
            refine sP rfl rfl rfl (p_fieldAddr_own rfl rfl fl23_0 ty3 (by decide)) ?_
            refine sP rfl rfl rfl (pLdO1 4 rfl rfl rfl ty3 rfl) ?_
            refine sP rfl rfl rfl (p_fieldAddr_own rfl rfl fl55_0 ty53 (by decide)) ?_
            refine sP rfl rfl rfl (p_indexAddr_arr rfl rfl Try.underlying53 ty3 rfl (i := d.1.toNat) (by omega) (by omega)) ?_
            refine sP rfl rfl rfl (pLdO1 2 rfl rfl rfl ty3 (ctx_at (vget_at hol hr0 hr1))) ?_
            refine sP rfl rfl rfl (p_iar rfl rfl rfl (by show some _ = some _; rw [wrapI (by omega) (by omega)])) ?_
            refine sP rfl rfl rfl (p_fieldAddr_own rfl rfl fl55_0 ty53 (by decide)) ?_
            refine sP rfl rfl rfl (p_indexAddr_arr rfl rfl Try.underlying53 ty3 rfl (i := d.1.toNat) (by omega) (by omega)) ?_
            refine sStore1 2 rfl rfl rfl rfl rfl ty3 rfl rfl (by rw [ctx_len hol]; omega) ?_
            refine lNil ?_
            refine wReg ?_
            refine sP rfl rfl rfl (p_iar rfl rfl rfl rfl) ?_
            refine sP rfl rfl rfl (pM rfl rfl) ?_
            refine lNil ?_
            have hst : clTo c (i + 1) = ((clTo c i).1.set d.1.toNat (vget (clTo c i).1 d.1 + 1), (clTo c i).2) := by rw [clTo_next hd, clStep_inc hsk (by simpa using hc4)]
            refine ⟨_, _, [.cells g1 55 (encCt c), .cells g2 55 (iL zeroV ++ [.x (.slice none 0 0)]), .cells g3 55 (iL (clTo c (i + 1)).1 ++ [.x v]), .row v 23 2 (clTo c (i + 1)).2.length ((clTo c (i + 1)).2.flatMap encA)], [.cells g7 23 (encA d)], ?_, ⟨i + 1, v, rfl, hlt, rfl, rfl⟩, ⟨rfl, rfl, rfl, rfl, avI (wrapI (by omega) (by omega)), trivial⟩, ?_⟩
            · omega
            · show [_, _, HObj.cells g3 _ ((iL (clTo c i).1 ++ _).set (0 + d.1.toNat * 1) (iA (vget (clTo c i).1 d.1 + 1))), _, _] = _
              rw [ctx_set (by omega), hst]
              rfl
          · refine wReg ?_
            refine sP rfl rfl rfl (p_fieldAddr_own rfl rfl fl55_1 ty27 (by decide)) ?_
            refine sP rfl rfl rfl (pLdO1 2 rfl rfl rfl ty27 (ctx_C hol)) ?_
            refine sP rfl rfl rfl (pLdW 4 rfl rfl rfl ty23 rfl) ?_
            refine sP rfl rfl rfl (p_buildSlice (res := [d].flatMap encA) rfl ze23 Try.underlying27 ty23 (by decide) (by decide) rfl rfl rfl) ?_
            refine sAppendL (enc := encA) (l := (clTo c i).2) 3 [d] rfl rfl rfl rfl Try.underlying27 ro23 rfl rfl rfl (fun _ => rfl) (by have := clTo_len c i; rw [List.length_singleton]; omega) (by have := clTo_len c i; rw [List.length_singleton]; omega) (fun v33 => ?_)
            refine sP rfl rfl rfl (p_fieldAddr_own rfl rfl fl55_1 ty27 (by decide)) ?_
            refine sStoreRow 2 3 rfl rfl rfl rfl rfl rfl ty27 rfl (by rw [ctx_len hol]; omega) ?_
            refine lNil ?_
            refine wReg ?_
            refine sP rfl rfl rfl (p_iar rfl rfl rfl rfl) ?_
            refine sP rfl rfl rfl (pM rfl rfl) ?_
            refine lNil ?_
            have hst : clTo c (i + 1) = ((clTo c i).1, (clTo c i).2 ++ [d]) := by rw [clTo_next hd, clStep_app hsk (by simpa using hc4)]
            refine ⟨_, _, [.cells g1 55 (encCt c), .cells g2 55 (iL zeroV ++ [.x (.slice none 0 0)]), .cells g3 55 (iL (clTo c (i + 1)).1 ++ [.x v33]), .row v33 23 2 (clTo c (i + 1)).2.length ((clTo c (i + 1)).2.flatMap encA)], [.cells g7 23 (encA d)], ?_, ⟨i + 1, v33, rfl, hlt, rfl, rfl⟩, ⟨rfl, rfl, rfl, rfl, avI (wrapI (by omega) (by omega)), trivial⟩, ?_⟩
            · omega
            · show [_, _, HObj.cells g3 _ ((iL (clTo c i).1 ++ _).set 16 (.x v33)), _, _] = _
              rw [ctx_setC hol, hst]
              rfl
    · have hge : i = (sortK ltD c.2).length := by
        have h : ¬ i < (sortK ltD c.2).length := by simpa using hc2
        omega
      subst hge
      have hcl : (cleanF c).1.length = 16 := (clean_F hv).len
      rw [clTo_all]
      refine wExit ?_
      refine wSeq ?_
      refine wReg ?_
      refine sP rfl rfl rfl (pLdW 2 rfl rfl rfl ty55 (ctx_len hcl)) ?_
      refine sFreezeE 3 64 16 rfl rfl (ctx_C hcl) (ctx_setC hcl) ?_
      refine sStore 1 rfl rfl rfl rfl rfl ty55 rfl (ctx_ones hcl) (ctx_len hcl) (Nat.le_of_ble_eq_true rfl) ?_
      refine lNil ?_
      refine wRet ?_
      have hsp : spl (iL zeroV ++ [.x (.slice none 0 0)]) 0 (iL (cleanF c).1 ++ [slD (cleanF c).2]) = encCt (cleanF c) := ctx_spl rfl (ctx_len hcl)
      exact rgs1 (rg_cell rfl (List.mem_of_getElem? (i := 1) rfl) ty55 (.inl ⟨rfl, by rw [hsp]; exact Nat.le_of_eq (ctx_len hcl).symm, rfl⟩) (gives_sub (Sub.of_eq (by rw [hsp]; exact congrArg AV.agg (List.take_of_length_le (l := encCt (cleanF c)) (Nat.le_of_eq (ctx_len hcl)))))))
end Go.Proofs.Ytmhkalalcmkpbaa
