/-
  Flay
-/
import Derived.Test.YtmhkalalcmkpbaaZFo2
import Derived.Test.YtmhkalalcmkpbaaZFr
import Derived.Shelf.SlSortCmp.WholeK
namespace Go.Proofs.Ytmhkalalcmkpbaa
open Go.Shelf Go.RowKit Go.Lib Go.Sort
set_option linter.unusedVariables false
def sortFact_ren : Go.Shelf.Ren := ⟨fun | 6 => 112 | 15 => 142 | 14 => 141 | 28 => 166 | 29 => 167 | 20 => 158 | 21 => 159 | 22 => 160 | 23 => 161 | 24 => 162 | 25 => 163 | 26 => 164 | 27 => 165 | 46 => 178 | 47 => 179 | 48 => 180 | 49 => 181 | 50 => 182 | 57 => 197 | n => n, fun | 22 => 26 | 24 => 87 | 25 => 165 | 3 => 3 | 39 => 171 | 0 => 0 | 53 => 220 | 55 => 222 | 4 => 4 | 46 => 214 | 45 => 213 | 50 => 206 | 5 => 5 | 9 => 9 | 66 => 232 | 70 => 236 | 76 => 247 | 77 => 248 | n => n, fun | n => n⟩
theorem sortFact : Go.Proofs.SlLaysF0.n6 Try.prog sortFact_ren := {
  mixed := by kernel_rfl
  f6 := ⟨Try.f112.name, by decide, Try.func112.trans (congrArg some (by kernel_rfl))⟩
  f14 := ⟨Try.f141.name, by decide, Try.func141.trans (congrArg some (by kernel_rfl))⟩
  f15 := Try.func142.trans (congrArg some (by kernel_rfl))
  f20 := ⟨Try.f158.name, by decide, Try.func158.trans (congrArg some (by kernel_rfl))⟩
  f21 := ⟨Try.f159.name, by decide, Try.func159.trans (congrArg some (by kernel_rfl))⟩
  f22 := ⟨Try.f160.name, by decide, Try.func160.trans (congrArg some (by kernel_rfl))⟩
  f23 := ⟨Try.f161.name, by decide, Try.func161.trans (congrArg some (by kernel_rfl))⟩
  f24 := ⟨Try.f162.name, by decide, Try.func162.trans (congrArg some (by kernel_rfl))⟩
  f25 := ⟨Try.f163.name, by decide, Try.func163.trans (congrArg some (by kernel_rfl))⟩
  f26 := ⟨Try.f164.name, by decide, Try.func164.trans (congrArg some (by kernel_rfl))⟩
  f27 := ⟨Try.f165.name, by decide, Try.func165.trans (congrArg some (by kernel_rfl))⟩
  f28 := Try.func166.trans (congrArg some (by kernel_rfl))
  f29 := Try.func167.trans (congrArg some (by kernel_rfl))
  f46 := ⟨Try.f178.name, by decide, Try.func178.trans (congrArg some (by kernel_rfl))⟩
  f47 := Try.func179.trans (congrArg some (by kernel_rfl))
  f48 := Try.func180.trans (congrArg some (by kernel_rfl))
  f49 := ⟨Try.f181.name, by decide, Try.func181.trans (congrArg some (by kernel_rfl))⟩
  f50 := ⟨Try.f182.name, by decide, Try.func182.trans (congrArg some (by kernel_rfl))⟩
  f57 := ⟨Try.f197.name, by decide, Try.func197.trans (congrArg some (by kernel_rfl))⟩
  t0 := Try.underlying0
  a0 := Try.isAgg0
  z0 := Try.sizeOf0
  v0 := Try.zeroValue0
  t3 := Try.underlying3
  a3 := Try.isAgg3
  z3 := Try.sizeOf3
  v3 := Try.zeroValue3
  t4 := Try.underlying4
  a4 := Try.isAgg4
  z4 := Try.sizeOf4
  v4 := Try.zeroValue4
  t5 := Try.underlying5
  a5 := Try.isAgg5
  z5 := Try.sizeOf5
  v5 := Try.zeroValue5
  t9 := Try.underlying9
  a9 := Try.isAgg9
  z9 := Try.sizeOf9
  v9 := Try.zeroValue9
  t22 := Try.underlying26
  a22 := Try.isAgg26
  z22 := Try.sizeOf26
  v22 := Try.zeroValue26
  t25 := Try.underlying165
  a25 := Try.isAgg165
  z25 := Try.sizeOf165
  v25 := Try.zeroValue165
  t39 := Try.underlying171
  a39 := Try.isAgg171
  z39 := Try.sizeOf171
  v39 := Try.zeroValue171
  t45 := Try.underlying213
  a45 := Try.isAgg213
  z45 := Try.sizeOf213
  v45 := Try.zeroValue213
  t46 := Try.underlying214
  a46 := Try.isAgg214
  z46 := Try.sizeOf214
  v46 := Try.zeroValue214
  t50 := Try.underlying206
  a50 := Try.isAgg206
  z50 := Try.sizeOf206
  v50 := Try.zeroValue206
  t53 := Try.underlying220
  a53 := Try.isAgg220
  z53 := Try.sizeOf220
  v53 := Try.zeroValue220
  t55 := Try.underlying222
  a55 := Try.isAgg222
  z55 := Try.sizeOf222
  v55 := Try.zeroValue222
  t66 := Try.underlying232
  a66 := Try.isAgg232
  z66 := Try.sizeOf232
  v66 := Try.zeroValue232
  t70 := Try.underlying236
  a70 := Try.isAgg236
  z70 := Try.sizeOf236
  v70 := Try.zeroValue236
  t76 := Try.underlying247
  a76 := Try.isAgg247
  z76 := Try.sizeOf247
  v76 := Try.zeroValue247
  t77 := Try.underlying248
  a77 := Try.isAgg248
  z77 := Try.sizeOf248
  v77 := Try.zeroValue248 }

def encV (d : FactT) : List Value := [.int .i64 d.1.1, .int .i64 d.1.2, .int .i64 d.2.1.1, .int .i64 d.2.1.2.1, .int .i64 d.2.1.2.2, .int .i64 d.2.2.1, .string d.2.2.2.1, .string d.2.2.2.2]
theorem exact_of {w w' : World} (h : Bl True w w') : ∃ q os, w' = Sort.grow (w.drewN q) os := by
  refine ⟨w'.drawn - w.drawn, w'.heap.extract w.heap.size w'.heap.size, ?_⟩
  have hd := h.d trivial
  have hb := h.b
  have e1 := hb.os
  have e2 := hb.tape
  have e3 := hb.output
  have e4 : w'.heap = w.heap ++ w'.heap.extract w.heap.size w'.heap.size := by
    apply Array.ext'
    apply List.ext_getElem?
    intro j
    rw [Array.toList_append]
    rcases Nat.lt_or_ge j w.heap.size with hj | hj
    · rw [List.getElem?_append_left (by simpa using hj), Array.getElem?_toList, Array.getElem?_toList]
      exact hb.block j hj
    · rw [List.getElem?_append_right (by simpa using hj), Array.getElem?_toList, Array.getElem?_toList, Array.length_toList, Array.getElem?_extract]
      split
      · congr 1; omega
      · rw [Array.getElem?_eq_none (by omega)]
  have e5 : w'.drawn = w.drawn + (w'.drawn - w.drawn) := by omega
  generalize w'.heap.extract w.heap.size w'.heap.size = os at e4
  generalize w'.drawn - w.drawn = q at e5
  cases w
  cases w'
  simp only at e1 e2 e3 e4 e5
  subst e1 e2 e3 e4 e5
  rfl
theorem agg_fact (w : World) : (isAgg 87).run Try.prog w = .ok true w := by go_simp
theorem size_fact (w : World) : (Go.sizeOf 87).run Try.prog w = .ok 8 w := by go_simp
theorem fenters (args : Array Value) (w : World) : (callFunc 113 args).run Try.prog w = .ok (.enter 113 args) w := (order_p (K := True) ((0, 0), (0, 0, 0), 0, ⟨#[]⟩, ⟨#[]⟩) ((0, 0), (0, 0, 0), 0, ⟨#[]⟩, ⟨#[]⟩)).enter args w
theorem fcmp_lays (blk off size : Nat) (w : World) : CmpLays Try.prog 113 #[] encV 8 ordF blk off size w := by
  intro m os dk _ x y
  have hr : ∀ (O : Nat → Prop) (w : World), RepC O w [fA x, fA y] (fun j => (#[Value.agg (encV x).toArray, Value.agg (encV y).toArray] ++ (#[] : Array Value))[j]?) := fun O w => by
    simp only [RepC]
    exact ⟨⟨_, rfl, (AV.rep_val (fA x) rfl _).2 rfl⟩, ⟨_, rfl, (AV.rep_val (fA y) rfl _).2 rfl⟩, trivial⟩
  refine ((order_p (K := True) x y).calls (fun _ => False) _ _ (fun b hb => hb.elim) rfl (hr _ _)).mono ?_
  rintro e w' ⟨r, rfl, h2, h3⟩
  rw [rep_x] at h2
  subst h2
  obtain ⟨q, os', hw⟩ := exact_of h3
  exact ⟨rfl, q, os', hw⟩
theorem flt_of (x y : FactT) : ltOf ordF x y = ltF x y := rfl
theorem swoF : SWO (ltOf ordF) where
  irrefl x := by rw [flt_of]; exact stoF.irrefl x
  trans x y z h1 h2 := by rw [flt_of] at *; exact stoF.trans x y z h1 h2
  ntrans x y z h1 h2 := by
    rw [flt_of] at *
    cases h : ltF x z with
    | false => rfl
    | true =>
      cases h3 : ltF y x with
      | true => have := stoF.trans y x z h3 h; rw [h2] at this; cases this
      | false =>
        have := stoF.total x y h1 h3
        subst this; rw [h2] at h; cases h
theorem sortf_c (blk off cap : Nat) (d : Array FactT) (w : World) (hH : HoldsK encV 8 w blk off d) (hblk : blk < w.heap.size) (hsz : d.size < 4611686018427387904) :
    Calls Try.prog 112 #[.slice (some ⟨blk, off, none⟩) d.size cap, .func (.func 113) #[] #[]] w fun e w' =>
      e = .returned (.tuple #[]) ∧ ∃ d' n os, PermIn 0 d.size d d' ∧ SortedIn (ltOf ordF) 0 d.size d' ∧ w' = sortWorldK encV 8 w blk off n d' os :=
  AnyQ.slices_SortFunc sortFact 8 agg_fact size_fact encV (fun _ => rfl) (fun x v hv => by simp [encV] at hv; rcases hv with rfl | rfl | rfl | rfl | rfl | rfl | rfl | rfl <;> rfl) ordF swoF 113 #[] blk off cap d w fenters (fcmp_lays blk off d.size w) hH hblk hsz
end Go.Proofs.Ytmhkalalcmkpbaa
