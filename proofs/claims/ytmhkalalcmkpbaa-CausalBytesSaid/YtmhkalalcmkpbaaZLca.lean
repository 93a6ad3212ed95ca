/-
  Ctx2 C10 BTM Miss Cput Cread Lca
-/
import Derived.Test.YtmhkalalcmkpbaaZBT2
import Derived.Test.YtmhkalalcmkpbaaZC8
import Derived.Test.YtmhkalalcmkpbaaZC9
import Derived.Test.YtmhkalalcmkpbaaZCtx
import Derived.Test.YtmhkalalcmkpbaaZRdr
namespace Go.Proofs.Ytmhkalalcmkpbaa
open Go Go.RowKit
set_option linter.unusedVariables false
set_option linter.unusedSimpArgs false

theorem ctx_len' {c : CtxT} (h : c.1.length = 16) : (encCt c).length = 17 := ctx_len h
theorem ctx_ones' {c : CtxT} (h : c.1.length = 16) : AV.ones (encCt c) = true := ctx_ones h
theorem ctxE_1 {c : CtxT} (h : vE c.1 ≠ 0) : ctxE c = vE c.1 := if_pos h
theorem ctxE_2 {c : CtxT} (h : vE c.1 = 0) (h2 : c ≠ cleanF c) : ctxE c = 5 := by unfold ctxE; rw [if_neg (by simpa using h), if_neg (fun e => h2 e.symm)]
theorem ctxE_3 {c : CtxT} (h : vE c.1 = 0) (h2 : c = cleanF c) : ctxE c = 0 := by unfold ctxE; rw [if_neg (by simpa using h), if_pos h2.symm]
theorem cat_two (a b : List (Int × Int)) : [a, b].flatten = a ++ b := by simp
theorem two_len {a b : List (Int × Int)} (ha : a.length < 1000000) (hb : b.length < 1000000) : ∀ l ∈ [a, b], l.length < 1000000 := by
  intro l hl
  simp only [List.mem_cons, List.not_mem_nil, or_false] at hl
  rcases hl with rfl | rfl
  · exact ha
  · exact hb
theorem dconcat2_p (a b : List (Int × Int)) (ha : a.length < 1000000) (hb : b.length < 1000000) : PFn Try.prog False 98 [.sl 1 2 [slD a, slD b]] (slD (a ++ b)) := by
  have h := dconcat_p [a, b] (show 2 < 100 by decide) (two_len ha hb)
  rw [cat_two] at h
  exact h

set_option maxRecDepth 100000 in
theorem ccheck_p (c : CtxT) (hv : c.1.length = 16) (hn : c.2.length < 1000000) : PFn Try.prog False 52 [ctA c] (iA (ctxE c)) := by
  refine pfn Try.func52 rfl (by kernel_rfl) 15 rfl _ rfl (Nat.le_of_ble_eq_true rfl) (fun X w0 => ?_)
  refine wSeq ?_
  refine wReg ?_
  refine sBox rfl rfl rfl rfl rfl (fun g1 => ?_)
  refine sP rfl rfl rfl (pA rfl rfl) ?_
  refine lNil ?_
  refine wSeq ?_
  refine wSeq ?_
  refine wReg ?_
  refine sP rfl rfl rfl (p_fieldAddr_own rfl rfl fl55_0 ty53 (by decide)) ?_
  refine sP rfl rfl rfl (pLdO 0 rfl rfl rfl ty53 (ctx_le hv) (ctx_V hv)) ?_
  refine sP rfl rfl rfl (p_call rfl (vcheck_p c.1 hv) ⟨Sub.refl, trivial⟩) ?_
  refine sP rfl rfl rfl (pA rfl rfl) ?_
  refine lNil ?_
  refine wSeq ?_
  refine wReg ?_
  refine sP rfl rfl rfl (pM rfl rfl) ?_
  refine sP rfl rfl rfl (p_icmp rfl rfl rfl rfl) ?_
  refine lNil ?_
  refine wCond rfl (fun hc1 => ?_) (fun hc1 => ?_)
  · refine wSeq ?_
    refine wReg ?_
    refine sP rfl rfl rfl (pM rfl rfl) ?_
    refine sP rfl rfl rfl (pA rfl rfl) ?_
    refine lNil ?_
    refine wRet ?_
    have h : vE c.1 ≠ 0 := by simpa using hc1
    exact rgs1 (rg_tmp (gives_sub (Sub.of_eq (avI (ctxE_1 h).symm))))
  · have hz : vE c.1 = 0 := by simpa using hc1
    refine wSkip ?_
    refine wSeq ?_
    refine wSeq ?_
    refine wDraw 5 (by kernel_rfl) (by kernel_rfl) ?_
    refine sP rfl rfl rfl (pLdW 0 rfl rfl rfl ty55 (ctx_len hv)) ?_
    refine sP rfl rfl rfl (pLdW 0 rfl rfl rfl ty55 (ctx_len hv)) ?_
    refine sP rfl rfl rfl (p_call rfl (cclean_p c hv hn) ⟨Sub.refl, trivial⟩) ?_
    refine sP rfl rfl rfl (p_call rfl (cequal_p c (cleanF c) hv (clean_F hv).len hn (by have := clean_len c; omega)) ⟨Sub.refl, Sub.refl, trivial⟩) ?_
    refine sP rfl rfl rfl (p_not rfl rfl) ?_
    refine lTail ?_
    refine lNil ?_
    refine wCond rfl (fun hc2 => ?_) (fun hc2 => ?_)
    · refine wSeq ?_
      refine wReg ?_
      refine sP rfl rfl rfl (pA rfl rfl) ?_
      refine lNil ?_
      refine wRet ?_
      have h : c ≠ cleanF c := by simpa using hc2
      exact rgs1 (rg_tmp (gives_sub (Sub.of_eq (avI (ctxE_2 hz h).symm))))
    · refine wSkip ?_
      refine wSeq ?_
      refine wReg ?_
      refine sP rfl rfl rfl (pA rfl rfl) ?_
      refine lNil ?_
      refine wRet ?_
      have h : c = cleanF c := by simpa using hc2
      exact rgs1 (rg_tmp (gives_sub (Sub.of_eq (avI (ctxE_3 hz h).symm))))
set_option maxRecDepth 100000 in
theorem cadd_p (c : CtxT) (l : List (Int × Int)) (hv : c.1.length = 16) (hn : c.2.length < 500000) (hl : l.length < 500000) : PFn Try.prog False 39 [ctA c, slD l] (ctA (addF c l)) := by
  refine pfn Try.func39 rfl (by kernel_rfl) 14 rfl _ rfl (Nat.le_of_ble_eq_true rfl) (fun X w0 => ?_)
  refine wSeq ?_
  refine wReg ?_
  refine sBox rfl rfl rfl rfl rfl (fun g2 => ?_)
  refine sAlloc rfl rfl rfl rfl ze55 (fun g4 => ?_)
  refine lNil ?_
  refine wSeq ?_
  refine wDraw 9 (by kernel_rfl) (by kernel_rfl) ?_
  refine sP rfl rfl rfl (p_fieldAddr_own rfl rfl fl55_0 ty53 (by decide)) ?_
  refine sP rfl rfl rfl (pLdO 0 rfl rfl rfl ty53 (ctx_le hv) (ctx_V hv)) ?_
  refine sP rfl rfl rfl (p_fieldAddr_own rfl rfl fl55_1 ty27 (by decide)) ?_
  refine sP rfl rfl rfl (pLdO1 0 rfl rfl rfl ty27 (ctx_C hv)) ?_
  refine sP rfl rfl rfl (pMs rfl rfl) ?_
  refine sP rfl rfl rfl (p_buildSlice (res := [slD c.2, slD l]) rfl ze27 Try.underlying184 ty27 (by decide) (by decide) rfl rfl rfl) ?_
  refine sP rfl rfl rfl (p_call rfl (dconcat2_p c.2 l (by omega) (by omega)) ⟨Sub.refl, trivial⟩) ?_
  refine sP rfl rfl rfl (p_build (res := iL c.1 ++ [slD (c.2 ++ l)]) rfl ze55 pl55 rfl (ctx_fill hv)) ?_
  refine sP rfl rfl rfl (p_call rfl (cclean_p (c.1, c.2 ++ l) hv (by rw [List.length_append]; omega)) ⟨Sub.refl, trivial⟩) ?_
  refine lTail ?_
  refine sStore 1 rfl rfl rfl rfl rfl ty55 rfl (ctx_ones' (c := addF c l) (clean_add (c := c) hv l).len) (ctx_len' (c := addF c l) (clean_add (c := c) hv l).len) (Nat.le_of_ble_eq_true rfl) ?_
  refine lNil ?_
  refine wRet ?_
  have hcl := (clean_add (c := c) hv l).len
  have hsp : spl (iL zeroV ++ [.x (.slice none 0 0)]) 0 (encCt (addF c l)) = encCt (addF c l) := ctx_spl rfl (ctx_len' hcl)
  exact rgs1 (rg_cell rfl (List.mem_of_getElem? (i := 1) rfl) ty55 (.inl ⟨rfl, by show 17 ≤ (spl (iL zeroV ++ [.x (.slice none 0 0)]) 0 (encCt (addF c l))).length; rw [hsp]; exact Nat.le_of_eq (ctx_len' hcl).symm, rfl⟩) (gives_sub (Sub.of_eq (by show AV.agg ((spl (iL zeroV ++ [.x (.slice none 0 0)]) 0 (encCt (addF c l))).take 17) = _; rw [hsp]; exact congrArg AV.agg (List.take_of_length_le (Nat.le_of_eq (ctx_len' hcl)))))))
set_option maxRecDepth 100000 in
theorem cjoin_p (y z : CtxT) (ha : y.1.length = 16) (hb : z.1.length = 16) (ha2 : y.2.length < 500000) (hb2 : z.2.length < 500000) : PFn Try.prog False 55 [ctA y, ctA z] (ctA (joinF y z)) := by
  refine pfn Try.func55 rfl (by kernel_rfl) 22 rfl _ rfl (Nat.le_of_ble_eq_true rfl) (fun X w0 => ?_)
  have hca := (clean_F ha).len
  have hcb := (clean_F hb).len
  have hla := clean_len y
  have hlb := clean_len z
  refine wSeq ?_
  refine wReg ?_
  refine sBox rfl rfl rfl rfl rfl (fun g2 => ?_)
  refine sBox rfl rfl rfl rfl rfl (fun g3 => ?_)
  refine sAlloc rfl rfl rfl rfl ze55 (fun g4 => ?_)
  refine lNil ?_
  refine wSeq ?_
  refine wDrawM 4 (by kernel_rfl) (by kernel_rfl) (fun _ => [.cells g2 55 (encCt y), .cells g3 55 (encCt z), .cells g4 55 (iL zeroV ++ [.x (.slice none 0 0)])]) [] (by kernel_rfl) rfl (fun m _ => rfl) ?_
  refine dwP rfl rfl rfl rfl rfl (fun k al => (pLdW 0 rfl rfl rfl ty55 (ctx_len ha))) ?_
  refine dwP rfl rfl rfl rfl rfl (fun k al => (p_call rfl (cclean_p y ha (by omega)) ⟨Sub.refl, trivial⟩)) ?_
  refine dwP rfl rfl rfl rfl rfl (fun k al => (pLdW 1 rfl rfl rfl ty55 (ctx_len hb))) ?_
  refine dwP rfl rfl rfl rfl rfl (fun k al => (p_call rfl (cclean_p z hb (by omega)) ⟨Sub.refl, trivial⟩)) ?_
  refine dwNil ?_
  refine sStore 0 rfl rfl rfl rfl rfl ty55 rfl (ctx_ones' hca) (ctx_len' hca) (by show 0 + 17 ≤ _; rw [ctx_len' ha]; exact Nat.le_refl _) ?_
  refine sStore 1 rfl rfl rfl rfl rfl ty55 rfl (ctx_ones' hcb) (ctx_len' hcb) (by show 0 + 17 ≤ _; rw [ctx_len' hb]; exact Nat.le_refl _) ?_
  refine lNil ?_
  refine wKeep [(2, .x (.pointer (some ⟨g2, 0, none⟩))), (3, .x (.pointer (some ⟨g3, 0, none⟩))), (4, .x (.pointer (some ⟨g4, 0, none⟩)))] [.cells g2 55 (encCt (cleanF y)), .cells g3 55 (encCt (cleanF z)), .cells g4 55 (iL zeroV ++ [.x (.slice none 0 0)])] [] ⟨rfl, rfl, rfl, trivial⟩ (by
    have e1 : spl (encCt y) 0 (encCt (cleanF y)) = encCt (cleanF y) := ctx_spl (ctx_len' ha) (ctx_len' hca)
    have e2 : spl (encCt z) 0 (encCt (cleanF z)) = encCt (cleanF z) := ctx_spl (ctx_len' hb) (ctx_len' hcb)
    show [HObj.cells g2 _ (spl (encCt y) 0 (encCt (cleanF y))), HObj.cells g3 _ (spl (encCt z) 0 (encCt (cleanF z))), _] = _
    rw [e1, e2]
    rfl) ?_
  refine wSeq ?_
  refine wDraw 13 (by kernel_rfl) (by kernel_rfl) ?_
  refine sP rfl rfl rfl (p_fieldAddr_own rfl rfl fl55_0 ty53 (by decide)) ?_
  refine sP rfl rfl rfl (pLdO 0 rfl rfl rfl ty53 (ctx_le hca) (ctx_V hca)) ?_
  refine sP rfl rfl rfl (p_fieldAddr_own rfl rfl fl55_0 ty53 (by decide)) ?_
  refine sP rfl rfl rfl (pLdO 1 rfl rfl rfl ty53 (ctx_le hcb) (ctx_V hcb)) ?_
  refine sP rfl rfl rfl (p_call rfl (vjoin_p (cleanF y).1 (cleanF z).1 hca hcb) ⟨Sub.refl, Sub.refl, trivial⟩) ?_
  refine sP rfl rfl rfl (p_fieldAddr_own rfl rfl fl55_1 ty27 (by decide)) ?_
  refine sP rfl rfl rfl (pLdO1 0 rfl rfl rfl ty27 (ctx_C hca)) ?_
  refine sP rfl rfl rfl (p_fieldAddr_own rfl rfl fl55_1 ty27 (by decide)) ?_
  refine sP rfl rfl rfl (pLdO1 1 rfl rfl rfl ty27 (ctx_C hcb)) ?_
  refine sP rfl rfl rfl (p_buildSlice (res := [slD (cleanF y).2, slD (cleanF z).2]) rfl ze27 Try.underlying184 ty27 (by decide) (by decide) rfl rfl rfl) ?_
  refine sP rfl rfl rfl (p_call rfl (dconcat2_p (cleanF y).2 (cleanF z).2 (by omega) (by omega)) ⟨Sub.refl, trivial⟩) ?_
  refine sP rfl rfl rfl (p_build (res := iL (vmax (cleanF y).1 (cleanF z).1) ++ [slD ((cleanF y).2 ++ (cleanF z).2)]) rfl ze55 pl55 rfl (ctx_fill (vmax_len hca hcb))) ?_
  refine sP rfl rfl rfl (p_call rfl (cclean_p (vmax (cleanF y).1 (cleanF z).1, (cleanF y).2 ++ (cleanF z).2) (vmax_len hca hcb) (by rw [List.length_append]; omega)) ⟨Sub.refl, trivial⟩) ?_
  refine lTail ?_
  refine sStore 2 rfl rfl rfl rfl rfl ty55 rfl (ctx_ones' (c := joinF y z) (clean_join ha hb).len) (ctx_len' (c := joinF y z) (clean_join ha hb).len) (Nat.le_of_ble_eq_true rfl) ?_
  refine lNil ?_
  refine wRet ?_
  have hcl := (clean_join ha hb).len
  have hsp : spl (iL zeroV ++ [.x (.slice none 0 0)]) 0 (encCt (joinF y z)) = encCt (joinF y z) := ctx_spl rfl (ctx_len' hcl)
  exact rgs1 (rg_cell rfl (List.mem_of_getElem? (i := 2) rfl) ty55 (.inl ⟨rfl, by show 17 ≤ (spl (iL zeroV ++ [.x (.slice none 0 0)]) 0 (encCt (joinF y z))).length; rw [hsp]; exact Nat.le_of_eq (ctx_len' hcl).symm, rfl⟩) (gives_sub (Sub.of_eq (by show AV.agg ((spl (iL zeroV ++ [.x (.slice none 0 0)]) 0 (encCt (joinF y z))).take 17) = _; rw [hsp]; exact congrArg AV.agg (List.take_of_length_le (Nat.le_of_eq (ctx_len' hcl)))))))
end Go.Proofs.Ytmhkalalcmkpbaa

namespace Go.Proofs.Ytmhkalalcmkpbaa
open Go Go.RowKit
set_option linter.unusedVariables false
set_option linter.unusedSimpArgs false
section
variable {P : Program} {C : Cx} {Q : Exit → AS → Prop} {s : AS} {ops : Array Oper} {rest : List Oper}
theorem st_freezeC {i t g : Nat} {T : TypeId} {cs : List AV} {a : Act} {w : World} (hi : s.h[i]? = some (.cells g T cs)) (ht : s.t t = .x (.pointer (some ⟨g, 0, none⟩))) (hs : C.St s a w) : C.St ⟨upd s.t t (.ip cs), s.h.set i .dead⟩ a w := by
  have hg : w.grownBy w (HObj.cells g T cs).blk := World.grownBy.refl _ _
  have hq : ∀ b, HObj.dead.blk = some b → (HObj.cells g T cs).blk = some b ∨ w.heap.size ≤ b := fun b hb => by cases hb
  have env2 := hs.env.set_ (q := .dead) hi hg (fun _ => Nat.le_refl _) trivial hq (fun b hb => by cases hb)
  have sl2 := slots_set (q := .dead) hs.env hi hg hq hs.slots
  refine ⟨env2, sl2.defers, sl2.size, fun u => ?_⟩
  by_cases hu : u = t
  · subst hu
    show Rep _ _ (upd s.t u (.ip cs) u) _
    rw [upd_same]
    have h1 := hs.slots.slot u
    rw [ht, rep_x] at h1
    have hm := List.mem_of_getElem? hi
    have hc := own_cells hs.env hm 0
    rw [List.drop_zero] at hc
    simp only [Rep]
    refine ⟨_, h1, hs.env.lt _ hm g rfl, ?_, RepC.mono (Kept.refl _ w) (owned_set (q := .dead) hi hs.env hq) _ _ hc⟩
    rintro (hx | ⟨o, ho, hob⟩)
    · have h5 := hs.env.ext _ hx
      have h6 := hs.env.new _ hm g rfl
      simp only at h5
      rcases h6 with h6 | h6
      · omega
      · exact h5.2 h6
    · obtain ⟨j, hj⟩ := List.mem_iff_getElem?.1 ho
      rw [List.getElem?_set] at hj
      split at hj
      · split at hj
        · obtain rfl : HObj.dead = o := by simpa using hj
          cases hob
        · cases hj
      · rename_i hne
        exact hne (hs.env.apart i j _ o g hi hj rfl hob)
  · show Rep _ _ (upd s.t t _ u) _
    rw [upd_ne _ _ hu]
    exact sl2.slot u
end
section
variable {P : Program} {C : Cx} {Q : Exit → AS → Prop} {f : Nat → AV} {h : List HObj} {ops : Array Oper} {rest : List Oper}
theorem wFreezeC {c : Code} (i t : Nat) {g : Nat} {T : TypeId} {cs : List AV} (hi : h[i]? = some (.cells g T cs)) (ht : f t = .x (.pointer (some ⟨g, 0, none⟩))) (kk : W P C c Q ⟨upd f t (.ip cs), h.set i .dead⟩) : W P C c Q ⟨f, h⟩ :=
  ⟨fun a w hs => kk.run a w (st_freezeC (s := ⟨f, h⟩) hi ht hs)⟩
end
section
variable {P : Program} {K : Prop} {N : Nat} {X : Nat → Prop} {h : List HObj} {f : Nat → AV} {o : Oper}
theorem p_indexAddr_arr_ip {t e : TypeId} {x y : Operand} {n i k : Nat} {b : Bool} {ik : IntKind} {z : Int} {cs : List AV} (ho : o.op = .indexAddr t x y) (hx : evalT f x = .ip cs) (ht : P.underlying t = some (.array n e)) (he : tyOf P e = some (b, k))
    (hy : evalT f y = .x (.int ik z)) (hz : z = (i : Int)) (hi : i < n) : PureOp P K N X h f o (.ip (cs.drop (i * k))) := pure_run fun a w w0 env H => by
  rw [ho] at H
  have h1 := H x (by simp [Op.operands])
  have h2 := H y (by simp [Op.operands])
  rw [hx] at h1
  rw [hy, rep_x] at h2
  simp only [Rep] at h1
  obtain ⟨ad, e1, h3, h4, hc⟩ := h1
  subst hz
  refine ⟨.pointer (some (ad.add (i * k))), ?_, ?_⟩
  · simp only [execOp, ho, e1, h2, Instr.indexAt, asIntOf, Sem.run_bind, Sem.run_pure, Result.andThen_ok, run_underlying ht, Instr.sureAddr]
    have : (0 : Int) ≤ (i : Int) ∧ (i : Int) < (n : Int) := by omega
    simp [this, run_sizeOf_ he, hi]
  · simp only [Rep]
    refine ⟨_, rfl, by rw [block_of_add]; exact h3, by rw [block_of_add]; exact h4, ?_⟩
    have := hc.drop (i * k)
    have e : (fun j => w.cell? ((ad.add (i * k)).add j)) = (fun j => w.cell? (ad.add (i * k + j))) := funext fun j => by rw [add_of_add]
    rw [e]; exact this
theorem pLdI {t : TypeId} {x : Operand} {cs : List AV} {k : Nat} (ho : o.op = .load t x) (hx : evalT f x = .ip cs) (ht : tyOf P t = some (true, k)) (hl : cs.length = k) : PureOp P K N X h f o (.agg cs) :=
  p_load_ip ho hx ht (.inl ⟨rfl, Nat.le_of_eq hl.symm, by rw [List.take_of_length_le (Nat.le_of_eq hl)]⟩)
theorem pLdI1 {t : TypeId} {x : Operand} {cs : List AV} {c : AV} (ho : o.op = .load t x) (hx : evalT f x = .ip cs) (ht : tyOf P t = some (false, 1)) (hc : cs[0]? = some c) : PureOp P K N X h f o c := p_load_ip ho hx ht (.inr ⟨rfl, hc⟩)
theorem pLdIk {t : TypeId} {x : Operand} {cs res : List AV} {k : Nat} (ho : o.op = .load t x) (hx : evalT f x = .ip cs) (ht : tyOf P t = some (true, k)) (hl : k ≤ cs.length) (hr : cs.take k = res) : PureOp P K N X h f o (.agg res) :=
  p_load_ip ho hx ht (.inl ⟨rfl, hl, by rw [hr]⟩)
end
end Go.Proofs.Ytmhkalalcmkpbaa

namespace Go.Proofs.Ytmhkalalcmkpbaa
open Go
theorem ty169 : tyOf Try.prog 169 = some (false, 1) := by kernel_rfl
theorem ze169 : tyZero Try.prog 169 = some [.nilFunc] := by kernel_rfl
theorem ro169 : rowOf Try.prog 169 = some (1, 8) := by kernel_rfl
end Go.Proofs.Ytmhkalalcmkpbaa

namespace Go.Proofs.Ytmhkalalcmkpbaa
open Go Go.RowKit
set_option linter.unusedVariables false
set_option linter.unusedSimpArgs false

theorem lssq_t {a b : Int} (h : a < b) : icmp .lss a b = some true := congrArg some (decide_eq_true h)
theorem lssq_f {a b : Int} (h : ¬ a < b) : icmp .lss a b = some false := congrArg some (decide_eq_false h)
def hasFn (c : CtxT) : AV := .fn 123 [.ip (encCt c)]
def putFn (c : CtxT) (g : Nat) : AV := .fn 124 [.ip [hasFn c], .x (.pointer (some ⟨g, 0, none⟩))]
def outC (g : Nat) (v : Value) : HObj := .cells g 27 [.x v]
def PutR (g : Nat) (l : List (Int × Int)) (av : AV) (h' : List HObj) : Prop := av = .tup [] ∧ ∃ v', h' = [outC g v', DotS.factRow v' l]
theorem PutR.two {g : Nat} {l : List (Int × Int)} {av : AV} {h' : List HObj} (h : PutR g l av h') : ∃ p q, h' = [p, q] := by obtain ⟨_, v, h⟩ := h; exact ⟨_, _, h⟩
theorem PutR.pq {g : Nat} {l : List (Int × Int)} {av : AV} {p q : HObj} (h : PutR g l av [p, q]) : av = .tup [] ∧ ∃ v', p = outC g v' ∧ q = DotS.factRow v' l := by
  obtain ⟨h1, v, h2⟩ := h
  simp only [List.cons.injEq, and_true] at h2
  exact ⟨h1, v, h2.1, h2.2⟩
theorem push_cases (c : CtxT) (l : List (Int × Int)) (d : Int × Int) : (hasC c d = true ∧ (!hasC c d && decide ((l.length : Int) < 4096)) = false ∧ pushL c l d = l) ∨ (hasC c d = false ∧ (l.length : Int) < 4096 ∧ (!hasC c d && decide ((l.length : Int) < 4096)) = true ∧ pushL c l d = l ++ [d]) ∨ (hasC c d = false ∧ ¬ (l.length : Int) < 4096 ∧ (!hasC c d && decide ((l.length : Int) < 4096)) = false ∧ pushL c l d = l) := by
  unfold pushL
  cases h : hasC c d with
  | true => exact .inl ⟨rfl, rfl, by simp⟩
  | false =>
    by_cases h2 : (l.length : Int) < 4096
    · exact .inr (.inl ⟨rfl, h2, by rw [decide_eq_true h2]; rfl, if_pos ⟨rfl, by omega⟩⟩)
    · exact .inr (.inr ⟨rfl, h2, by rw [decide_eq_false h2]; rfl, if_neg fun g => h2 (by omega)⟩)
theorem push_len (c : CtxT) (l : List (Int × Int)) (d : Int × Int) (h : l.length ≤ 4096) : (pushL c l d).length ≤ 4096 := by
  unfold pushL
  split
  · rename_i g; rw [List.length_append]; have := g.2; simp only [List.length_singleton]; omega
  · exact h

set_option maxRecDepth 100000 in
theorem has1_p (c : CtxT) (d : Int × Int) (hv : c.1.length = 16) (hn : c.2.length < 1000000) : PFn Try.prog False 123 [dA d, .ip (encCt c)] (bA (hasC c d)) := by
  refine pfn Try.func123 rfl (by kernel_rfl) 7 rfl _ rfl (Nat.le_of_ble_eq_true rfl) (fun X w0 => ?_)
  refine wSeq ?_
  refine wReg ?_
  refine sBox rfl rfl rfl rfl rfl (fun g2 => ?_)
  refine sP rfl rfl rfl (pA rfl rfl) ?_
  refine lNil ?_
  refine wSeq ?_
  refine wReg ?_
  refine sP rfl rfl rfl (pLdI rfl rfl ty55 (ctx_len' hv)) ?_
  refine sP rfl rfl rfl (pLdW 0 rfl rfl rfl ty23 rfl) ?_
  refine sP rfl rfl rfl (p_call rfl (chas_p c d hv hn) ⟨Sub.refl, Sub.refl, trivial⟩) ?_
  refine sP rfl rfl rfl (pA rfl rfl) ?_
  refine lNil ?_
  refine wRet ?_
  exact rgs1 (rg_tmp (gives_sub (Sub.of_eq (rfl))))
theorem has1_is {c : CtxT} {d : Int × Int} {b : Bool} (hv : c.1.length = 16) (hn : c.2.length < 1000000) (h : hasC c d = b) : PFn Try.prog False 123 [dA d, .ip (encCt c)] (bA b) := h ▸ has1_p c d hv hn

set_option maxRecDepth 100000 in
theorem put_m (c : CtxT) (d : Int × Int) (l : List (Int × Int)) (g : Nat) (v : Value) (hv : c.1.length = 16) (hn : c.2.length < 1000000) (hl : l.length ≤ 4096) : MFn Try.prog False 124 [dA d, .ip [hasFn c], .x (.pointer (some ⟨g, 0, none⟩))] [outC g v, DotS.factRow v l] (PutR g (pushL c l d)) := by
  refine mfn Try.func124 rfl (by kernel_rfl) 17 rfl _ rfl (Nat.le_of_ble_eq_true rfl) (fun X w0 => ?_)
  have hpu : (!hasC c d && decide ((l.length : Int) < 4096)) = true → pushL c l d = l ++ [d] := fun h => by
    rcases push_cases c l d with ⟨_, e, _⟩ | ⟨_, _, _, e⟩ | ⟨_, _, e, _⟩
    · rw [e] at h; cases h
    · exact e
    · rw [e] at h; cases h
  have hpn : (!hasC c d && decide ((l.length : Int) < 4096)) = false → pushL c l d = l := fun h => by
    rcases push_cases c l d with ⟨_, _, e⟩ | ⟨_, _, e, _⟩ | ⟨_, _, _, e⟩
    · exact e
    · rw [e] at h; cases h
    · exact e
  refine wSeq ?_
  refine wReg ?_
  refine sBox rfl rfl rfl rfl rfl (fun g3 => ?_)
  refine lNil ?_
  refine wCut (fun L h => ∃ b : Bool, b = (!hasC c d && decide ((l.length : Int) < 4096)) ∧ L = [(2, .x (.pointer (some ⟨g, 0, none⟩))), (3, .x (.pointer (some ⟨g3, 0, none⟩))), (12, bA b)] ∧ h = [outC g v, DotS.factRow v l, .cells g3 23 (encA d)]) ?_ ?_
  · rcases push_cases c l d with ⟨e1, hbv, _⟩ | ⟨e1, e2, hbv, _⟩ | ⟨e1, e2, hbv, _⟩
    · refine wReg ?_
      refine sP rfl rfl rfl (pLd1 rfl rfl ty169) ?_
      refine sP rfl rfl rfl (pLdW 2 rfl rfl rfl ty23 rfl) ?_
      refine sP rfl rfl rfl (p_callf rfl rfl (has1_is hv hn e1) ⟨Sub.refl, Sub.refl, trivial⟩) ?_
      refine sP rfl rfl rfl (p_not rfl rfl) ?_
      refine sP rfl rfl rfl (pM rfl rfl) ?_
      refine sUx rfl rfl rfl (by decide) rfl rfl ?_
      refine sUx rfl rfl rfl (by decide) rfl rfl ?_
      refine sUx rfl rfl rfl (by decide) rfl rfl ?_
      refine sP rfl rfl rfl (p_pick rfl rfl rfl) ?_
      refine lNil ?_
      exact ⟨_, [outC g v, DotS.factRow v l, .cells g3 23 (encA d)], _, ⟨_, (by exact hbv.symm), rfl, rfl⟩, ⟨rfl, rfl, rfl, trivial⟩, rfl⟩
    · refine wReg ?_
      refine sP rfl rfl rfl (pLd1 rfl rfl ty169) ?_
      refine sP rfl rfl rfl (pLdW 2 rfl rfl rfl ty23 rfl) ?_
      refine sP rfl rfl rfl (p_callf rfl rfl (has1_is hv hn e1) ⟨Sub.refl, Sub.refl, trivial⟩) ?_
      refine sP rfl rfl rfl (p_not rfl rfl) ?_
      refine sP rfl rfl rfl (pM rfl rfl) ?_
      refine sG rfl rfl rfl rfl rfl (pLdO1 0 rfl rfl rfl ty27 rfl) ?_
      refine sG rfl rfl rfl rfl rfl (p_len_row rfl rfl (List.mem_of_getElem? (i := 1) rfl) Try.underlying27) ?_
      refine sG rfl rfl rfl rfl rfl (p_icmp rfl rfl rfl (lssq_t e2)) ?_
      refine sP rfl rfl rfl (p_pick rfl rfl rfl) ?_
      refine lNil ?_
      exact ⟨_, [outC g v, DotS.factRow v l, .cells g3 23 (encA d)], _, ⟨_, (by exact hbv.symm), rfl, rfl⟩, ⟨rfl, rfl, rfl, trivial⟩, rfl⟩
    · refine wReg ?_
      refine sP rfl rfl rfl (pLd1 rfl rfl ty169) ?_
      refine sP rfl rfl rfl (pLdW 2 rfl rfl rfl ty23 rfl) ?_
      refine sP rfl rfl rfl (p_callf rfl rfl (has1_is hv hn e1) ⟨Sub.refl, Sub.refl, trivial⟩) ?_
      refine sP rfl rfl rfl (p_not rfl rfl) ?_
      refine sP rfl rfl rfl (pM rfl rfl) ?_
      refine sG rfl rfl rfl rfl rfl (pLdO1 0 rfl rfl rfl ty27 rfl) ?_
      refine sG rfl rfl rfl rfl rfl (p_len_row rfl rfl (List.mem_of_getElem? (i := 1) rfl) Try.underlying27) ?_
      refine sG rfl rfl rfl rfl rfl (p_icmp rfl rfl rfl (lssq_f e2)) ?_
      refine sP rfl rfl rfl (p_pick rfl rfl rfl) ?_
      refine lNil ?_
      exact ⟨_, [outC g v, DotS.factRow v l, .cells g3 23 (encA d)], _, ⟨_, (by exact hbv.symm), rfl, rfl⟩, ⟨rfl, rfl, rfl, trivial⟩, rfl⟩
  · rintro L h ⟨b, hb, rfl, rfl⟩
    refine wCond rfl (fun hc1 => ?_) (fun hc1 => ?_)
    · refine wReg ?_
      refine sP rfl rfl rfl (pLdO1 0 rfl rfl rfl ty27 rfl) ?_
      refine sP rfl rfl rfl (pLdW 2 rfl rfl rfl ty23 rfl) ?_
      refine sP rfl rfl rfl (p_buildSlice (res := [d].flatMap encA) rfl ze23 Try.underlying27 ty23 (by decide) (by decide) rfl rfl rfl) ?_
      refine sAppendL (enc := encA) (l := l) 1 [d] rfl rfl rfl rfl Try.underlying27 ro23 rfl rfl rfl (fun _ => rfl) (by rw [List.length_singleton]; omega) (by rw [List.length_singleton]; omega) (fun v16 => ?_)
      refine sStoreRow 0 1 rfl rfl rfl rfl rfl rfl ty27 rfl (Nat.le_of_ble_eq_true rfl) ?_
      refine lNil ?_
      exact ⟨_, [outC g v16, DotS.factRow v16 (l ++ [d])], _, rfl, ⟨rfl, v16, by rw [show pushL c l d = l ++ [d] from hpu (hb.symm.trans hc1)]⟩, rgm_none⟩
    · refine wSkip ?_
      exact ⟨_, [outC g v, DotS.factRow v l], _, rfl, ⟨rfl, v, by rw [show pushL c l d = l from hpn (hb.symm.trans hc1)]⟩, rgm_none⟩

theorem range_exit (A : CtxT) (P : List (Int × Int)) (i : Nat) {lo hi n : Int} (h0 : lo ≤ n) (h1 : n ≤ hi + 1 ∨ n = lo) (h : ¬ (n ≤ hi ∧ (lackT A (P ++ (rangeI lo (n - 1)).map fun n => ((i : Int), n))).length < 4096)) :
    lackT A (P ++ (rangeI lo (n - 1)).map fun n => ((i : Int), n)) = lackT A (P ++ (rangeI lo hi).map fun n => ((i : Int), n)) := by
  by_cases g : n ≤ hi
  · have hl : ¬ (lackT A (P ++ (rangeI lo (n - 1)).map fun n => ((i : Int), n))).length < 4096 := fun k => h ⟨g, k⟩
    have e : ∀ k : Nat, ∃ q, rangeI lo (n - 1 + k) = rangeI lo (n - 1) ++ q := by
      intro k
      induction k with
      | zero => exact ⟨[], by simp⟩
      | succ k ih =>
        obtain ⟨q, hq⟩ := ih
        refine ⟨q ++ [n - 1 + k + 1], ?_⟩
        rw [← List.append_assoc, ← hq, show n - 1 + ((k + 1 : Nat) : Int) = n - 1 + (k : Int) + 1 by omega]
        exact rangeI_snoc (by omega)
    obtain ⟨q, hq⟩ := e (hi - (n - 1)).toNat
    rw [show n - 1 + ((hi - (n - 1)).toNat : Int) = hi by omega] at hq
    rw [hq, List.map_append, ← List.append_assoc, lackT_full hl]
  · rcases h1 with h1 | h1
    · rw [show n - 1 = hi by omega]
    · subst h1
      rw [rangeI_nil (by omega), rangeI_nil (by omega)]
theorem range_next {lo n : Int} {i : Nat} (h : lo ≤ n) : ((rangeI lo (n - 1)).map fun n => ((i : Int), n)) ++ [((i : Int), n)] = (rangeI lo (n + 1 - 1)).map fun n => ((i : Int), n) := by
  rw [show n + 1 - 1 = n - 1 + 1 by omega, rangeI_snoc (by omega), List.map_append, show n - 1 + 1 = n by omega]; rfl
theorem ip_at {v : List Int} {a : AV} {i : Nat} {x : Int} (h : v[i]? = some x) : (((iL v ++ [a]).drop 0).drop (i * 1))[0]? = some (iA x) := by
  rw [List.drop_zero, List.getElem?_drop, Nat.add_zero]
  have := ctx_at (a := a) h
  rwa [Nat.zero_add] at this
theorem ip_C {v : List Int} {a : AV} (h : v.length = 16) : ((iL v ++ [a]).drop 16)[0]? = some a := by
  rw [List.getElem?_drop, Nat.add_zero]; exact ctx_C h
def moreN (n hi : Int) (l : List (Int × Int)) : Bool := decide (n ≤ hi) && decide ((l.length : Int) < 4096)
theorem more_yes {n hi : Int} {l : List (Int × Int)} (h : moreN n hi l = true) : n ≤ hi ∧ l.length < 4096 := by
  unfold moreN at h
  rw [Bool.and_eq_true, decide_eq_true_eq, decide_eq_true_eq] at h
  omega
theorem more_no {n hi : Int} {l : List (Int × Int)} (h : moreN n hi l = false) : ¬ (n ≤ hi ∧ l.length < 4096) := fun g => by
  unfold moreN at h
  rw [decide_eq_true g.1, decide_eq_true (by omega : (l.length : Int) < 4096)] at h
  cases h

set_option maxHeartbeats 1000000 in
set_option maxRecDepth 100000 in
theorem cmiss_p (y z : CtxT) (ha : y.1.length = 16) (hb0 : z.1.length = 16) (ha2 : y.2.length < 1000000) (hb2 : z.2.length < 1000000) : PFn Try.prog False 58 [ctA y, ctA z] (slD (missF y z)) := by
  refine pfn Try.func58 rfl (by kernel_rfl) 61 rfl _ rfl (Nat.le_of_ble_eq_true rfl) (fun X w0 => ?_)
  have hca := (clean_F ha).len
  have hcb := (clean_F hb0).len
  have hla := clean_len y
  have hlb := clean_len z
  refine wSeq ?_
  refine wReg ?_
  refine sBox rfl rfl rfl rfl rfl (fun g2 => ?_)
  refine sBox rfl rfl rfl rfl rfl (fun g3 => ?_)
  refine sP rfl rfl rfl (pA rfl rfl) ?_
  refine lNil ?_
  refine wSeq ?_
  refine wDrawM 4 (by kernel_rfl) (by kernel_rfl) (fun _ => [.cells g2 55 (encCt y), .cells g3 55 (encCt z)]) [] (by kernel_rfl) rfl (fun m _ => rfl) ?_
  refine dwP rfl rfl rfl rfl rfl (fun k al => (pLdW 0 rfl rfl rfl ty55 (ctx_len ha))) ?_
  refine dwP rfl rfl rfl rfl rfl (fun k al => (p_call rfl (cclean_p y ha ha2) ⟨Sub.refl, trivial⟩)) ?_
  refine dwP rfl rfl rfl rfl rfl (fun k al => (pLdW 1 rfl rfl rfl ty55 (ctx_len hb0))) ?_
  refine dwP rfl rfl rfl rfl rfl (fun k al => (p_call rfl (cclean_p z hb0 hb2) ⟨Sub.refl, trivial⟩)) ?_
  refine dwNil ?_
  refine sStore 0 rfl rfl rfl rfl rfl ty55 rfl (ctx_ones' hca) (ctx_len' hca) (by show 0 + 17 ≤ _; rw [ctx_len' ha]; exact Nat.le_refl _) ?_
  refine sStore 1 rfl rfl rfl rfl rfl ty55 rfl (ctx_ones' hcb) (ctx_len' hcb) (by show 0 + 17 ≤ _; rw [ctx_len' hb0]; exact Nat.le_refl _) ?_
  refine lNil ?_
  refine wKeep [(2, .x (.pointer (some ⟨g2, 0, none⟩))), (3, .x (.pointer (some ⟨g3, 0, none⟩)))] [.cells g2 55 (encCt (cleanF y)), .cells g3 55 (encCt (cleanF z))] [] ⟨rfl, rfl, trivial⟩ (by
    have e1 : spl (encCt y) 0 (encCt (cleanF y)) = encCt (cleanF y) := ctx_spl (ctx_len' ha) (ctx_len' hca)
    have e2 : spl (encCt z) 0 (encCt (cleanF z)) = encCt (cleanF z) := ctx_spl (ctx_len' hb0) (ctx_len' hcb)
    show [HObj.cells g2 _ (spl (encCt y) 0 (encCt (cleanF y))), HObj.cells g3 _ (spl (encCt z) 0 (encCt (cleanF z)))] = _
    rw [e1, e2]
    rfl) ?_
  refine wFreezeC 0 2 rfl rfl ?_
  refine wFreezeC 1 3 rfl rfl ?_
  refine wSeq ?_
  refine wReg ?_
  refine sP rfl rfl rfl (p_makeFn rfl rfl (SubL.refl _)) ?_
  refine sAlloc rfl rfl rfl rfl ze169 (fun g5 => ?_)
  refine sStore1 2 rfl rfl rfl rfl rfl ty169 rfl rfl (Nat.le_of_ble_eq_true rfl) ?_
  refine lNil ?_
  refine wFreezeC 2 5 rfl rfl ?_
  refine wSeq ?_
  refine wReg ?_
  refine sAlloc rfl rfl rfl rfl ze27 (fun g6 => ?_)
  refine lNil ?_
  refine wSeq ?_
  refine wReg ?_
  refine sP rfl rfl rfl (p_makeFn rfl rfl (SubL.refl _)) ?_
  refine sP rfl rfl rfl (pAf rfl rfl) ?_
  refine lNil ?_
  refine wNilrow 23 2 ?_
  refine wPerm [outC g6 (.slice none 0 0), DotS.factRow (.slice none 0 0) [], .dead, .dead, .dead] (List.perm_append_comm (l₁ := ([.dead, .dead, .dead] : List HObj)) (l₂ := [outC g6 (.slice none 0 0), DotS.factRow (.slice none 0 0) []])) ?_
  refine wSeq ?_
  refine wSeq ?_
  refine wReg ?_
  refine sP rfl rfl rfl (pM rfl rfl) ?_
  refine lNil ?_
  refine wBlock ?_
  refine wLoop (fun mm L h => ∃ i v, mm = 16 - i ∧ i ≤ 16 ∧ L = [(2, .ip (encCt (cleanF y))), (3, .ip (encCt (cleanF z))), (6, .x (.pointer (some ⟨g6, 0, none⟩))), (7, putFn (cleanF y) g6), (18, iA (i : Nat))] ∧ h = [outC g6 v, DotS.factRow v (lackT (cleanF y) (allC (cleanF y) (cleanF z) i))]) ⟨_, _, [outC g6 (.slice none 0 0), DotS.factRow (.slice none 0 0) []], _, ⟨0, .slice none 0 0, rfl, Nat.zero_le _, rfl, rfl⟩, ⟨rfl, rfl, rfl, rfl, rfl, trivial⟩, rfl⟩ ?_
  rintro mm L h ⟨i, v, rfl, hi, rfl, rfl⟩
  refine wSeq ?_
  refine wReg ?_
  refine sP rfl rfl rfl (p_icmp rfl rfl rfl rfl) ?_
  refine lNil ?_
  refine wSeq ?_
  refine wCond rfl (fun hc1 => ?_) (fun hc1 => ?_)
  · have hi16 : i < 16 := by have h := hc1; simp at h; omega
    have hxa : (cleanF y).1[i]? = some (vget (cleanF y).1 i) := vget_at (r := (i : Int)) hca (by omega) (by omega)
    have hxb : (cleanF z).1[i]? = some (vget (cleanF z).1 i) := vget_at (r := (i : Int)) hcb (by omega) (by omega)
    have hra := (clean_F ha).at_ i
    have hrb := (clean_F hb0).at_ i
    refine wSkip ?_
    refine wSeq ?_
    refine wBlock ?_
    refine wSeq ?_
    refine wReg ?_
    refine sP rfl rfl rfl (pM rfl rfl) ?_
    refine sP rfl rfl rfl (pA rfl rfl) ?_
    refine lNil ?_
    refine wSeq ?_
    refine wSeq ?_
    refine wReg ?_
    refine sP rfl rfl rfl (pM rfl rfl) ?_
    refine sP rfl rfl rfl (p_fieldAddr_ip rfl rfl fl55_0 ty53 (by decide)) ?_
    refine sP rfl rfl rfl (p_indexAddr_arr_ip rfl rfl Try.underlying53 ty3 rfl (i := i) rfl hi16) ?_
    refine sP rfl rfl rfl (pLdI1 rfl rfl ty3 (ip_at hxa)) ?_
    refine sP rfl rfl rfl (p_iar rfl rfl rfl (by show some _ = some _; rw [wrapI (by omega) (by omega)])) ?_
    refine sP rfl rfl rfl (pA rfl rfl) ?_
    refine lNil ?_
    refine wBlock ?_
    refine wLoop (fun mm L h => ∃ n v, mm = (vget (cleanF z).1 i + 1 - n).toNat ∧ vget (cleanF y).1 i + 1 ≤ n ∧ (n ≤ vget (cleanF z).1 i + 1 ∨ n = vget (cleanF y).1 i + 1) ∧ L = [(2, .ip (encCt (cleanF y))), (3, .ip (encCt (cleanF z))), (6, .x (.pointer (some ⟨g6, 0, none⟩))), (7, putFn (cleanF y) g6), (8, iA (i : Nat)), (9, iA n), (18, iA (i : Nat))] ∧ h = [outC g6 v, DotS.factRow v (lackT (cleanF y) ((allC (cleanF y) (cleanF z) i) ++ ((rangeI (vget (cleanF y).1 i + 1) (n - 1)).map fun n => ((i : Int), n))))]) ⟨_, _, [outC g6 v, DotS.factRow v (lackT (cleanF y) (allC (cleanF y) (cleanF z) i))], _, ⟨vget (cleanF y).1 i + 1, v, rfl, Int.le_refl _, .inr rfl, rfl, by rw [rangeI_nil (by omega), List.map_nil, List.append_nil]⟩, ⟨rfl, rfl, rfl, rfl, rfl, rfl, rfl, trivial⟩, rfl⟩ ?_
    rintro mm L h ⟨n, v, rfl, hn1, hn2, rfl, rfl⟩
    refine wSeq ?_
    refine wCut (fun L h => ∃ b : Bool, b = (moreN n (vget (cleanF z).1 i) (lackT (cleanF y) ((allC (cleanF y) (cleanF z) i) ++ ((rangeI (vget (cleanF y).1 i + 1) (n - 1)).map fun n => ((i : Int), n))))) ∧ L = [(2, .ip (encCt (cleanF y))), (3, .ip (encCt (cleanF z))), (6, .x (.pointer (some ⟨g6, 0, none⟩))), (7, putFn (cleanF y) g6), (8, iA (i : Nat)), (9, iA n), (18, iA (i : Nat)), (36, bA b)] ∧ h = [outC g6 v, DotS.factRow v (lackT (cleanF y) ((allC (cleanF y) (cleanF z) i) ++ ((rangeI (vget (cleanF y).1 i + 1) (n - 1)).map fun n => ((i : Int), n))))]) ?_ ?_
    · cases hb : (decide (n ≤ vget (cleanF z).1 i)) with
      | true =>
        refine wReg ?_
        refine sP rfl rfl rfl (pM rfl rfl) ?_
        refine sP rfl rfl rfl (pM rfl rfl) ?_
        refine sP rfl rfl rfl (p_fieldAddr_ip rfl rfl fl55_0 ty53 (by decide)) ?_
        refine sP rfl rfl rfl (p_indexAddr_arr_ip rfl rfl Try.underlying53 ty3 rfl (i := i) rfl hi16) ?_
        refine sP rfl rfl rfl (pLdI1 rfl rfl ty3 (ip_at hxb)) ?_
        refine sP rfl rfl rfl (p_icmp rfl rfl rfl (congrArg some hb)) ?_
        refine sP rfl rfl rfl (pM rfl rfl) ?_
        refine sG rfl rfl rfl rfl rfl (pLdO1 0 rfl rfl rfl ty27 rfl) ?_
        refine sG rfl rfl rfl rfl rfl (p_len_row rfl rfl (List.mem_of_getElem? (i := 1) rfl) Try.underlying27) ?_
        refine sG rfl rfl rfl rfl rfl (p_icmp rfl rfl rfl rfl) ?_
        refine sP rfl rfl rfl (p_pick rfl rfl rfl) ?_
        refine lNil ?_
        exact ⟨_, [outC g6 v, DotS.factRow v (lackT (cleanF y) ((allC (cleanF y) (cleanF z) i) ++ ((rangeI (vget (cleanF y).1 i + 1) (n - 1)).map fun n => ((i : Int), n))))], [], ⟨_, (by exact (by unfold moreN; rw [hb]; rfl)), rfl, rfl⟩, ⟨rfl, rfl, rfl, rfl, rfl, rfl, rfl, rfl, trivial⟩, rfl⟩
      | false =>
        refine wReg ?_
        refine sP rfl rfl rfl (pM rfl rfl) ?_
        refine sP rfl rfl rfl (pM rfl rfl) ?_
        refine sP rfl rfl rfl (p_fieldAddr_ip rfl rfl fl55_0 ty53 (by decide)) ?_
        refine sP rfl rfl rfl (p_indexAddr_arr_ip rfl rfl Try.underlying53 ty3 rfl (i := i) rfl hi16) ?_
        refine sP rfl rfl rfl (pLdI1 rfl rfl ty3 (ip_at hxb)) ?_
        refine sP rfl rfl rfl (p_icmp rfl rfl rfl (congrArg some hb)) ?_
        refine sP rfl rfl rfl (pM rfl rfl) ?_
        refine sU rfl rfl rfl (by decide) rfl rfl ?_
        refine sU rfl rfl rfl (by decide) rfl rfl ?_
        refine sU rfl rfl rfl (by decide) rfl rfl ?_
        refine sP rfl rfl rfl (p_pick rfl rfl rfl) ?_
        refine lNil ?_
        exact ⟨_, [outC g6 v, DotS.factRow v (lackT (cleanF y) ((allC (cleanF y) (cleanF z) i) ++ ((rangeI (vget (cleanF y).1 i + 1) (n - 1)).map fun n => ((i : Int), n))))], [], ⟨_, (by exact (by unfold moreN; rw [hb]; rfl)), rfl, rfl⟩, ⟨rfl, rfl, rfl, rfl, rfl, rfl, rfl, rfl, trivial⟩, rfl⟩
    · rintro L h ⟨b, hb, rfl, rfl⟩
      refine wCond rfl (fun hc2 => ?_) (fun hc2 => ?_)
      · obtain ⟨hle, hlt4⟩ := more_yes (hb.symm.trans hc2)
        refine wSkip ?_
        refine wSeq ?_
        refine wBlock ?_
        refine wReg ?_
        refine sP rfl rfl rfl (pMf rfl rfl) ?_
        refine sP rfl rfl rfl (pM rfl rfl) ?_
        refine sP rfl rfl rfl (pM rfl rfl) ?_
        refine sP rfl rfl rfl (p_build (res := [iA (i : Nat), iA n]) rfl ze23 pl23 rfl rfl) ?_
        refine sM2f 0 1 (by decide) rfl rfl rfl rfl rfl (put_m (cleanF y) ((i : Int), n) (lackT (cleanF y) ((allC (cleanF y) (cleanF z) i) ++ ((rangeI (vget (cleanF y).1 i + 1) (n - 1)).map fun n => ((i : Int), n)))) g6 v hca (by omega) (lackT_len _ _)) ⟨Sub.refl, Sub.refl, Sub.refl, trivial⟩ (fun _ _ h => h.two) (fun av q1 q2 hr => ?_)
        obtain ⟨rfl, v2, rfl, rfl⟩ := hr.pq
        refine lNil ?_
        refine wReg ?_
        refine sP rfl rfl rfl (pM rfl rfl) ?_
        refine sP rfl rfl rfl (p_iar rfl rfl rfl rfl) ?_
        refine sP rfl rfl rfl (pA rfl rfl) ?_
        refine lNil ?_
        refine ⟨_, _, [outC g6 v2, DotS.factRow v2 (lackT (cleanF y) ((allC (cleanF y) (cleanF z) i) ++ ((rangeI (vget (cleanF y).1 i + 1) (n + 1 - 1)).map fun n => ((i : Int), n))))], [], ?_, ⟨n + 1, v2, rfl, by omega, .inl (by omega), rfl, rfl⟩, ⟨rfl, rfl, rfl, rfl, rfl, avI (wrapI (by omega) (by omega)), rfl, trivial⟩, ?_⟩
        · omega
        · rw [← range_next hn1, ← List.append_assoc, lackT_push]; rfl
      · have hex := range_exit (cleanF y) (allC (cleanF y) (cleanF z) i) i hn1 hn2 (more_no (hb.symm.trans hc2))
        refine wExit ?_
        refine wSeq ?_
        refine wReg ?_
        refine sP rfl rfl rfl (p_fieldAddr_ip rfl rfl fl55_1 ty27 (by decide)) ?_
        refine sP rfl rfl rfl (pLdI1 rfl rfl ty27 (ip_C hcb)) ?_
        refine sP rfl rfl rfl (p_len_sl rfl rfl Try.underlying27) ?_
        refine sP rfl rfl rfl (pM rfl rfl) ?_
        refine lNil ?_
        refine wBlock ?_
        refine wLoop (fun mm L h => ∃ k v, mm = (cleanF z).2.length - k ∧ k ≤ (cleanF z).2.length ∧ L = [(2, .ip (encCt (cleanF y))), (3, .ip (encCt (cleanF z))), (6, .x (.pointer (some ⟨g6, 0, none⟩))), (7, putFn (cleanF y) g6), (8, iA (i : Nat)), (18, iA (i : Nat)), (45, slD (cleanF z).2), (46, iA (cleanF z).2.length), (47, iA (k : Nat))] ∧ h = [outC g6 v, DotS.factRow v (lackT (cleanF y) ((allC (cleanF y) (cleanF z) i) ++ ((rangeI (vget (cleanF y).1 i + 1) (vget (cleanF z).1 i)).map fun n => ((i : Int), n)) ++ atRep i ((cleanF z).2.take k)))]) ⟨_, _, [outC g6 v, DotS.factRow v (lackT (cleanF y) ((allC (cleanF y) (cleanF z) i) ++ ((rangeI (vget (cleanF y).1 i + 1) (n - 1)).map fun n => ((i : Int), n))))], _, ⟨0, v, rfl, Nat.zero_le _, rfl, by rw [show atRep i ((cleanF z).2.take 0) = [] from rfl, List.append_nil, ← hex]⟩, ⟨rfl, rfl, rfl, rfl, rfl, rfl, rfl, rfl, rfl, trivial⟩, rfl⟩ ?_
        rintro mm L h ⟨k, v, rfl, hk, rfl, rfl⟩
        refine wSeq ?_
        refine wReg ?_
        refine sP rfl rfl rfl (p_icmp rfl rfl rfl rfl) ?_
        refine lNil ?_
        refine wSeq ?_
        refine wCond rfl (fun hc3 => ?_) (fun hc3 => ?_)
        · have hlt : k < (cleanF z).2.length := by simpa using hc3
          obtain ⟨d, hd⟩ := getL hlt
          refine wSkip ?_
          refine wSeq ?_
          refine wBlock ?_
          refine wSeq ?_
          refine wReg ?_
          refine sP rfl rfl rfl (pIdx k rfl rfl Try.underlying27 ty23 (by decide) rfl (fun _ => rfl) rfl rfl hd) ?_
          refine sP rfl rfl rfl (pLdE rfl rfl ty23 rfl) ?_
          refine sAlloc rfl rfl rfl rfl ze23 (fun g11 => ?_)
          refine sStore 2 rfl rfl rfl rfl rfl ty23 rfl rfl rfl (Nat.le_of_ble_eq_true rfl) ?_
          refine lNil ?_
          refine wSeq ?_
          refine wReg ?_
          refine sP rfl rfl rfl (p_fieldAddr_own rfl rfl fl23_0 ty3 (by decide)) ?_
          refine sP rfl rfl rfl (pLdO1 2 rfl rfl rfl ty3 rfl) ?_
          refine sP rfl rfl rfl (pM rfl rfl) ?_
          refine sP rfl rfl rfl (p_icmp rfl rfl rfl rfl) ?_
          refine lNil ?_
          refine wCond rfl (fun hc4 => ?_) (fun hc4 => ?_)
          · refine wReg ?_
            refine sP rfl rfl rfl (pMf rfl rfl) ?_
            refine sP rfl rfl rfl (pLdW 2 rfl rfl rfl ty23 rfl) ?_
            refine sM2f 0 1 (by decide) rfl rfl rfl rfl rfl (put_m (cleanF y) d (lackT (cleanF y) ((allC (cleanF y) (cleanF z) i) ++ ((rangeI (vget (cleanF y).1 i + 1) (vget (cleanF z).1 i)).map fun n => ((i : Int), n)) ++ atRep i ((cleanF z).2.take k))) g6 v hca (by omega) (lackT_len _ _)) ⟨Sub.refl, Sub.refl, Sub.refl, trivial⟩ (fun _ _ h => h.two) (fun av q1 q2 hr => ?_)
            obtain ⟨rfl, v2, rfl, rfl⟩ := hr.pq
            refine lNil ?_
            refine wReg ?_
            refine sP rfl rfl rfl (p_iar rfl rfl rfl rfl) ?_
            refine sP rfl rfl rfl (pM rfl rfl) ?_
            refine lNil ?_
            have hr : d.1 = (i : Int) := by simpa using hc4
            have hat : atRep i ((cleanF z).2.take (k + 1)) = atRep i ((cleanF z).2.take k) ++ [d] := by rw [atRep_take hd, if_pos hr]
            refine ⟨_, _, [outC g6 v2, DotS.factRow v2 (lackT (cleanF y) ((allC (cleanF y) (cleanF z) i) ++ ((rangeI (vget (cleanF y).1 i + 1) (vget (cleanF z).1 i)).map fun n => ((i : Int), n)) ++ atRep i ((cleanF z).2.take (k + 1))))], [.cells g11 23 (encA d)], ?_, ⟨k + 1, v2, rfl, hlt, rfl, rfl⟩, ⟨rfl, rfl, rfl, rfl, rfl, rfl, rfl, rfl, avI (wrapI (by omega) (by omega)), trivial⟩, ?_⟩
            · omega
            · rw [hat, ← List.append_assoc, lackT_push]; rfl
          · refine wSkip ?_
            refine wReg ?_
            refine sP rfl rfl rfl (p_iar rfl rfl rfl rfl) ?_
            refine sP rfl rfl rfl (pM rfl rfl) ?_
            refine lNil ?_
            have hr : ¬ d.1 = (i : Int) := by simpa using hc4
            have hat : atRep i ((cleanF z).2.take (k + 1)) = atRep i ((cleanF z).2.take k) := by rw [atRep_take hd, if_neg hr]
            refine ⟨_, _, [outC g6 v, DotS.factRow v (lackT (cleanF y) ((allC (cleanF y) (cleanF z) i) ++ ((rangeI (vget (cleanF y).1 i + 1) (vget (cleanF z).1 i)).map fun n => ((i : Int), n)) ++ atRep i ((cleanF z).2.take (k + 1))))], [.cells g11 23 (encA d)], ?_, ⟨k + 1, v, rfl, hlt, rfl, rfl⟩, ⟨rfl, rfl, rfl, rfl, rfl, rfl, rfl, rfl, avI (wrapI (by omega) (by omega)), trivial⟩, ?_⟩
            · omega
            · rw [hat]; rfl
        · have hge : k = (cleanF z).2.length := by
            have h : ¬ k < (cleanF z).2.length := by simpa using hc3
            omega
          subst hge
          refine wExit ?_
          refine wReg ?_
          refine sP rfl rfl rfl (p_iar rfl rfl rfl rfl) ?_
          refine sP rfl rfl rfl (pM rfl rfl) ?_
          refine lNil ?_
          have hall : (allC (cleanF y) (cleanF z) i) ++ ((rangeI (vget (cleanF y).1 i + 1) (vget (cleanF z).1 i)).map fun n => ((i : Int), n)) ++ atRep i ((cleanF z).2.take (cleanF z).2.length) = allC (cleanF y) (cleanF z) (i + 1) := by rw [List.take_length, allC_succ, List.append_assoc]; rfl
          refine ⟨_, _, [outC g6 v, DotS.factRow v (lackT (cleanF y) (allC (cleanF y) (cleanF z) (i + 1)))], [], ?_, ⟨i + 1, v, rfl, hi16, rfl, rfl⟩, ⟨rfl, rfl, rfl, rfl, avI (wrapI (by omega) (by omega)), trivial⟩, ?_⟩
          · omega
          · rw [← hall]; rfl
  · have hge : i = 16 := by have h := hc1; simp at h; omega
    subst hge
    refine wExit ?_
    refine wSeq ?_
    refine wReg ?_
    refine sP rfl rfl rfl (pLdO1 0 rfl rfl rfl ty27 rfl) ?_
    refine sP rfl rfl rfl (pA rfl rfl) ?_
    refine lNil ?_
    refine wRet ?_
    exact rgs1 (rg_tmp (gives_row (List.mem_of_getElem? (i := 1) rfl)))
end Go.Proofs.Ytmhkalalcmkpbaa

namespace Go.Proofs.Ytmhkalalcmkpbaa
open Go Go.RowKit
set_option linter.unusedVariables false
set_option linter.unusedSimpArgs false

theorem readD_lenC (s : ByteArray) : (readD s).1.length ≤ 4096 := by
  unfold readD
  split
  · simp
  · split
    · simp
    · split
      · simp
      · rename_i h _ _
        have key : ∀ (n : Nat) (st : ByteArray × Int), (rdL n st).1.length ≤ n := by
          intro n
          induction n with
          | zero => intro st; simp [rdL]
          | succ n ih =>
            intro st
            by_cases h : st.2 = 0
            · rw [rdL_step _ _ h]; have := ih (rdN (rdN st).2).2; simp; omega
            · rw [rdL_stop _ _ h]; simp
        have := key (rdN (s, 0)).1 (rdN (s, 0)).2
        show (rdL (rdN (s, 0)).1 (rdN (s, 0)).2).1.length ≤ 4096
        omega
theorem putSD_sizeC (l : List (Int × Int)) : (putS l).size ≤ 8 + 16 * l.length := by
  unfold putS
  split
  · exact Nat.zero_le _
  · have h1 := putL_size l (numS l.length)
    have h2 := numS_size l.length
    omega
def lk (y z : CtxT) : Bool := decide ((0 : Int) < ((missF y z).length : Nat))
theorem lk_eq (y z : CtxT) : decide (0 < (missF y z).length) = lk y z := by
  unfold lk
  by_cases h : 0 < (missF y z).length
  · rw [decide_eq_true h, decide_eq_true (by omega)]
  · rw [decide_eq_false h, decide_eq_false (by omega)]
theorem cmp_of {y z : CtxT} {a b : Bool} (ha : lk y z = a) (hb : lk z y = b) : compareF y z = cmpC a b := by unfold compareF; rw [lk_eq, lk_eq, ha, hb]
theorem cmp_2 {y z : CtxT} (h : (lk y z && lk z y) = true) : compareF y z = 2 := by rw [Bool.and_eq_true] at h; rw [cmp_of h.1 h.2]; rfl
theorem cmp_l {y z : CtxT} (h : (lk y z && lk z y) = false) (h2 : lk y z = true) : compareF y z = -1 := by rw [h2, Bool.true_and] at h; rw [cmp_of h2 h]; rfl
theorem cmp_m {y z : CtxT} (h2 : lk y z = false) (h3 : lk z y = true) : compareF y z = 1 := by rw [cmp_of h2 h3]; rfl
theorem cmp_0 {y z : CtxT} (h2 : lk y z = false) (h3 : lk z y = false) : compareF y z = 0 := by rw [cmp_of h2 h3]; rfl
theorem cputE_1 {c : CtxT} (h : ctxE c ≠ 0) : cputE c = ctxE c := if_pos h
theorem ctx_putE {c : CtxT} (hl : c.1.length = 16) (h : ctxE c = 0) : putE c.2 = if 4096 < c.2.length then 3 else 0 := by
  have hc : Clean c := by have := clean_F hl; rw [(ctxE_zero h).2] at this; exact this
  unfold putE; rw [mayE_G, clean_may hc]
theorem cputE_2 {c : CtxT} (hl : c.1.length = 16) (h : ctxE c = 0) (h2 : putE c.2 ≠ 0) : cputE c = putE c.2 := by
  have e := ctx_putE hl h
  by_cases g : 4096 < c.2.length
  · rw [if_pos g] at e
    unfold cputE; rw [if_neg (by simpa using h), if_pos g, e]
  · rw [if_neg g] at e; exact absurd e h2
theorem cputE_3 {c : CtxT} (hl : c.1.length = 16) (h : ctxE c = 0) (h2 : putE c.2 = 0) : cputE c = txE (putS c.2) := by
  have e := ctx_putE hl h
  by_cases g : 4096 < c.2.length
  · rw [if_pos g, h2] at e; cases e
  · unfold cputE txE; rw [if_neg (by simpa using h), if_neg g]
theorem cputS_e {c : CtxT} (h : cputE c ≠ 0) : cputS c = ⟨#[]⟩ := if_pos h
theorem cputS_o {c : CtxT} (h : cputE c = 0) : cputS c = cat (c.1.map numS) ++ txS (putS c.2) := if_neg (by simpa using h)
theorem ctx_vE {c : CtxT} (h : ctxE c = 0) : vE c.1 = 0 := by unfold ctxE at h; exact (ifE h).1
theorem vputS_o {v : List Int} (h : vE v = 0) : vputS v = cat (v.map numS) := if_neg (by simpa using h)
theorem vputS_size {v : List Int} (hv : v.length = 16) : (vputS v).size ≤ 128 := by
  unfold vputS
  split
  · exact Nat.zero_le _
  · have h := cat_size (k := 8) (v.map numS) fun x hx => by obtain ⟨n, _, rfl⟩ := List.mem_map.1 hx; exact numS_size n
    rw [List.length_map] at h
    omega

set_option maxRecDepth 100000 in
theorem ccompare_p (y z : CtxT) (ha : y.1.length = 16) (hb : z.1.length = 16) (ha2 : y.2.length < 1000000) (hb2 : z.2.length < 1000000) : PFn Try.prog False 60 [ctA y, ctA z] (iA (compareF y z)) := by
  refine pfn Try.func60 rfl (by kernel_rfl) 26 rfl _ rfl (Nat.le_of_ble_eq_true rfl) (fun X w0 => ?_)
  refine wSeq ?_
  refine wReg ?_
  refine sBox rfl rfl rfl rfl rfl (fun g2 => ?_)
  refine sBox rfl rfl rfl rfl rfl (fun g3 => ?_)
  refine sP rfl rfl rfl (pA rfl rfl) ?_
  refine lNil ?_
  refine wSeq ?_
  refine wDrawM 12 (by kernel_rfl) (by kernel_rfl) (fun _ => [.cells g2 55 (encCt y), .cells g3 55 (encCt z)]) [] (by kernel_rfl) rfl (fun m _ => rfl) ?_
  refine dwP rfl rfl rfl rfl rfl (fun k al => (pLdW 0 rfl rfl rfl ty55 (ctx_len ha))) ?_
  refine dwP rfl rfl rfl rfl rfl (fun k al => (pLdW 1 rfl rfl rfl ty55 (ctx_len hb))) ?_
  refine dwP rfl rfl rfl rfl rfl (fun k al => (p_call rfl (cmiss_p y z ha hb ha2 hb2) ⟨Sub.refl, Sub.refl, trivial⟩)) ?_
  refine dwP rfl rfl rfl rfl rfl (fun k al => (p_len_sl rfl rfl Try.underlying27)) ?_
  refine dwP rfl rfl rfl rfl rfl (fun k al => (p_icmp rfl rfl rfl (show _ = some (lk y z) from rfl))) ?_
  refine dwP rfl rfl rfl rfl rfl (fun k al => (pLdW 1 rfl rfl rfl ty55 (ctx_len hb))) ?_
  refine dwP rfl rfl rfl rfl rfl (fun k al => (pLdW 0 rfl rfl rfl ty55 (ctx_len ha))) ?_
  refine dwP rfl rfl rfl rfl rfl (fun k al => (p_call rfl (cmiss_p z y hb ha hb2 ha2) ⟨Sub.refl, Sub.refl, trivial⟩)) ?_
  refine dwP rfl rfl rfl rfl rfl (fun k al => (p_len_sl rfl rfl Try.underlying27)) ?_
  refine dwP rfl rfl rfl rfl rfl (fun k al => (p_icmp rfl rfl rfl (show _ = some (lk z y) from rfl))) ?_
  refine dwP rfl rfl rfl rfl rfl (fun k al => (pA rfl rfl)) ?_
  refine dwP rfl rfl rfl rfl rfl (fun k al => (pA rfl rfl)) ?_
  refine dwNil ?_
  refine lNil ?_
  refine wSeq ?_
  refine wBlock ?_
  refine wCut (fun L h => ∃ b0 : Bool, b0 = (lk y z && lk z y) ∧ L = [(5, bA (lk y z)), (6, bA (lk z y)), (17, bA b0)] ∧ h = [.cells g2 55 (encCt y), .cells g3 55 (encCt z)]) ?_ ?_
  · cases hb0 : (lk y z) with
    | true =>
      refine wReg ?_
      refine sP rfl rfl rfl (pM rfl rfl) ?_
      refine sP rfl rfl rfl (pM rfl rfl) ?_
      refine sG rfl rfl rfl rfl rfl (pM rfl rfl) ?_
      refine sP rfl rfl rfl (p_pick rfl rfl rfl) ?_
      refine sP rfl rfl rfl (pA rfl rfl) ?_
      refine lNil ?_
      exact ⟨_, [.cells g2 55 (encCt y), .cells g3 55 (encCt z)], [], ⟨_, (by exact rfl), rfl, rfl⟩, ⟨rfl, rfl, rfl, trivial⟩, rfl⟩
    | false =>
      refine wReg ?_
      refine sP rfl rfl rfl (pM rfl rfl) ?_
      refine sP rfl rfl rfl (pM rfl rfl) ?_
      refine sU rfl rfl rfl (by decide) rfl rfl ?_
      refine sP rfl rfl rfl (p_pick rfl rfl rfl) ?_
      refine sP rfl rfl rfl (pA rfl rfl) ?_
      refine lNil ?_
      exact ⟨_, [.cells g2 55 (encCt y), .cells g3 55 (encCt z)], [], ⟨_, (by exact rfl), rfl, rfl⟩, ⟨rfl, rfl, rfl, trivial⟩, rfl⟩
  · rintro L h ⟨b0, bb0, rfl, rfl⟩
    refine wCond rfl (fun hc1 => ?_) (fun hc1 => ?_)
    · refine wSeq ?_
      refine wReg ?_
      refine sP rfl rfl rfl (pA rfl rfl) ?_
      refine lNil ?_
      refine wRet ?_
      exact rgs1 (rg_tmp (gives_sub (Sub.of_eq (avI (cmp_2 (bb0.symm.trans hc1)).symm))))
    · refine wSeq ?_
      refine wReg ?_
      refine sP rfl rfl rfl (pM rfl rfl) ?_
      refine sP rfl rfl rfl (pA rfl rfl) ?_
      refine lNil ?_
      refine wCond rfl (fun hc2 => ?_) (fun hc2 => ?_)
      · refine wSeq ?_
        refine wReg ?_
        refine sP rfl rfl rfl (pA rfl rfl) ?_
        refine lNil ?_
        refine wRet ?_
        exact rgs1 (rg_tmp (gives_sub (Sub.of_eq (avI (cmp_l (bb0.symm.trans hc1) hc2).symm))))
      · refine wSeq ?_
        refine wReg ?_
        refine sP rfl rfl rfl (pM rfl rfl) ?_
        refine sP rfl rfl rfl (pA rfl rfl) ?_
        refine lNil ?_
        refine wCond rfl (fun hc3 => ?_) (fun hc3 => ?_)
        · refine wSeq ?_
          refine wReg ?_
          refine sP rfl rfl rfl (pA rfl rfl) ?_
          refine lNil ?_
          refine wRet ?_
          exact rgs1 (rg_tmp (gives_sub (Sub.of_eq (avI (cmp_m hc2 hc3).symm))))
        · refine wSkip ?_
          refine wSeq ?_
          refine wReg ?_
          refine sP rfl rfl rfl (pA rfl rfl) ?_
          refine lNil ?_
          refine wRet ?_
          exact rgs1 (rg_tmp (gives_sub (Sub.of_eq (avI (cmp_0 hc2 hc3).symm))))
set_option maxRecDepth 100000 in
theorem cput_p (c : CtxT) (hv : c.1.length = 16) (hn : c.2.length < 1000000) : PFn Try.prog False 35 [ctA c] (.tup [sA (cputS c), iA (cputE c)]) := by
  refine pfn Try.func35 rfl (by kernel_rfl) 41 rfl _ rfl (Nat.le_of_ble_eq_true rfl) (fun X w0 => ?_)
  refine wSeq ?_
  refine wReg ?_
  refine sBox rfl rfl rfl rfl rfl (fun g1 => ?_)
  refine sP rfl rfl rfl (pA rfl rfl) ?_
  refine sP rfl rfl rfl (pA rfl rfl) ?_
  refine lNil ?_
  refine wSeq ?_
  refine wSeq ?_
  refine wReg ?_
  refine sP rfl rfl rfl (pLdW 0 rfl rfl rfl ty55 (ctx_len hv)) ?_
  refine sP rfl rfl rfl (p_call rfl (ccheck_p c hv hn) ⟨Sub.refl, trivial⟩) ?_
  refine sP rfl rfl rfl (pA rfl rfl) ?_
  refine lNil ?_
  refine wSeq ?_
  refine wReg ?_
  refine sP rfl rfl rfl (pM rfl rfl) ?_
  refine sP rfl rfl rfl (p_icmp rfl rfl rfl rfl) ?_
  refine lNil ?_
  refine wCond rfl (fun hc1 => ?_) (fun hc1 => ?_)
  · refine wSeq ?_
    refine wReg ?_
    refine sP rfl rfl rfl (pM rfl rfl) ?_
    refine sP rfl rfl rfl (pA rfl rfl) ?_
    refine sP rfl rfl rfl (pA rfl rfl) ?_
    refine lNil ?_
    refine wRet ?_
    have h : ctxE c ≠ 0 := by simpa using hc1
    have he := cputE_1 h
    exact rgs2 (rg_tmp (gives_sub (Sub.of_eq (avS (cputS_e (by rw [he]; exact h)).symm)))) (rg_tmp (gives_sub (Sub.of_eq (avI he.symm))))
  · have hz : ctxE c = 0 := by simpa using hc1
    refine wSkip ?_
    refine wSeq ?_
    refine wReg ?_
    refine sP rfl rfl rfl (p_fieldAddr_own rfl rfl fl55_1 ty27 (by decide)) ?_
    refine sP rfl rfl rfl (pLdO1 0 rfl rfl rfl ty27 (ctx_C hv)) ?_
    refine sP rfl rfl rfl (p_call rfl (dput_p c.2 hn) ⟨Sub.refl, trivial⟩) ?_
    refine sP rfl rfl rfl (pMt rfl rfl) ?_
    refine sP rfl rfl rfl (p_extract rfl rfl rfl) ?_
    refine sP rfl rfl rfl (p_extract rfl rfl rfl) ?_
    refine sP rfl rfl rfl (pA rfl rfl) ?_
    refine sP rfl rfl rfl (pA rfl rfl) ?_
    refine lNil ?_
    refine wSeq ?_
    refine wSeq ?_
    refine wReg ?_
    refine sP rfl rfl rfl (pM rfl rfl) ?_
    refine sP rfl rfl rfl (p_icmp rfl rfl rfl rfl) ?_
    refine lNil ?_
    refine wCond rfl (fun hc2 => ?_) (fun hc2 => ?_)
    · refine wSeq ?_
      refine wReg ?_
      refine sP rfl rfl rfl (pM rfl rfl) ?_
      refine sP rfl rfl rfl (pA rfl rfl) ?_
      refine sP rfl rfl rfl (pA rfl rfl) ?_
      refine lNil ?_
      refine wRet ?_
      have h : putE c.2 ≠ 0 := by simpa using hc2
      have he := cputE_2 hv hz h
      exact rgs2 (rg_tmp (gives_sub (Sub.of_eq (avS (cputS_e (by rw [he]; exact h)).symm)))) (rg_tmp (gives_sub (Sub.of_eq (avI he.symm))))
    · have hz2 : putE c.2 = 0 := by simpa using hc2
      refine wSkip ?_
      refine wSeq ?_
      refine wReg ?_
      refine sP rfl rfl rfl (p_fieldAddr_own rfl rfl fl55_0 ty53 (by decide)) ?_
      refine sP rfl rfl rfl (pLdO 0 rfl rfl rfl ty53 (ctx_le hv) (ctx_V hv)) ?_
      refine sP rfl rfl rfl (p_call rfl (vput_p c.1 hv) ⟨Sub.refl, trivial⟩) ?_
      refine sP rfl rfl rfl (pMt rfl rfl) ?_
      refine sP rfl rfl rfl (p_extract rfl rfl rfl) ?_
      refine sP rfl rfl rfl (p_extract rfl rfl rfl) ?_
      refine sP rfl rfl rfl (pA rfl rfl) ?_
      refine sP rfl rfl rfl (pA rfl rfl) ?_
      refine lNil ?_
      refine wSeq ?_
      refine wReg ?_
      refine sP rfl rfl rfl (pM rfl rfl) ?_
      refine sP rfl rfl rfl (p_call rfl (text_p (putS c.2) (by have := putSD_sizeC c.2; omega)) ⟨Sub.refl, trivial⟩) ?_
      refine sP rfl rfl rfl (pMt rfl rfl) ?_
      refine sP rfl rfl rfl (p_extract rfl rfl rfl) ?_
      refine sP rfl rfl rfl (p_extract rfl rfl rfl) ?_
      refine sP rfl rfl rfl (pA rfl rfl) ?_
      refine sP rfl rfl rfl (pA rfl rfl) ?_
      refine lNil ?_
      refine wSeq ?_
      refine wSeq ?_
      refine wReg ?_
      refine sP rfl rfl rfl (pM rfl rfl) ?_
      refine sP rfl rfl rfl (p_icmp rfl rfl rfl rfl) ?_
      refine lNil ?_
      refine wCond rfl (fun hc3 => ?_) (fun hc3 => ?_)
      · refine wSeq ?_
        refine wReg ?_
        refine sP rfl rfl rfl (pM rfl rfl) ?_
        refine sP rfl rfl rfl (pA rfl rfl) ?_
        refine sP rfl rfl rfl (pA rfl rfl) ?_
        refine lNil ?_
        refine wRet ?_
        have h : txE (putS c.2) ≠ 0 := by simpa using hc3
        have he := cputE_3 hv hz hz2
        exact rgs2 (rg_tmp (gives_sub (Sub.of_eq (avS (cputS_e (by rw [he]; exact h)).symm)))) (rg_tmp (gives_sub (Sub.of_eq (avI he.symm))))
      · refine wSkip ?_
        refine wSeq ?_
        refine wReg ?_
        refine sP rfl rfl rfl (pM rfl rfl) ?_
        refine sP rfl rfl rfl (pM rfl rfl) ?_
        refine sP rfl rfl rfl (p_sadd rfl rfl rfl (by have := vputS_size hv; have := txS_size (putS c.2); have := putSD_sizeC c.2; omega)) ?_
        refine sP rfl rfl rfl (pA rfl rfl) ?_
        refine sP rfl rfl rfl (pA rfl rfl) ?_
        refine lNil ?_
        refine wRet ?_
        have h : txE (putS c.2) = 0 := by simpa using hc3
        have he := cputE_3 hv hz hz2
        exact rgs2 (rg_tmp (gives_sub (Sub.of_eq (avS (by rw [cputS_o (by rw [he, h]), ← vputS_o (ctx_vE hz)]))))) (rg_tmp (gives_sub (Sub.of_eq (avI (by rw [he, h])))))
end Go.Proofs.Ytmhkalalcmkpbaa

namespace Go.Proofs.Ytmhkalalcmkpbaa
open Go Go.RowKit
set_option linter.unusedVariables false
set_option linter.unusedSimpArgs false

def rV (s : ByteArray) : List Int := (rdV 16 (s, 0)).1
def rS (s : ByteArray) : ByteArray × Int := (rdV 16 (s, 0)).2
def tA (s : ByteArray) : ByteArray × (ByteArray × Int) := rdT (rS s)
theorem rV_eq (s : ByteArray) : (rdV 16 (s, 0)).1 = rV s := rfl
theorem rS_eq (s : ByteArray) : (rdV 16 (s, 0)).2 = rS s := rfl
theorem rV_len (s : ByteArray) : (rV s).length = 16 := rdV_len 16 _
theorem rS_size (s : ByteArray) : (rS s).1.size ≤ s.size := rdV_size 16 (s, 0)
theorem tA_text (s : ByteArray) : (tA s).1.size ≤ 65536 := rdT_text _
theorem tA_size (s : ByteArray) : (tA s).2.1.size ≤ s.size := Nat.le_trans (rdT_size (rS s)) (rS_size s)
theorem creadE_t (s : ByteArray) : creadE s = if doneE (tA s).2 ≠ 0 then doneE (tA s).2 else if vE (rV s) ≠ 0 then vE (rV s) else if (readD (tA s).1).2 ≠ 0 then (readD (tA s).1).2 else ctxE (rV s, (readD (tA s).1).1) := rfl
theorem creadD_t (s : ByteArray) : creadD s = (rV s, (readD (tA s).1).1) := rfl
def cR0 (s : ByteArray) : Int := doneE (tA s).2
def cR1 (s : ByteArray) : Int := if cR0 s = 0 then vE (rV s) else cR0 s
def cR2 (s : ByteArray) : Int := if cR1 s = 0 then (readD (tA s).1).2 else cR1 s
def cR3 (s : ByteArray) : Int := if cR2 s = 0 then ctxE (rV s, (readD (tA s).1).1) else cR2 s
theorem cR_end (s : ByteArray) : cR3 s = creadE s := by
  rw [creadE_t]
  unfold cR3 cR2 cR1 cR0
  by_cases h0 : doneE (tA s).2 = 0 <;> by_cases h1 : vE (rV s) = 0 <;> by_cases h2 : (readD (tA s).1).2 = 0 <;> simp [h0, h1, h2]
theorem creadT_e {s : ByteArray} (h : creadE s ≠ 0) : creadT s = zeroC := if_pos h
theorem creadT_o {s : ByteArray} (h : creadE s = 0) : creadT s = (rV s, (readD (tA s).1).1) := by unfold creadT; rw [if_neg (by simpa using h), creadD_t]
theorem zeroC_sub : Sub (.agg (iL zeroV ++ [.x (.slice none 0 0)])) (ctA zeroC) := Sub.agg ⟨Sub.refl, Sub.refl, Sub.refl, Sub.refl, Sub.refl, Sub.refl, Sub.refl, Sub.refl, Sub.refl, Sub.refl, Sub.refl, Sub.refl, Sub.refl, Sub.refl, Sub.refl, Sub.refl, Sub.nil_, trivial⟩
attribute [local irreducible] rV rS

set_option maxRecDepth 100000 in
theorem cread_p (s : ByteArray) (hs : s.size < 9223372036854775807) : PFn Try.prog False 37 [sA s] (.tup [ctA (creadT s), iA (creadE s)]) := by
  refine pfn Try.func37 rfl (by kernel_rfl) 46 rfl _ rfl (Nat.le_of_ble_eq_true rfl) (fun X w0 => ?_)
  have hVl := rV_len s
  refine wSeq ?_
  refine wReg ?_
  refine sAlloc rfl rfl rfl rfl ze55 (fun g2 => ?_)
  refine sP rfl rfl rfl (pA rfl rfl) ?_
  refine lNil ?_
  refine wSeq ?_
  refine wReg ?_
  refine sP rfl rfl rfl (pM rfl rfl) ?_
  refine sM0 rfl rfl rfl rfl (new_m s) ⟨Sub.refl, trivial⟩ (fun _ _ ⟨_, h⟩ => h.one) (fun av q hr => ?_)
  obtain ⟨p, hr⟩ := hr
  obtain ⟨rfl, rfl⟩ := hr.pq
  refine sP rfl rfl rfl (pA rfl rfl) ?_
  refine lNil ?_
  refine wSeq ?_
  refine wReg ?_
  refine sAlloc rfl rfl rfl rfl ze55 (fun g5 => ?_)
  refine lNil ?_
  refine wSeq ?_
  refine wSeq ?_
  refine wReg ?_
  refine sP rfl rfl rfl (pM rfl rfl) ?_
  refine lNil ?_
  refine wBlock ?_
  refine wLoop (fun mm L h => ∃ i, mm = 16 - i ∧ i ≤ 16 ∧ L = [(2, nP g2), (4, nP p), (5, nP g5), (11, iA (i : Nat))] ∧ h = [.cells g2 55 (iL zeroV ++ [.x (.slice none 0 0)]), rdO p (rdV i (s, 0)).2, .cells g5 55 (iL (vpad (s, 0) i) ++ [AV.x (.slice none 0 0)])]) ⟨_, _, [.cells g2 55 (iL zeroV ++ [.x (.slice none 0 0)]), rdO p (rdV 0 (s, 0)).2, .cells g5 55 (iL (vpad (s, 0) 0) ++ [AV.x (.slice none 0 0)])], _, ⟨0, rfl, Nat.zero_le _, rfl, rfl⟩, ⟨rfl, rfl, rfl, rfl, trivial⟩, rfl⟩ ?_
  rintro mm L h ⟨i, rfl, hi, rfl, rfl⟩
  refine wSeq ?_
  refine wReg ?_
  refine sP rfl rfl rfl (p_icmp rfl rfl rfl rfl) ?_
  refine lNil ?_
  refine wSeq ?_
  refine wCond rfl (fun hc1 => ?_) (fun hc1 => ?_)
  · have hi16 : i < 16 := by have h := hc1; simp at h; omega
    refine wSkip ?_
    refine wSeq ?_
    refine wBlock ?_
    refine wSeq ?_
    refine wReg ?_
    refine sP rfl rfl rfl (pM rfl rfl) ?_
    refine sP rfl rfl rfl (pA rfl rfl) ?_
    refine lNil ?_
    refine wReg ?_
    refine sP rfl rfl rfl (pM rfl rfl) ?_
    refine sP rfl rfl rfl (pM rfl rfl) ?_
    refine sM1 1 rfl rfl rfl (rdnum_m p (rdV i (s, 0)).2 (Nat.lt_of_le_of_lt (rdV_size i (s, 0)) hs)) ⟨Sub.refl, trivial⟩ (fun _ _ h => h.one) (fun av q hr => ?_)
    obtain ⟨rfl, rfl⟩ := hr.pq
    refine sP rfl rfl rfl (p_fieldAddr_own rfl rfl fl55_0 ty53 (by decide)) ?_
    refine sP rfl rfl rfl (p_indexAddr_arr rfl rfl Try.underlying53 ty3 rfl (i := i) rfl hi16) ?_
    refine sStore1 2 rfl rfl rfl rfl rfl ty3 rfl rfl (by rw [ctx_len (vpad_len (s, 0) hi)]; omega) ?_
    refine lNil ?_
    refine wReg ?_
    refine sP rfl rfl rfl (p_iar rfl rfl rfl rfl) ?_
    refine sP rfl rfl rfl (pM rfl rfl) ?_
    refine lNil ?_
    refine ⟨_, _, [.cells g2 55 (iL zeroV ++ [.x (.slice none 0 0)]), rdO p (rdV (i + 1) (s, 0)).2, .cells g5 55 (iL (vpad (s, 0) (i + 1)) ++ [AV.x (.slice none 0 0)])], [], ?_, ⟨i + 1, rfl, hi16, rfl, rfl⟩, ⟨rfl, rfl, rfl, avI (wrapI (by omega) (by omega)), trivial⟩, ?_⟩
    · omega
    · show [_, _, HObj.cells g5 _ ((iL (vpad (s, 0) i) ++ [AV.x (.slice none 0 0)]).set (0 + i * 1) (iA ((rdN (rdV i (s, 0)).2).1 : Nat)))] = _
      rw [ctx_set (by rw [vpad_len (s, 0) hi]; exact hi16), vpad_set (s, 0) hi16]
      rfl
  · have hge : i = 16 := by have h := hc1; simp at h; omega
    subst hge
    refine wExit ?_
    refine wKeep [(2, nP g2), (4, nP p), (5, nP g5)] [.cells g2 55 (iL zeroV ++ [.x (.slice none 0 0)]), rdO p (rS s), .cells g5 55 (iL (rV s) ++ [AV.x (.slice none 0 0)])] [] ⟨rfl, rfl, rfl, trivial⟩ (by rw [vpad_all, rV_eq, rS_eq]; rfl) ?_
    refine wSeq ?_
    refine wReg ?_
    refine sP rfl rfl rfl (pM rfl rfl) ?_
    refine sM1 1 rfl rfl rfl (rdtext_m p (rS s) (Nat.lt_of_le_of_lt (rS_size s) hs)) ⟨Sub.refl, trivial⟩ (fun _ _ h => h.one) (fun av q hr => ?_)
    obtain ⟨rfl, rfl⟩ := hr.pq
    refine sP rfl rfl rfl (pA rfl rfl) ?_
    refine lNil ?_
    refine wSeq ?_
    refine wReg ?_
    refine sP rfl rfl rfl (pM rfl rfl) ?_
    refine sM1 1 rfl rfl rfl (rddone_m p (tA s).2) ⟨Sub.refl, trivial⟩ (fun _ _ h => h.one) (fun av q hr => ?_)
    obtain ⟨rfl, rfl⟩ := hr.pq
    refine sP rfl rfl rfl (pA rfl rfl) ?_
    refine lNil ?_
    refine wCut (fun L h => ∃ e, e = cR1 s ∧ L = [(2, nP g2), (5, nP g5), (7, sA (tA s).1), (8, iA e)] ∧ h = [.cells g2 55 (iL zeroV ++ [.x (.slice none 0 0)]), rdO p (tA s).2, .cells g5 55 (iL (rV s) ++ [AV.x (.slice none 0 0)])]) ?_ ?_
    · refine wSeq ?_
      refine wReg ?_
      refine sP rfl rfl rfl (pM rfl rfl) ?_
      refine sP rfl rfl rfl (p_icmp rfl rfl rfl rfl) ?_
      refine lNil ?_
      refine wCond rfl (fun hc1 => ?_) (fun hc1 => ?_)
      · refine wReg ?_
        refine sP rfl rfl rfl (p_fieldAddr_own rfl rfl fl55_0 ty53 (by decide)) ?_
        refine sP rfl rfl rfl (pLdO 2 rfl rfl rfl ty53 (ctx_le hVl) (ctx_V hVl)) ?_
        refine sP rfl rfl rfl (p_call rfl (vcheck_p (rV s) hVl) ⟨Sub.refl, trivial⟩) ?_
        refine sP rfl rfl rfl (pA rfl rfl) ?_
        refine lNil ?_
        have k0 : cR0 s = 0 := by show doneE (tA s).2 = 0; simpa using hc1
        exact ⟨_, [.cells g2 55 (iL zeroV ++ [.x (.slice none 0 0)]), rdO p (tA s).2, .cells g5 55 (iL (rV s) ++ [AV.x (.slice none 0 0)])], [], ⟨vE (rV s), (if_pos k0).symm, rfl, rfl⟩, ⟨rfl, rfl, rfl, rfl, trivial⟩, rfl⟩
      · refine wSkip ?_
        have k0 : cR0 s ≠ 0 := by show doneE (tA s).2 ≠ 0; simpa using hc1
        exact ⟨_, [.cells g2 55 (iL zeroV ++ [.x (.slice none 0 0)]), rdO p (tA s).2, .cells g5 55 (iL (rV s) ++ [AV.x (.slice none 0 0)])], [], ⟨cR0 s, (if_neg k0).symm, rfl, rfl⟩, ⟨rfl, rfl, rfl, rfl, trivial⟩, rfl⟩
    · rintro L h ⟨e, he, rfl, rfl⟩
      refine wCut (fun L h => ∃ e a, e = cR2 s ∧ (e = 0 → a = slD (readD (tA s).1).1) ∧ L = [(2, nP g2), (5, nP g5), (7, sA (tA s).1), (8, iA e)] ∧ h = [.cells g2 55 (iL zeroV ++ [.x (.slice none 0 0)]), rdO p (tA s).2, .cells g5 55 (iL (rV s) ++ [a])]) ?_ ?_
      · refine wSeq ?_
        refine wReg ?_
        refine sP rfl rfl rfl (pM rfl rfl) ?_
        refine sP rfl rfl rfl (p_icmp rfl rfl rfl rfl) ?_
        refine lNil ?_
        refine wCond rfl (fun hc2 => ?_) (fun hc2 => ?_)
        · refine wReg ?_
          refine sP rfl rfl rfl (pM rfl rfl) ?_
          refine sP rfl rfl rfl (p_call rfl (dread_p (tA s).1 (by have := tA_text s; omega)) ⟨Sub.refl, trivial⟩) ?_
          refine sP rfl rfl rfl (pMt rfl rfl) ?_
          refine sP rfl rfl rfl (p_extract rfl rfl rfl) ?_
          refine sP rfl rfl rfl (p_extract rfl rfl rfl) ?_
          refine sP rfl rfl rfl (p_fieldAddr_own rfl rfl fl55_1 ty27 (by decide)) ?_
          refine sStore1 2 rfl rfl rfl rfl rfl ty27 rfl rfl (by rw [ctx_len hVl]; exact Nat.le_refl _) ?_
          refine sP rfl rfl rfl (pA rfl rfl) ?_
          refine lNil ?_
          have k0 : cR1 s = 0 := by rw [← he]; simpa using hc2
          refine ⟨_, [.cells g2 55 (iL zeroV ++ [.x (.slice none 0 0)]), rdO p (tA s).2, .cells g5 55 (iL (rV s) ++ [slD (readD (tA s).1).1])], [], ⟨(readD (tA s).1).2, slD (readD (tA s).1).1, (if_pos k0).symm, fun _ => rfl, rfl, rfl⟩, ⟨rfl, rfl, rfl, rfl, trivial⟩, ?_⟩
          show [_, _, HObj.cells g5 _ ((iL (rV s) ++ [AV.x (.slice none 0 0)]).set 16 (slD (readD (tA s).1).1))] = _
          rw [ctx_setC hVl]
          rfl
        · refine wSkip ?_
          have k0 : cR1 s ≠ 0 := by rw [← he]; simpa using hc2
          exact ⟨_, [.cells g2 55 (iL zeroV ++ [.x (.slice none 0 0)]), rdO p (tA s).2, .cells g5 55 (iL (rV s) ++ [AV.x (.slice none 0 0)])], [], ⟨e, AV.x (.slice none 0 0), he.trans (if_neg k0).symm, fun h => absurd (he.symm.trans h) k0, rfl, rfl⟩, ⟨rfl, rfl, rfl, rfl, trivial⟩, rfl⟩
      · rintro L h ⟨e, a, he, hae, rfl, rfl⟩
        refine wCut (fun L h => ∃ e a, e = cR3 s ∧ (e = 0 → a = slD (readD (tA s).1).1) ∧ L = [(2, nP g2), (5, nP g5), (7, sA (tA s).1), (8, iA e)] ∧ h = [.cells g2 55 (iL zeroV ++ [.x (.slice none 0 0)]), rdO p (tA s).2, .cells g5 55 (iL (rV s) ++ [a])]) ?_ ?_
        · refine wSeq ?_
          refine wReg ?_
          refine sP rfl rfl rfl (pM rfl rfl) ?_
          refine sP rfl rfl rfl (p_icmp rfl rfl rfl rfl) ?_
          refine lNil ?_
          refine wCond rfl (fun hc3 => ?_) (fun hc3 => ?_)
          · have k0 : cR2 s = 0 := by rw [← he]; simpa using hc3
            obtain rfl := hae (he.trans k0)
            refine wReg ?_
            refine sP rfl rfl rfl (pLdW 2 rfl rfl rfl ty55 (ctx_len hVl)) ?_
            refine sP rfl rfl rfl (p_call rfl (ccheck_p (rV s, (readD (tA s).1).1) hVl (by have := readD_lenC (tA s).1; show (readD (tA s).1).1.length < 1000000; omega)) ⟨Sub.refl, trivial⟩) ?_
            refine sP rfl rfl rfl (pA rfl rfl) ?_
            refine lNil ?_
            exact ⟨_, [.cells g2 55 (iL zeroV ++ [.x (.slice none 0 0)]), rdO p (tA s).2, .cells g5 55 (iL (rV s) ++ [slD (readD (tA s).1).1])], [], ⟨ctxE (rV s, (readD (tA s).1).1), slD (readD (tA s).1).1, (if_pos k0).symm, fun _ => rfl, rfl, rfl⟩, ⟨rfl, rfl, rfl, rfl, trivial⟩, rfl⟩
          · refine wSkip ?_
            have k0 : cR2 s ≠ 0 := by rw [← he]; simpa using hc3
            exact ⟨_, [.cells g2 55 (iL zeroV ++ [.x (.slice none 0 0)]), rdO p (tA s).2, .cells g5 55 (iL (rV s) ++ [a])], [], ⟨e, a, he.trans (if_neg k0).symm, fun h => absurd (he.symm.trans h) k0, rfl, rfl⟩, ⟨rfl, rfl, rfl, rfl, trivial⟩, rfl⟩
        · rintro L h ⟨e, a, he, hae, rfl, rfl⟩
          refine wSeq ?_
          refine wSeq ?_
          refine wReg ?_
          refine sP rfl rfl rfl (pM rfl rfl) ?_
          refine sP rfl rfl rfl (p_icmp rfl rfl rfl rfl) ?_
          refine lNil ?_
          refine wCond rfl (fun hc4 => ?_) (fun hc4 => ?_)
          · refine wSeq ?_
            refine wReg ?_
            refine sP rfl rfl rfl (p_build (res := (iL zeroV ++ [.x (.slice none 0 0)])) rfl ze55 pl55 rfl rfl) ?_
            refine sP rfl rfl rfl (pM rfl rfl) ?_
            refine sStore 0 rfl rfl rfl rfl rfl ty55 rfl rfl rfl (Nat.le_of_ble_eq_true rfl) ?_
            refine sP rfl rfl rfl (pA rfl rfl) ?_
            refine lNil ?_
            refine wRet ?_
            have k3 : creadE s ≠ 0 := by rw [← cR_end, ← he]; simpa using hc4
            rw [creadT_e k3]
            exact rgs2 (rg_cell rfl (List.mem_of_getElem? (i := 0) rfl) ty55 (.inl ⟨rfl, Nat.le_refl _, rfl⟩) (gives_sub zeroC_sub)) (rg_tmp (gives_sub (Sub.of_eq (avI (by rw [← cR_end, ← he])))))
          · refine wSkip ?_
            obtain rfl := hae (by simpa using hc4)
            refine wSeq ?_
            refine wReg ?_
            refine sP rfl rfl rfl (pLdW 2 rfl rfl rfl ty55 (ctx_len hVl)) ?_
            refine sStore 0 rfl rfl rfl rfl rfl ty55 rfl (ctx_ones' (c := (rV s, (readD (tA s).1).1)) hVl) (ctx_len' (c := (rV s, (readD (tA s).1).1)) hVl) (Nat.le_of_ble_eq_true rfl) ?_
            refine sP rfl rfl rfl (pA rfl rfl) ?_
            refine lNil ?_
            refine wRet ?_
            have k3 : creadE s = 0 := by rw [← cR_end, ← he]; simpa using hc4
            rw [creadT_o k3]
            have hsp : spl (iL zeroV ++ [.x (.slice none 0 0)]) 0 (encCt (rV s, (readD (tA s).1).1)) = (encCt (rV s, (readD (tA s).1).1)) := ctx_spl rfl (ctx_len' (c := (rV s, (readD (tA s).1).1)) hVl)
            exact rgs2 (rg_cell rfl (List.mem_of_getElem? (i := 0) rfl) ty55 (.inl ⟨rfl, by show 17 ≤ (spl (iL zeroV ++ [.x (.slice none 0 0)]) 0 (encCt (rV s, (readD (tA s).1).1))).length; rw [hsp]; exact Nat.le_of_eq (ctx_len' (c := (rV s, (readD (tA s).1).1)) hVl).symm, rfl⟩) (gives_sub (Sub.of_eq (by show AV.agg ((spl (iL zeroV ++ [.x (.slice none 0 0)]) 0 (encCt (rV s, (readD (tA s).1).1))).take 17) = _; rw [hsp]; exact congrArg AV.agg (List.take_of_length_le (Nat.le_of_eq (ctx_len' (c := (rV s, (readD (tA s).1).1)) hVl))))))) (rg_tmp (gives_sub (Sub.of_eq (avI k3.symm))))
end Go.Proofs.Ytmhkalalcmkpbaa

namespace Go.Proofs.Ytmhkalalcmkpbaa
open Go Go.RowKit
set_option linter.unusedVariables false
set_option linter.unusedSimpArgs false

theorem rdsame_is {a b : List (Int × Int)} {r : Bool} (h : decide (a = b) = r) (h1 : a.length < 1000000) (h2 : b.length < 1000000) : PFn Try.prog False 57 [slD a, slD b] (bA r) := h ▸ rdsame_p a b h1 h2
def xV : List Int := [2, 0, 0, 0, 0, 0, 0, 0, 0, 0, 0, 0, 0, 0, 0, 0]
def xC : CtxT := (xV, [(1, 3)])
def bC : CtxT := (zeroV, [(0, 1)])
def xL : List (Int × Int) := [(0, 2), (0, 1), (1, 3)]
def mL : List (Int × Int) := [(0, 1), (0, 2), (1, 3)]
theorem aw13_add : addF zeroC xL = xC := by kernel_rfl
theorem aw13_put : cputE xC = 0 := by kernel_rfl
theorem aw13_bad : cputE bC = 5 := by kernel_rfl
theorem aw13_h1 : hasC xC (0, 1) = true := by kernel_rfl
theorem aw13_h2 : hasC xC (1, 1) = false := by kernel_rfl
theorem aw13_miss : missF zeroC xC = mL := by kernel_rfl
theorem aw13_cmp : compareF xC zeroC = 1 := by kernel_rfl
theorem cputS_size {c : CtxT} (hv : c.1.length = 16) (hn : c.2.length < 1000000) : (cputS c).size < 9223372036854775807 := by
  unfold cputS
  split
  · decide
  · rw [ByteArray.size_append]
    have h := cat_size (k := 8) (c.1.map numS) fun x hx => by obtain ⟨n, _, rfl⟩ := List.mem_map.1 hx; exact numS_size n
    rw [List.length_map] at h
    have := txS_size (putS c.2); have := putSD_sizeC c.2; omega
theorem cadd_is {c : CtxT} {l : List (Int × Int)} {r : CtxT} (hv : c.1.length = 16) (hn : c.2.length < 500000) (hl : l.length < 500000) (h : addF c l = r) : PFn Try.prog False 39 [ctA c, slD l] (ctA r) := h ▸ cadd_p c l hv hn hl
theorem cput_is {c : CtxT} {e : Int} (hv : c.1.length = 16) (hn : c.2.length < 1000000) (h : cputE c = e) : PFn Try.prog False 35 [ctA c] (.tup [sA (cputS c), iA e]) := h ▸ cput_p c hv hn
theorem cread_is {s : ByteArray} {c : CtxT} {e : Int} (hs : s.size < 9223372036854775807) (h : creadT s = c) (he : creadE s = e) : PFn Try.prog False 37 [sA s] (.tup [ctA c, iA e]) := h ▸ he ▸ cread_p s hs
theorem chas_is {c : CtxT} {d : Int × Int} {b : Bool} (hv : c.1.length = 16) (hn : c.2.length < 1000000) (h : hasC c d = b) : PFn Try.prog False 40 [ctA c, dA d] (bA b) := h ▸ chas_p c d hv hn
theorem cmiss_is {y z : CtxT} {l : List (Int × Int)} (ha : y.1.length = 16) (hb0 : z.1.length = 16) (ha2 : y.2.length < 1000000) (hb2 : z.2.length < 1000000) (h : missF y z = l) : PFn Try.prog False 58 [ctA y, ctA z] (slD l) := h ▸ cmiss_p y z ha hb0 ha2 hb2
theorem ccompare_is {y z : CtxT} {n : Int} (ha : y.1.length = 16) (hb0 : z.1.length = 16) (ha2 : y.2.length < 1000000) (hb2 : z.2.length < 1000000) (h : compareF y z = n) : PFn Try.prog False 60 [ctA y, ctA z] (iA n) := h ▸ ccompare_p y z ha hb0 ha2 hb2

set_option maxRecDepth 100000 in
theorem rcsame_p (y z : CtxT) (ha : y.1.length = 16) (hb : z.1.length = 16) (ha2 : y.2.length < 1000000) (hb2 : z.2.length < 1000000) : PFn Try.prog False 28 [ctA y, ctA z] (bA (decide (y = z))) := by
  refine pfn Try.func28 rfl (by kernel_rfl) 17 rfl _ rfl (Nat.le_of_ble_eq_true rfl) (fun X w0 => ?_)
  refine wSeq ?_
  refine wReg ?_
  refine sBox rfl rfl rfl rfl rfl (fun g2 => ?_)
  refine sBox rfl rfl rfl rfl rfl (fun g3 => ?_)
  refine sP rfl rfl rfl (pA rfl rfl) ?_
  refine lNil ?_
  refine wCut (fun L h => ∃ b : Bool, b = (decide (y = z)) ∧ L = [(2, .x (.pointer (some ⟨g2, 0, none⟩))), (4, bA b)] ∧ h = []) ?_ ?_
  · rcases eqC_cases y z with ⟨e1, hbv⟩ | ⟨e1, e2, hbv⟩ | ⟨e1, e2, hbv⟩
    · refine wReg ?_
      refine sP rfl rfl rfl (p_fieldAddr_own rfl rfl fl55_0 ty53 (by decide)) ?_
      refine sP rfl rfl rfl (pLdO 0 rfl rfl rfl ty53 (ctx_le ha) (ctx_V ha)) ?_
      refine sP rfl rfl rfl (p_fieldAddr_own rfl rfl fl55_0 ty53 (by decide)) ?_
      refine sP rfl rfl rfl (pLdO 1 rfl rfl rfl ty53 (ctx_le hb) (ctx_V hb)) ?_
      refine sP rfl rfl rfl (p_eqs (r := false) rfl rfl rfl (exL_ints _) (exL_ints _) guardV (fun w => eqV_f ha hb e1)) ?_
      refine sP rfl rfl rfl (pM rfl rfl) ?_
      refine sUx rfl rfl rfl (by decide) rfl rfl ?_
      refine sUx rfl rfl rfl (by decide) rfl rfl ?_
      refine sUx rfl rfl rfl (by decide) rfl rfl ?_
      refine sUx rfl rfl rfl (by decide) rfl rfl ?_
      refine sUx rfl rfl rfl (by decide) rfl rfl ?_
      refine sP rfl rfl rfl (p_pick rfl rfl rfl) ?_
      refine sP rfl rfl rfl (pA rfl rfl) ?_
      refine lNil ?_
      exact ⟨_, [], _, ⟨_, (by exact hbv.symm), rfl, rfl⟩, ⟨rfl, rfl, trivial⟩, rfl⟩
    · refine wReg ?_
      refine sP rfl rfl rfl (p_fieldAddr_own rfl rfl fl55_0 ty53 (by decide)) ?_
      refine sP rfl rfl rfl (pLdO 0 rfl rfl rfl ty53 (ctx_le ha) (ctx_V ha)) ?_
      refine sP rfl rfl rfl (p_fieldAddr_own rfl rfl fl55_0 ty53 (by decide)) ?_
      refine sP rfl rfl rfl (pLdO 1 rfl rfl rfl ty53 (ctx_le hb) (ctx_V hb)) ?_
      refine sP rfl rfl rfl (p_eqs (r := true) rfl rfl rfl (exL_ints _) (exL_ints _) guardV (fun w => eqV_t ha hb e1)) ?_
      refine sP rfl rfl rfl (pM rfl rfl) ?_
      refine sG rfl rfl rfl rfl rfl (p_fieldAddr_own rfl rfl fl55_1 ty27 (by decide)) ?_
      refine sG rfl rfl rfl rfl rfl (pLdO1 0 rfl rfl rfl ty27 (ctx_C ha)) ?_
      refine sG rfl rfl rfl rfl rfl (p_fieldAddr_own rfl rfl fl55_1 ty27 (by decide)) ?_
      refine sG rfl rfl rfl rfl rfl (pLdO1 1 rfl rfl rfl ty27 (ctx_C hb)) ?_
      refine sG rfl rfl rfl rfl rfl (p_call rfl (rdsame_is (decide_eq_false e2) ha2 hb2) ⟨Sub.refl, Sub.refl, trivial⟩) ?_
      refine sP rfl rfl rfl (p_pick rfl rfl rfl) ?_
      refine sP rfl rfl rfl (pA rfl rfl) ?_
      refine lNil ?_
      exact ⟨_, [], _, ⟨_, (by exact hbv.symm), rfl, rfl⟩, ⟨rfl, rfl, trivial⟩, rfl⟩
    · refine wReg ?_
      refine sP rfl rfl rfl (p_fieldAddr_own rfl rfl fl55_0 ty53 (by decide)) ?_
      refine sP rfl rfl rfl (pLdO 0 rfl rfl rfl ty53 (ctx_le ha) (ctx_V ha)) ?_
      refine sP rfl rfl rfl (p_fieldAddr_own rfl rfl fl55_0 ty53 (by decide)) ?_
      refine sP rfl rfl rfl (pLdO 1 rfl rfl rfl ty53 (ctx_le hb) (ctx_V hb)) ?_
      refine sP rfl rfl rfl (p_eqs (r := true) rfl rfl rfl (exL_ints _) (exL_ints _) guardV (fun w => eqV_t ha hb e1)) ?_
      refine sP rfl rfl rfl (pM rfl rfl) ?_
      refine sG rfl rfl rfl rfl rfl (p_fieldAddr_own rfl rfl fl55_1 ty27 (by decide)) ?_
      refine sG rfl rfl rfl rfl rfl (pLdO1 0 rfl rfl rfl ty27 (ctx_C ha)) ?_
      refine sG rfl rfl rfl rfl rfl (p_fieldAddr_own rfl rfl fl55_1 ty27 (by decide)) ?_
      refine sG rfl rfl rfl rfl rfl (pLdO1 1 rfl rfl rfl ty27 (ctx_C hb)) ?_
      refine sG rfl rfl rfl rfl rfl (p_call rfl (rdsame_is (decide_eq_true e2) ha2 hb2) ⟨Sub.refl, Sub.refl, trivial⟩) ?_
      refine sP rfl rfl rfl (p_pick rfl rfl rfl) ?_
      refine sP rfl rfl rfl (pA rfl rfl) ?_
      refine lNil ?_
      exact ⟨_, [], _, ⟨_, (by exact hbv.symm), rfl, rfl⟩, ⟨rfl, rfl, trivial⟩, rfl⟩
  · rintro L h ⟨bb, hbb, rfl, rfl⟩
    refine wRet ?_
    exact rgs1 (rg_tmp (gives_sub (Sub.of_eq (avB hbb))))
theorem rcsame_is {y z : CtxT} {b : Bool} (ha : y.1.length = 16) (hb : z.1.length = 16) (ha2 : y.2.length < 1000000) (hb2 : z.2.length < 1000000) (h : decide (y = z) = b) : PFn Try.prog False 28 [ctA y, ctA z] (bA b) := h ▸ rcsame_p y z ha hb ha2 hb2

def fewC (c : CtxT) : Bool := decide ((c.2.length : Int) ≤ 40)

set_option maxRecDepth 100000 in
theorem few13_p (c : CtxT) (hv : c.1.length = 16) : PFn Try.prog False 25 [ctA c] (bA (fewC c)) := by
  refine pfn Try.func25 rfl (by kernel_rfl) 7 rfl _ rfl (Nat.le_of_ble_eq_true rfl) (fun X w0 => ?_)
  refine wSeq ?_
  refine wReg ?_
  refine sBox rfl rfl rfl rfl rfl (fun g1 => ?_)
  refine sP rfl rfl rfl (pA rfl rfl) ?_
  refine lNil ?_
  refine wSeq ?_
  refine wReg ?_
  refine sP rfl rfl rfl (p_fieldAddr_own rfl rfl fl55_1 ty27 (by decide)) ?_
  refine sP rfl rfl rfl (pLdO1 0 rfl rfl rfl ty27 (ctx_C hv)) ?_
  refine sP rfl rfl rfl (p_len_sl rfl rfl Try.underlying27) ?_
  refine sP rfl rfl rfl (p_icmp rfl rfl rfl rfl) ?_
  refine sP rfl rfl rfl (pA rfl rfl) ?_
  refine lNil ?_
  refine wRet ?_
  exact rgs1 (rg_tmp (gives_sub (Sub.of_eq (rfl))))
set_option maxHeartbeats 1000000 in
set_option maxRecDepth 100000 in
theorem awake13_p : PFn Try.prog False 34 [] (bA true) := by
  refine pfn Try.func34 rfl (by kernel_rfl) 81 rfl _ rfl (Nat.le_of_ble_eq_true rfl) (fun X w0 => ?_)
  refine wSeq ?_
  refine wReg ?_
  refine sP rfl rfl rfl (pA rfl rfl) ?_
  refine lNil ?_
  refine wSeq ?_
  refine wReg ?_
  refine sP rfl rfl rfl (p_build (res := (iL zeroV ++ [.x (.slice none 0 0)])) rfl ze55 pl55 rfl rfl) ?_
  refine sP rfl rfl rfl (p_build (res := [iA 0, iA 2]) rfl ze23 pl23 rfl rfl) ?_
  refine sP rfl rfl rfl (p_build (res := [iA 0, iA 1]) rfl ze23 pl23 rfl rfl) ?_
  refine sP rfl rfl rfl (p_build (res := [iA 1, iA 3]) rfl ze23 pl23 rfl rfl) ?_
  refine sP rfl rfl rfl (p_buildSlice (res := (xL : List (Int × Int)).flatMap encA) rfl ze23 Try.underlying27 ty23 (by decide) (by decide) rfl rfl rfl) ?_
  refine sP rfl rfl rfl (p_call rfl (cadd_is (c := zeroC) (l := xL) rfl (by decide) (by decide) aw13_add) ⟨zeroC_sub, Sub.refl, trivial⟩) ?_
  refine sAlloc rfl rfl rfl rfl ze55 (fun g1 => ?_)
  refine sStore 0 rfl rfl rfl rfl rfl ty55 rfl rfl rfl (Nat.le_of_ble_eq_true rfl) ?_
  refine lNil ?_
  refine wSeq ?_
  refine wReg ?_
  refine sP rfl rfl rfl (pLdW 0 rfl rfl rfl ty55 rfl) ?_
  refine sP rfl rfl rfl (p_call rfl (cput_is (c := xC) rfl (by decide) aw13_put) ⟨Sub.refl, trivial⟩) ?_
  refine sP rfl rfl rfl (pMt rfl rfl) ?_
  refine sP rfl rfl rfl (p_extract rfl rfl rfl) ?_
  refine sP rfl rfl rfl (p_extract rfl rfl rfl) ?_
  refine sP rfl rfl rfl (pA rfl rfl) ?_
  refine sP rfl rfl rfl (pA rfl rfl) ?_
  refine lNil ?_
  refine wSeq ?_
  refine wReg ?_
  refine sP rfl rfl rfl (pM rfl rfl) ?_
  refine sP rfl rfl rfl (p_call rfl (cread_is (s := cputS xC) (cputS_size rfl (by decide)) (cread_put (c := xC) rfl aw13_put).2 (cread_put (c := xC) rfl aw13_put).1) ⟨Sub.refl, trivial⟩) ?_
  refine sP rfl rfl rfl (pMt rfl rfl) ?_
  refine sP rfl rfl rfl (p_extract rfl rfl rfl) ?_
  refine sP rfl rfl rfl (p_extract rfl rfl rfl) ?_
  refine sAlloc rfl rfl rfl rfl ze55 (fun g4 => ?_)
  refine sStore 1 rfl rfl rfl rfl rfl ty55 rfl rfl rfl (Nat.le_of_ble_eq_true rfl) ?_
  refine sP rfl rfl rfl (pA rfl rfl) ?_
  refine lNil ?_
  refine wSeq ?_
  refine wReg ?_
  refine sP rfl rfl rfl (p_build (res := [iA 0, iA 1]) rfl ze23 pl23 rfl rfl) ?_
  refine sP rfl rfl rfl (p_buildSlice (res := ([(0, 1)] : List (Int × Int)).flatMap encA) rfl ze23 Try.underlying27 ty23 (by decide) (by decide) rfl rfl rfl) ?_
  refine sP rfl rfl rfl (p_build (res := (encCt bC)) rfl ze55 pl55 rfl rfl) ?_
  refine sP rfl rfl rfl (p_call rfl (cput_is (c := bC) rfl (by decide) aw13_bad) ⟨Sub.refl, trivial⟩) ?_
  refine sP rfl rfl rfl (pMt rfl rfl) ?_
  refine sP rfl rfl rfl (p_extract rfl rfl rfl) ?_
  refine sP rfl rfl rfl (p_extract rfl rfl rfl) ?_
  refine sP rfl rfl rfl (pA rfl rfl) ?_
  refine sP rfl rfl rfl (pA rfl rfl) ?_
  refine lNil ?_
  refine wSeq ?_
  refine wReg ?_
  refine sP rfl rfl rfl (pLdW 0 rfl rfl rfl ty55 rfl) ?_
  refine sP rfl rfl rfl (p_build_arr (res := iL xV) rfl ze53 Try.underlying53 ty3 rfl rfl) ?_
  refine sP rfl rfl rfl (p_build (res := [iA 1, iA 3]) rfl ze23 pl23 rfl rfl) ?_
  refine sP rfl rfl rfl (p_buildSlice (res := ([(1, 3)] : List (Int × Int)).flatMap encA) rfl ze23 Try.underlying27 ty23 (by decide) (by decide) rfl rfl rfl) ?_
  refine sP rfl rfl rfl (p_build (res := (encCt xC)) rfl ze55 pl55 rfl rfl) ?_
  refine sP rfl rfl rfl (p_call rfl (rcsame_is (y := xC) (z := xC) rfl rfl (by decide) (by decide) (decide_eq_true rfl)) ⟨Sub.refl, Sub.refl, trivial⟩) ?_
  refine sP rfl rfl rfl (pM rfl rfl) ?_
  refine sG rfl rfl rfl rfl rfl (pM rfl rfl) ?_
  refine sG rfl rfl rfl rfl rfl (p_icmp rfl rfl rfl (eql_t rfl)) ?_
  refine sP rfl rfl rfl (p_pick rfl rfl rfl) ?_
  refine sP rfl rfl rfl (pM rfl rfl) ?_
  refine sG rfl rfl rfl rfl rfl (pLdW 1 rfl rfl rfl ty55 rfl) ?_
  refine sG rfl rfl rfl rfl rfl (pLdW 0 rfl rfl rfl ty55 rfl) ?_
  refine sG rfl rfl rfl rfl rfl (p_call rfl (rcsame_is (y := xC) (z := xC) rfl rfl (by decide) (by decide) (decide_eq_true rfl)) ⟨Sub.refl, Sub.refl, trivial⟩) ?_
  refine sP rfl rfl rfl (p_pick rfl rfl rfl) ?_
  refine sP rfl rfl rfl (pM rfl rfl) ?_
  refine sG rfl rfl rfl rfl rfl (pM rfl rfl) ?_
  refine sG rfl rfl rfl rfl rfl (p_icmp rfl rfl rfl (eql_t rfl)) ?_
  refine sP rfl rfl rfl (p_pick rfl rfl rfl) ?_
  refine sP rfl rfl rfl (pM rfl rfl) ?_
  refine sG rfl rfl rfl rfl rfl (pM rfl rfl) ?_
  refine sG rfl rfl rfl rfl rfl (p_icmp rfl rfl rfl (eql_t rfl)) ?_
  refine sP rfl rfl rfl (p_pick rfl rfl rfl) ?_
  refine sP rfl rfl rfl (pM rfl rfl) ?_
  refine sG rfl rfl rfl rfl rfl (pLdW 0 rfl rfl rfl ty55 rfl) ?_
  refine sG rfl rfl rfl rfl rfl (p_build (res := [iA 0, iA 1]) rfl ze23 pl23 rfl rfl) ?_
  refine sG rfl rfl rfl rfl rfl (p_call rfl (chas_is (c := xC) rfl (by decide) aw13_h1) ⟨Sub.refl, Sub.refl, trivial⟩) ?_
  refine sP rfl rfl rfl (p_pick rfl rfl rfl) ?_
  refine sP rfl rfl rfl (pM rfl rfl) ?_
  refine sG rfl rfl rfl rfl rfl (pLdW 0 rfl rfl rfl ty55 rfl) ?_
  refine sG rfl rfl rfl rfl rfl (p_build (res := [iA 1, iA 1]) rfl ze23 pl23 rfl rfl) ?_
  refine sG rfl rfl rfl rfl rfl (p_call rfl (chas_is (c := xC) rfl (by decide) aw13_h2) ⟨Sub.refl, Sub.refl, trivial⟩) ?_
  refine sG rfl rfl rfl rfl rfl (p_not rfl rfl) ?_
  refine sP rfl rfl rfl (p_pick rfl rfl rfl) ?_
  refine sP rfl rfl rfl (pM rfl rfl) ?_
  refine sG rfl rfl rfl rfl rfl (p_build (res := (iL zeroV ++ [.x (.slice none 0 0)])) rfl ze55 pl55 rfl rfl) ?_
  refine sG rfl rfl rfl rfl rfl (pLdW 0 rfl rfl rfl ty55 rfl) ?_
  refine sG rfl rfl rfl rfl rfl (p_call rfl (cmiss_is (y := zeroC) (z := xC) rfl rfl (by decide) (by decide) aw13_miss) ⟨zeroC_sub, Sub.refl, trivial⟩) ?_
  refine sG rfl rfl rfl rfl rfl (p_build (res := [iA 0, iA 1]) rfl ze23 pl23 rfl rfl) ?_
  refine sG rfl rfl rfl rfl rfl (p_build (res := [iA 0, iA 2]) rfl ze23 pl23 rfl rfl) ?_
  refine sG rfl rfl rfl rfl rfl (p_build (res := [iA 1, iA 3]) rfl ze23 pl23 rfl rfl) ?_
  refine sG rfl rfl rfl rfl rfl (p_buildSlice (res := (mL : List (Int × Int)).flatMap encA) rfl ze23 Try.underlying27 ty23 (by decide) (by decide) rfl rfl rfl) ?_
  refine sG rfl rfl rfl rfl rfl (p_call rfl (rdsame_is (a := mL) (b := mL) (decide_eq_true rfl) (by decide) (by decide)) ⟨Sub.refl, Sub.refl, trivial⟩) ?_
  refine sP rfl rfl rfl (p_pick rfl rfl rfl) ?_
  refine sP rfl rfl rfl (pM rfl rfl) ?_
  refine sG rfl rfl rfl rfl rfl (pLdW 0 rfl rfl rfl ty55 rfl) ?_
  refine sG rfl rfl rfl rfl rfl (p_build (res := (iL zeroV ++ [.x (.slice none 0 0)])) rfl ze55 pl55 rfl rfl) ?_
  refine sG rfl rfl rfl rfl rfl (p_call rfl (ccompare_is (y := xC) (z := zeroC) rfl rfl (by decide) (by decide) aw13_cmp) ⟨Sub.refl, zeroC_sub, trivial⟩) ?_
  refine sG rfl rfl rfl rfl rfl (p_icmp rfl rfl rfl (eql_t rfl)) ?_
  refine sP rfl rfl rfl (p_pick rfl rfl rfl) ?_
  refine sP rfl rfl rfl (pA rfl rfl) ?_
  refine lNil ?_
  refine wRet ?_
  exact rgs1 (rg_tmp (gives_sub (Sub.of_eq (rfl))))
end Go.Proofs.Ytmhkalalcmkpbaa
