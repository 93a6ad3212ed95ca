/-
  Ldl ReadS ReadDl
-/
import Derived.Test.YtmhkalalcmkpbaaZRdel
import Derived.Test.YtmhkalalcmkpbaaZReadArg
namespace Go.Proofs.Ytmhkalalcmkpbaa
open Go Go.RowKit
set_option linter.unusedVariables false
set_option linter.unusedSimpArgs false

def oneFa : FactT := ((1, 2), (5, 0, 1), 3, ⟨#[97]⟩, ⟨#[120]⟩)
def oneDl : DeltaT := ((1, 2), (5, 0, 1), [oneFa], [(0, 1)])
def xDl : DeltaT := ((1, 2), (5, 0, 1), [oneFa], [(1, 2)])
def yDl : DeltaT := ((1, 2), (5, 0, 2), [oneFa], [(0, 1)])
def zDl : DeltaT := ((0, 1), (0, 0, 0), [], [])
theorem okF_one : okF oneFa := ⟨by decide, by decide⟩
theorem okD_of {d : Int × Int} {w : Int × Int × Int} {g : List (Int × Int)} (hg : g.length < 1000000) : OkD (d, w, [oneFa], g) := ⟨by show 1 < 1000000; omega, hg, fun f hf => by
  have e : f = oneFa := by simpa using hf
  rw [e]; exact okF_one⟩
theorem okD_z : OkD zDl := ⟨by decide, by decide, fun f hf => by simp [zDl] at hf⟩
theorem okD_zero : OkD zeroD := ⟨by decide, by decide, fun f hf => by simp [zeroD] at hf⟩
theorem aw18_put : dputE oneDl = 0 := by kernel_rfl
theorem aw18_x : deltaE xDl = 5 := by kernel_rfl
theorem aw18_y : deltaE yDl = 5 := by kernel_rfl
theorem aw18_z : deltaE zDl = 0 := by kernel_rfl
theorem aw18_bad : dreadE (dputS oneDl ++ ⟨#[120]⟩) = 5 := by kernel_rfl
theorem aw18_less : ltD zDl.1 oneDl.1 = true := by kernel_rfl
theorem aw18_size : (dputS oneDl).size < 1000000 := Nat.le_of_ble_eq_true (by kernel_rfl)
theorem okD_read (s : ByteArray) : OkD (dreadT s) := by
  unfold dreadT
  by_cases h : dreadE s = 0
  · rw [if_neg (by simpa using h)]
    exact ⟨freadL_len _, by have := readD_len (dBt s).1; show (readD (dBt s).1).1.length < 1000000; omega, freadL_ok_all _⟩
  · rw [if_pos h]; exact okD_zero
theorem rdesame_is {a b : DeltaT} {r : Bool} (h : decide (a = b) = r) (h1 : OkD a) (h2 : OkD b) : PFn Try.prog False 22 [dlA a, dlA b] (bA r) := h ▸ rdesame_p a b h1 h2
theorem deless_is {a b : DeltaT} {r : Bool} (h : ltD a.1 b.1 = r) : PFn Try.prog False 19 [dlA a, dlA b] (bA r) := h ▸ deless_p a b
theorem few_is {l : List FactT} {b : Bool} (h : fewF l = b) : PFn Try.prog False 41 [slF l] (bA b) := h ▸ few_p l
def fewD (d : DeltaT) : Bool := fewF d.2.2.1 && decide ((d.2.2.2.length : Int) ≤ 30)
theorem fewD_cases (d : DeltaT) : (fewF d.2.2.1 = false ∧ fewD d = false) ∨ (fewF d.2.2.1 = true ∧ (d.2.2.2.length : Int) ≤ 30 ∧ fewD d = true) ∨ (fewF d.2.2.1 = true ∧ ¬ (d.2.2.2.length : Int) ≤ 30 ∧ fewD d = false) := by
  unfold fewD
  cases h : fewF d.2.2.1 with
  | false => exact .inl ⟨rfl, rfl⟩
  | true =>
    by_cases g : (d.2.2.2.length : Int) ≤ 30
    · exact .inr (.inl ⟨rfl, g, by rw [decide_eq_true g]; rfl⟩)
    · exact .inr (.inr ⟨rfl, g, by rw [decide_eq_false g]; rfl⟩)
theorem okD_few {d : DeltaT} (h : fewD d = true) : OkD d := by
  unfold fewD at h
  rw [Bool.and_eq_true, decide_eq_true_eq] at h
  obtain ⟨h1, h2⟩ := fewF_ok h.1
  exact ⟨by omega, by have := h.2; omega, h2⟩
theorem leq_t {a b : Int} (h : a ≤ b) : icmp .leq a b = some true := congrArg some (decide_eq_true h)
theorem leq_f {a b : Int} (h : ¬ a ≤ b) : icmp .leq a b = some false := congrArg some (decide_eq_false h)
theorem lss_t {a b : Int} (h : a < b) : icmp .lss a b = some true := congrArg some (decide_eq_true h)
theorem lss_f {a b : Int} (h : ¬ a < b) : icmp .lss a b = some false := congrArg some (decide_eq_false h)
theorem eql_f {a b : Int} (h : ¬ a = b) : icmp .eql a b = some false := congrArg some (decide_eq_false h)
theorem ltD_cases (a b : Int × Int) : (a.1 < b.1 ∧ ltD a b = true) ∨ (¬ a.1 < b.1 ∧ a.1 = b.1 ∧ a.2 < b.2 ∧ ltD a b = true) ∨ (¬ a.1 < b.1 ∧ a.1 = b.1 ∧ ¬ a.2 < b.2 ∧ ltD a b = false) ∨ (¬ a.1 < b.1 ∧ ¬ a.1 = b.1 ∧ ltD a b = false) := by
  unfold ltD
  by_cases h1 : a.1 < b.1
  · exact .inl ⟨h1, decide_eq_true (.inl h1)⟩
  · by_cases h2 : a.1 = b.1
    · by_cases h3 : a.2 < b.2
      · exact .inr (.inl ⟨h1, h2, h3, decide_eq_true (.inr ⟨h2, h3⟩)⟩)
      · exact .inr (.inr (.inl ⟨h1, h2, h3, decide_eq_false (by omega)⟩))
    · exact .inr (.inr (.inr ⟨h1, h2, decide_eq_false (by omega)⟩))
theorem dr4 (s : ByteArray) (d : DeltaT) : (dreadE s = 0 ∧ dputE d = 0) ∨ (dreadE s = 0 ∧ dputE d ≠ 0) ∨ (dreadE s ≠ 0 ∧ dputE d = 0) ∨ (dreadE s ≠ 0 ∧ dputE d ≠ 0) := by
  by_cases h1 : dreadE s = 0 <;> by_cases h2 : dputE d = 0 <;> simp [h1, h2]
theorem dputS_size {d : DeltaT} (ok : OkD d) : (dputS d).size < 9223372036854775807 := by
  by_cases h : dputE d = 0
  · obtain ⟨h0, h1, h2⟩ := dputE_zero h
    rw [dputS_ok h, ByteArray.size_append]
    have g1 := numsD_size d 4
    have e1 : ((numsD d).take 4).map numS = (numsD d).map numS := rfl
    rw [e1] at g1
    have g2 := cat_size (k := 65544) ((partsD d).map txS) fun x hx => by
      obtain ⟨t, ht, rfl⟩ := List.mem_map.1 hx
      simp only [partsD, List.mem_cons, List.not_mem_nil, or_false] at ht
      have := txS_size t
      rcases ht with rfl | rfl
      · omega
      · omega
    have e2 : ((partsD d).map txS).length = 2 := rfl
    rw [e2] at g2
    omega
  · rw [dputS_err h]; decide

set_option maxRecDepth 100000 in
theorem one18_p : PFn Try.prog False 62 [] (dlA oneDl) := by
  refine pfn Try.func62 rfl (by kernel_rfl) 14 rfl _ rfl (Nat.le_of_ble_eq_true rfl) (fun X w0 => ?_)
  refine wSeq ?_
  refine wReg ?_  -- region 0
  refine sAlloc rfl rfl rfl rfl ze29 (fun g0 => ?_)  -- t0 := alloc 
  refine lNil ?_
  refine wSeq ?_
  refine wReg ?_  -- region 1
  refine sP rfl rfl rfl (p_build (res := [iA 1, iA 2]) rfl ze23 pl23 rfl rfl) ?_  -- t2 := build 
  refine sP rfl rfl rfl (p_build (res := [iA 5, iA 0, iA 1]) rfl ze25 pl25 rfl rfl) ?_  -- t3 := build 
  refine sP rfl rfl rfl (p_build (res := encF oneFa) rfl ze87 pl87 rfl rfl) ?_  -- t4 := build 
  refine sAlloc rfl rfl rfl rfl ze87 (fun g1 => ?_)  -- t1 := alloc 
  refine sStore 1 rfl rfl rfl rfl rfl ty87 rfl rfl rfl (Nat.le_of_ble_eq_true rfl) ?_  -- t := store t1 t4
  refine lNil ?_
  refine wSeq ?_
  refine wReg ?_  -- region 2
  refine sP rfl rfl rfl (p_fieldAddr_own rfl rfl fl87_0 ty23 (by decide)) ?_  -- t5 := fieldAddr t1
  refine sP rfl rfl rfl (pLdO 1 rfl rfl rfl ty23 (Nat.le_of_ble_eq_true rfl) rfl) ?_  -- t6 := load t5
  refine sP rfl rfl rfl (p_fieldAddr_own rfl rfl fl87_1 ty25 (by decide)) ?_  -- t7 := fieldAddr t1
  refine sP rfl rfl rfl (pLdO 1 rfl rfl rfl ty25 (Nat.le_of_ble_eq_true rfl) rfl) ?_  -- t8 := load t7
  refine sP rfl rfl rfl (pLdW 1 rfl rfl rfl ty87 rfl) ?_  -- t9 := load t1
  refine sP rfl rfl rfl (p_buildSlice (res := [oneFa].flatMap encF) rfl ze87 Try.underlying26 ty87 (by decide) (by decide) rfl rfl rfl) ?_  -- t10 := buildSlice 
  refine sP rfl rfl rfl (p_build (res := [iA 0, iA 1]) rfl ze23 pl23 rfl rfl) ?_  -- t11 := build 
  refine sP rfl rfl rfl (p_buildSlice (res := [((0 : Int), (1 : Int))].flatMap encA) rfl ze23 Try.underlying27 ty23 (by decide) (by decide) rfl rfl rfl) ?_  -- t12 := buildSlice 
  refine sP rfl rfl rfl (p_build (res := encDl oneDl) rfl ze29 pl29 rfl rfl) ?_  -- t13 := build 
  refine sStore 0 rfl rfl rfl rfl rfl ty29 rfl rfl rfl (Nat.le_of_ble_eq_true rfl) ?_  -- t := store t0 t13
  refine lNil ?_
  refine wRet ?_
  exact rgs1 (rg_cell rfl (List.mem_of_getElem? (i := 0) rfl) ty29 (.inl ⟨rfl, Nat.le_refl _, rfl⟩) (gives_sub Sub.refl))
set_option maxHeartbeats 1000000 in
set_option maxRecDepth 100000 in
theorem awake18_p : PFn Try.prog False 14 [] (bA true) := by
  refine pfn Try.func14 rfl (by kernel_rfl) 70 rfl _ rfl (Nat.le_of_ble_eq_true rfl) (fun X w0 => ?_)
  refine wSeq ?_
  refine wReg ?_  -- region 0
  refine sP rfl rfl rfl (pA rfl rfl) ?_  -- t0 := assign c
  refine lNil ?_
  refine wSeq ?_
  refine wReg ?_  -- region 1
  refine sP rfl rfl rfl (p_call rfl (one18_p) trivial) ?_  -- t10 := call   -- 
  refine sP rfl rfl rfl (p_call rfl (deput_p oneDl (okD_of (by decide))) ⟨Sub.refl, trivial⟩) ?_  -- t11 := call   -- t10
  refine sP rfl rfl rfl (pMt rfl rfl) ?_  -- t9 := move t11
  refine sP rfl rfl rfl (p_extract rfl rfl rfl) ?_  -- t12 := extract t9
  refine sP rfl rfl rfl (p_extract rfl rfl rfl) ?_  -- t13 := extract t9
  refine sP rfl rfl rfl (pA rfl rfl) ?_  -- t1 := assign t12
  refine sP rfl rfl rfl (pA rfl rfl) ?_  -- t2 := assign t13
  refine lNil ?_
  refine wSeq ?_
  refine wReg ?_  -- region 2
  refine sP rfl rfl rfl (pM rfl rfl) ?_  -- t15 := move t1
  refine sP rfl rfl rfl (p_call rfl (deread_p (dputS oneDl) (by have := aw18_size; omega)) ⟨Sub.refl, trivial⟩) ?_  -- t16 := call   -- t15
  refine sP rfl rfl rfl (pMt rfl rfl) ?_  -- t14 := move t16
  refine sP rfl rfl rfl (p_extract rfl rfl rfl) ?_  -- t17 := extract t14
  refine sP rfl rfl rfl (p_extract rfl rfl rfl) ?_  -- t18 := extract t14
  refine sAlloc rfl rfl rfl rfl ze29 (fun g3 => ?_)  -- t3 := alloc 
  refine sStore 0 rfl rfl rfl rfl rfl ty29 rfl rfl rfl (Nat.le_of_ble_eq_true rfl) ?_  -- t := store t3 t17
  refine sP rfl rfl rfl (pA rfl rfl) ?_  -- t4 := assign t18
  refine lNil ?_
  refine wSeq ?_
  refine wReg ?_  -- region 3
  refine sP rfl rfl rfl (p_call rfl (one18_p) trivial) ?_  -- t19 := call   -- 
  refine sP rfl rfl rfl (p_call rfl (one18_p) trivial) ?_  -- t20 := call   -- 
  refine sAlloc rfl rfl rfl rfl ze29 (fun g5 => ?_)  -- t5 := alloc 
  refine sAlloc rfl rfl rfl rfl ze29 (fun g6 => ?_)  -- t6 := alloc 
  refine sStore 1 rfl rfl rfl rfl rfl ty29 rfl rfl rfl (Nat.le_of_ble_eq_true rfl) ?_  -- t := store t5 t19
  refine sStore 2 rfl rfl rfl rfl rfl ty29 rfl rfl rfl (Nat.le_of_ble_eq_true rfl) ?_  -- t := store t6 t20
  refine lNil ?_
  refine wSeq ?_
  refine wReg ?_  -- region 4
  refine sP rfl rfl rfl (p_fieldAddr_own rfl rfl fl29_0 ty23 (by decide)) ?_  -- t21 := fieldAddr t5
  refine sP rfl rfl rfl (pLdO 1 rfl rfl rfl ty23 (Nat.le_of_ble_eq_true rfl) rfl) ?_  -- t22 := load t21
  refine sP rfl rfl rfl (p_buildSlice (res := [((1 : Int), (2 : Int))].flatMap encA) rfl ze23 Try.underlying27 ty23 (by decide) (by decide) rfl rfl rfl) ?_  -- t23 := buildSlice 
  refine sP rfl rfl rfl (p_fieldAddr_own rfl rfl fl29_3 ty27 (by decide)) ?_  -- t24 := fieldAddr t5
  refine sStore1 1 rfl rfl rfl rfl rfl ty27 rfl rfl (Nat.le_of_ble_eq_true rfl) ?_  -- t := store t24 t23
  refine lNil ?_
  refine wSeq ?_
  refine wReg ?_  -- region 5
  refine sP rfl rfl rfl (p_fieldAddr_own rfl rfl fl29_1 ty25 (by decide)) ?_  -- t25 := fieldAddr t6
  refine sP rfl rfl rfl (p_fieldAddr_own rfl rfl fl25_2 ty3 (by decide)) ?_  -- t26 := fieldAddr t25
  refine sStore1 2 rfl rfl rfl rfl rfl ty3 rfl rfl (Nat.le_of_ble_eq_true rfl) ?_  -- t := store t26 c
  refine lNil ?_
  refine wSeq ?_
  refine wReg ?_  -- region 6
  refine sP rfl rfl rfl (pM rfl rfl) ?_  -- t28 := move t1
  refine sP rfl rfl rfl (p_sadd rfl rfl rfl (by have := aw18_size; show _ + 1 < _; omega)) ?_  -- t29 := binOp t28 c
  refine sP rfl rfl rfl (p_call rfl (deread_p (dputS oneDl ++ ⟨#[120]⟩) (by have := aw18_size; rw [ByteArray.size_append]; show _ + 1 < _; omega)) ⟨Sub.refl, trivial⟩) ?_  -- t30 := call   -- t29
  refine sP rfl rfl rfl (pMt rfl rfl) ?_  -- t27 := move t30
  refine sP rfl rfl rfl (p_extract rfl rfl rfl) ?_  -- t31 := extract t27
  refine sP rfl rfl rfl (p_extract rfl rfl rfl) ?_  -- t32 := extract t27
  refine sAlloc rfl rfl rfl rfl ze29 (fun g7 => ?_)  -- t7 := alloc 
  refine sStore 3 rfl rfl rfl rfl rfl ty29 rfl rfl rfl (Nat.le_of_ble_eq_true rfl) ?_  -- t := store t7 t31
  refine sP rfl rfl rfl (pA rfl rfl) ?_  -- t8 := assign t32
  refine lNil ?_
  refine wSeq ?_
  refine wDraw 38 (by kernel_rfl) (by kernel_rfl) ?_  -- region 7
  refine sP rfl rfl rfl (pM rfl rfl) ?_  -- t33 := move t2
  refine sP rfl rfl rfl (p_icmp rfl rfl rfl (eql_t aw18_put)) ?_  -- t34 := binOp t33 c
  refine sP rfl rfl rfl (pM rfl rfl) ?_  -- t35 := move t34
  refine sG rfl rfl rfl rfl rfl (pLdW 0 rfl rfl rfl ty29 rfl) ?_  -- t36 := load t3   GUARD ['2', 'true']
  refine sG rfl rfl rfl rfl rfl (p_call rfl (one18_p) trivial) ?_  -- t37 := call    GUARD ['2', 'true']  -- 
  refine sG rfl rfl rfl rfl rfl (p_call rfl (rdesame_is (decide_eq_true (dread_put aw18_put).2) (okD_read _) (okD_of (by decide))) ⟨Sub.refl, Sub.refl, trivial⟩) ?_  -- t38 := call    GUARD ['2', 'true']  -- t36 t37
  refine sP rfl rfl rfl (p_pick rfl rfl rfl) ?_  -- t39 := pick t35 t38 c
  refine sP rfl rfl rfl (pM rfl rfl) ?_  -- t40 := move t39
  refine sG rfl rfl rfl rfl rfl (pM rfl rfl) ?_  -- t41 := move t4   GUARD ['7', 'true']
  refine sG rfl rfl rfl rfl rfl (p_icmp rfl rfl rfl (eql_t (dread_put aw18_put).1)) ?_  -- t42 := binOp t41 c   GUARD ['7', 'true']
  refine sP rfl rfl rfl (p_pick rfl rfl rfl) ?_  -- t43 := pick t40 t42 c
  refine sP rfl rfl rfl (pM rfl rfl) ?_  -- t44 := move t43
  refine sG rfl rfl rfl rfl rfl (pLdW 1 rfl rfl rfl ty29 rfl) ?_  -- t45 := load t5   GUARD ['11', 'true']
  refine sG rfl rfl rfl rfl rfl (p_call rfl (delta_p xDl (okD_of (by decide))) ⟨Sub.refl, trivial⟩) ?_  -- t46 := call    GUARD ['11', 'true']  -- t45
  refine sG rfl rfl rfl rfl rfl (p_icmp rfl rfl rfl (eql_t aw18_x)) ?_  -- t47 := binOp t46 c   GUARD ['11', 'true']
  refine sP rfl rfl rfl (p_pick rfl rfl rfl) ?_  -- t48 := pick t44 t47 c
  refine sP rfl rfl rfl (pM rfl rfl) ?_  -- t49 := move t48
  refine sG rfl rfl rfl rfl rfl (pLdW 2 rfl rfl rfl ty29 rfl) ?_  -- t50 := load t6   GUARD ['16', 'true']
  refine sG rfl rfl rfl rfl rfl (p_call rfl (delta_p yDl (okD_of (by decide))) ⟨Sub.refl, trivial⟩) ?_  -- t51 := call    GUARD ['16', 'true']  -- t50
  refine sG rfl rfl rfl rfl rfl (p_icmp rfl rfl rfl (eql_t aw18_y)) ?_  -- t52 := binOp t51 c   GUARD ['16', 'true']
  refine sP rfl rfl rfl (p_pick rfl rfl rfl) ?_  -- t53 := pick t49 t52 c
  refine sP rfl rfl rfl (pM rfl rfl) ?_  -- t54 := move t53
  refine sG rfl rfl rfl rfl rfl (pM rfl rfl) ?_  -- t55 := move t8   GUARD ['21', 'true']
  refine sG rfl rfl rfl rfl rfl (p_icmp rfl rfl rfl (eql_t aw18_bad)) ?_  -- t56 := binOp t55 c   GUARD ['21', 'true']
  refine sP rfl rfl rfl (p_pick rfl rfl rfl) ?_  -- t57 := pick t54 t56 c
  refine sP rfl rfl rfl (pM rfl rfl) ?_  -- t58 := move t57
  refine sG rfl rfl rfl rfl rfl (p_build (res := [iA 0, iA 1]) rfl ze23 pl23 rfl rfl) ?_  -- t59 := build    GUARD ['25', 'true']
  refine sG rfl rfl rfl rfl rfl (p_build (res := [iA 0, iA 1, iA 0, iA 0, iA 0, .x (.slice none 0 0), .x (.slice none 0 0)]) rfl ze29 pl29 rfl rfl) ?_  -- t60 := build    GUARD ['25', 'true']
  refine sG rfl rfl rfl rfl rfl (p_call rfl (delta_p zDl okD_z) ⟨Sub.agg ⟨Sub.refl, Sub.refl, Sub.refl, Sub.refl, Sub.refl, Sub.nil_, Sub.nil_, trivial⟩, trivial⟩) ?_  -- t61 := call    GUARD ['25', 'true']  -- t60
  refine sG rfl rfl rfl rfl rfl (p_icmp rfl rfl rfl (eql_t aw18_z)) ?_  -- t62 := binOp t61 c   GUARD ['25', 'true']
  refine sP rfl rfl rfl (p_pick rfl rfl rfl) ?_  -- t63 := pick t58 t62 c
  refine sP rfl rfl rfl (pM rfl rfl) ?_  -- t64 := move t63
  refine sG rfl rfl rfl rfl rfl (p_build (res := [iA 0, iA 1]) rfl ze23 pl23 rfl rfl) ?_  -- t65 := build    GUARD ['31', 'true']
  refine sG rfl rfl rfl rfl rfl (p_build (res := [iA 0, iA 1, iA 0, iA 0, iA 0, .x (.slice none 0 0), .x (.slice none 0 0)]) rfl ze29 pl29 rfl rfl) ?_  -- t66 := build    GUARD ['31', 'true']
  refine sG rfl rfl rfl rfl rfl (p_call rfl (one18_p) trivial) ?_  -- t67 := call    GUARD ['31', 'true']  -- 
  refine sG rfl rfl rfl rfl rfl (p_call rfl (deless_is (a := zDl) (b := oneDl) aw18_less) ⟨Sub.agg ⟨Sub.refl, Sub.refl, Sub.refl, Sub.refl, Sub.refl, Sub.nil_, Sub.nil_, trivial⟩, Sub.refl, trivial⟩) ?_  -- t68 := call    GUARD ['31', 'true']  -- t66 t67
  refine sP rfl rfl rfl (p_pick rfl rfl rfl) ?_  -- t69 := pick t64 t68 c
  refine sP rfl rfl rfl (pA rfl rfl) ?_  -- t0 := assign t69
  refine lTail ?_
  refine lNil ?_
  refine wRet ?_
  exact rgs1 (rg_tmp (gives_sub (Sub.of_eq (rfl))))
set_option maxRecDepth 100000 in
theorem few18_p (d : DeltaT) : PFn Try.prog False 13 [dlA d] (bA (fewD d)) := by
  refine pfn Try.func13 rfl (by kernel_rfl) 12 rfl _ rfl (Nat.le_of_ble_eq_true rfl) (fun X w0 => ?_)
  refine wSeq ?_
  refine wReg ?_  -- region 0
  refine sBox rfl rfl rfl rfl rfl (fun g1 => ?_)  -- t1 := box t0
  refine sP rfl rfl rfl (pA rfl rfl) ?_  -- t2 := assign c
  refine lNil ?_
  refine wCut (fun L h => ∃ b : Bool, b = (fewD d) ∧ L = [(1, .x (.pointer (some ⟨g1, 0, none⟩))), (2, bA b)] ∧ h = [.cells g1 29 (encDl d)]) ?_ ?_
  · rcases fewD_cases d with ⟨e1, hbv⟩ | ⟨e1, e2, hbv⟩ | ⟨e1, e2, hbv⟩
    · refine wReg ?_  -- region 1
      refine sP rfl rfl rfl (p_fieldAddr_own rfl rfl fl29_2 ty26 (by decide)) ?_  -- t3 := fieldAddr t1
      refine sP rfl rfl rfl (pLdO1 0 rfl rfl rfl ty26 rfl) ?_  -- t4 := load t3
      refine sP rfl rfl rfl (p_call rfl (few_is e1) ⟨Sub.refl, trivial⟩) ?_  -- t5 := call   -- t4
      refine sP rfl rfl rfl (pM rfl rfl) ?_  -- t6 := move t5
      refine sUx rfl rfl rfl (by decide) rfl rfl ?_  -- t7
      refine sUx rfl rfl rfl (by decide) rfl rfl ?_  -- t8
      refine sUx rfl rfl rfl (by decide) rfl rfl ?_  -- t9
      refine sUx rfl rfl rfl (by decide) rfl rfl ?_  -- t10
      refine sP rfl rfl rfl (p_pick rfl rfl rfl) ?_  -- t11 := pick t6 t10 c
      refine sP rfl rfl rfl (pA rfl rfl) ?_  -- t2 := assign t11
      refine lNil ?_
      exact ⟨_, [.cells g1 29 (encDl d)], _, ⟨_, (by exact hbv.symm), rfl, rfl⟩, ⟨rfl, rfl, trivial⟩, rfl⟩
    · refine wReg ?_  -- region 1
      refine sP rfl rfl rfl (p_fieldAddr_own rfl rfl fl29_2 ty26 (by decide)) ?_  -- t3 := fieldAddr t1
      refine sP rfl rfl rfl (pLdO1 0 rfl rfl rfl ty26 rfl) ?_  -- t4 := load t3
      refine sP rfl rfl rfl (p_call rfl (few_is e1) ⟨Sub.refl, trivial⟩) ?_  -- t5 := call   -- t4
      refine sP rfl rfl rfl (pM rfl rfl) ?_  -- t6 := move t5
      refine sG rfl rfl rfl rfl rfl (p_fieldAddr_own rfl rfl fl29_3 ty27 (by decide)) ?_  -- t7 := fieldAddr t1   GUARD ['3', 'true']
      refine sG rfl rfl rfl rfl rfl (pLdO1 0 rfl rfl rfl ty27 rfl) ?_  -- t8 := load t7   GUARD ['3', 'true']
      refine sG rfl rfl rfl rfl rfl (p_len_sl rfl rfl Try.underlying27) ?_  -- t9 := call    GUARD ['3', 'true']  -- t8
      refine sG rfl rfl rfl rfl rfl (p_icmp rfl rfl rfl (leq_t e2)) ?_  -- t10 := binOp t9 c   GUARD ['3', 'true']
      refine sP rfl rfl rfl (p_pick rfl rfl rfl) ?_  -- t11 := pick t6 t10 c
      refine sP rfl rfl rfl (pA rfl rfl) ?_  -- t2 := assign t11
      refine lNil ?_
      exact ⟨_, [.cells g1 29 (encDl d)], _, ⟨_, (by exact hbv.symm), rfl, rfl⟩, ⟨rfl, rfl, trivial⟩, rfl⟩
    · refine wReg ?_  -- region 1
      refine sP rfl rfl rfl (p_fieldAddr_own rfl rfl fl29_2 ty26 (by decide)) ?_  -- t3 := fieldAddr t1
      refine sP rfl rfl rfl (pLdO1 0 rfl rfl rfl ty26 rfl) ?_  -- t4 := load t3
      refine sP rfl rfl rfl (p_call rfl (few_is e1) ⟨Sub.refl, trivial⟩) ?_  -- t5 := call   -- t4
      refine sP rfl rfl rfl (pM rfl rfl) ?_  -- t6 := move t5
      refine sG rfl rfl rfl rfl rfl (p_fieldAddr_own rfl rfl fl29_3 ty27 (by decide)) ?_  -- t7 := fieldAddr t1   GUARD ['3', 'true']
      refine sG rfl rfl rfl rfl rfl (pLdO1 0 rfl rfl rfl ty27 rfl) ?_  -- t8 := load t7   GUARD ['3', 'true']
      refine sG rfl rfl rfl rfl rfl (p_len_sl rfl rfl Try.underlying27) ?_  -- t9 := call    GUARD ['3', 'true']  -- t8
      refine sG rfl rfl rfl rfl rfl (p_icmp rfl rfl rfl (leq_f e2)) ?_  -- t10 := binOp t9 c   GUARD ['3', 'true']
      refine sP rfl rfl rfl (p_pick rfl rfl rfl) ?_  -- t11 := pick t6 t10 c
      refine sP rfl rfl rfl (pA rfl rfl) ?_  -- t2 := assign t11
      refine lNil ?_
      exact ⟨_, [.cells g1 29 (encDl d)], _, ⟨_, (by exact hbv.symm), rfl, rfl⟩, ⟨rfl, rfl, trivial⟩, rfl⟩
  · rintro L h ⟨b, hb, rfl, rfl⟩
    refine wRet ?_
    exact rgs1 (rg_tmp (gives_sub (Sub.of_eq (avB hb))))
set_option maxHeartbeats 1000000 in
set_option maxRecDepth 100000 in
theorem dputs_w (d x : DeltaT) : PFn Try.prog False 3 [dlA d, dlA x] (bA true) := by
  refine pfn Try.func3 rfl (by kernel_rfl) 74 rfl _ rfl (Nat.le_of_ble_eq_true rfl) (fun X w0 => ?_)
  refine wSeq ?_
  refine wReg ?_  -- region 0
  refine sBox rfl rfl rfl rfl rfl (fun g2 => ?_)  -- t2 := box t0
  refine sBox rfl rfl rfl rfl rfl (fun g3 => ?_)  -- t3 := box t1
  refine sP rfl rfl rfl (pA rfl rfl) ?_  -- t4 := assign c
  refine lNil ?_
  refine wSeq ?_
  refine wSeq ?_
  refine wReg ?_  -- region 1
  refine sP rfl rfl rfl (pLdW 0 rfl rfl rfl ty29 rfl) ?_  -- t10 := load t2
  refine sP rfl rfl rfl (p_call rfl (few18_p d) ⟨Sub.refl, trivial⟩) ?_  -- t11 := call   -- t10
  refine sP rfl rfl rfl (p_not rfl rfl) ?_  -- t12 := unOp t11
  refine lNil ?_
  refine wCond rfl (fun hc1 => ?_) (fun hc1 => ?_)  -- t12
  · refine wSeq ?_
    refine wReg ?_  -- region 2
    refine sP rfl rfl rfl (p_call rfl (awake18_p) trivial) ?_  -- t13 := call   -- 
    refine sP rfl rfl rfl (pA rfl rfl) ?_  -- t4 := assign t13
    refine lNil ?_
    refine wRet ?_
    exact rgs1 (rg_tmp (gives_sub (Sub.of_eq (rfl))))
  · have ok : OkD d := okD_few (by simpa using hc1)
    refine wSkip ?_
    refine wSeq ?_
    refine wReg ?_  -- region 3
    refine sP rfl rfl rfl (pLdW 0 rfl rfl rfl ty29 rfl) ?_  -- t15 := load t2
    refine sP rfl rfl rfl (p_call rfl (deput_p d ok) ⟨Sub.refl, trivial⟩) ?_  -- t16 := call   -- t15
    refine sP rfl rfl rfl (pMt rfl rfl) ?_  -- t14 := move t16
    refine sP rfl rfl rfl (p_extract rfl rfl rfl) ?_  -- t17 := extract t14
    refine sP rfl rfl rfl (p_extract rfl rfl rfl) ?_  -- t18 := extract t14
    refine sP rfl rfl rfl (pA rfl rfl) ?_  -- t5 := assign t17
    refine sP rfl rfl rfl (pA rfl rfl) ?_  -- t6 := assign t18
    refine lNil ?_
    refine wSeq ?_
    refine wReg ?_  -- region 4
    refine sP rfl rfl rfl (pLdW 0 rfl rfl rfl ty29 rfl) ?_  -- t20 := load t2
    refine sP rfl rfl rfl (p_call rfl (rdeput_p d ok) ⟨Sub.refl, trivial⟩) ?_  -- t21 := call   -- t20
    refine sP rfl rfl rfl (pMt rfl rfl) ?_  -- t19 := move t21
    refine sP rfl rfl rfl (p_extract rfl rfl rfl) ?_  -- t22 := extract t19
    refine sP rfl rfl rfl (p_extract rfl rfl rfl) ?_  -- t23 := extract t19
    refine sP rfl rfl rfl (pA rfl rfl) ?_  -- t7 := assign t22
    refine sP rfl rfl rfl (pA rfl rfl) ?_  -- t8 := assign t23
    refine lNil ?_
    refine wCut (fun L h => ∃ b : Bool, b = (ltD d.1 x.1) ∧ L = [(2, nP g2), (3, nP g3), (5, sA (dputS d)), (6, iA (dputE d)), (7, sA (dputS d)), (8, iA (dputE d)), (9, bA b)] ∧ h = [.cells g2 29 (encDl d), .cells g3 29 (encDl x)]) ?_ ?_
    · rcases ltD_cases d.1 x.1 with ⟨e1, hbv⟩ | ⟨e1, e2, e3, hbv⟩ | ⟨e1, e2, e3, hbv⟩ | ⟨e1, e2, hbv⟩
      · refine wReg ?_  -- region 5
        refine sP rfl rfl rfl (p_fieldAddr_own rfl rfl fl29_0 ty23 (by decide)) ?_  -- t24 := fieldAddr t2
        refine sP rfl rfl rfl (p_fieldAddr_own rfl rfl fl23_0 ty3 (by decide)) ?_  -- t25 := fieldAddr t24
        refine sP rfl rfl rfl (pLdO1 0 rfl rfl rfl ty3 rfl) ?_  -- t26 := load t25
        refine sP rfl rfl rfl (p_fieldAddr_own rfl rfl fl29_0 ty23 (by decide)) ?_  -- t27 := fieldAddr t3
        refine sP rfl rfl rfl (p_fieldAddr_own rfl rfl fl23_0 ty3 (by decide)) ?_  -- t28 := fieldAddr t27
        refine sP rfl rfl rfl (pLdO1 1 rfl rfl rfl ty3 rfl) ?_  -- t29 := load t28
        refine sP rfl rfl rfl (p_icmp rfl rfl rfl (lss_t e1)) ?_  -- t30 := binOp t26 t29
        refine sP rfl rfl rfl (pM rfl rfl) ?_  -- t31 := move t30
        refine sUx rfl rfl rfl (by decide) rfl rfl ?_  -- t32
        refine sUx rfl rfl rfl (by decide) rfl rfl ?_  -- t33
        refine sUx rfl rfl rfl (by decide) rfl rfl ?_  -- t34
        refine sUx rfl rfl rfl (by decide) rfl rfl ?_  -- t35
        refine sUx rfl rfl rfl (by decide) rfl rfl ?_  -- t36
        refine sUx rfl rfl rfl (by decide) rfl rfl ?_  -- t37
        refine sUx rfl rfl rfl (by decide) rfl rfl ?_  -- t38
        refine sUx rfl rfl rfl (by decide) rfl rfl ?_  -- t39
        refine sNx rfl rfl rfl rfl rfl ?_  -- t40
        refine sNx rfl rfl rfl rfl rfl ?_  -- t41
        refine sNx rfl rfl rfl rfl rfl ?_  -- t42
        refine sNx rfl rfl rfl rfl rfl ?_  -- t43
        refine sNx rfl rfl rfl rfl rfl ?_  -- t44
        refine sNx rfl rfl rfl rfl rfl ?_  -- t45
        refine sNx rfl rfl rfl rfl rfl ?_  -- t46
        refine sUx rfl rfl rfl (by decide) rfl rfl ?_  -- t47
        refine sP rfl rfl rfl (p_pick rfl rfl rfl) ?_  -- t48 := pick t31 c t47
        refine sP rfl rfl rfl (pA rfl rfl) ?_  -- t9 := assign t48
        refine lNil ?_
        exact ⟨_, [.cells g2 29 (encDl d), .cells g3 29 (encDl x)], _, ⟨_, (by exact hbv.symm), rfl, rfl⟩, ⟨rfl, rfl, rfl, rfl, rfl, rfl, rfl, trivial⟩, rfl⟩
      · refine wReg ?_  -- region 5
        refine sP rfl rfl rfl (p_fieldAddr_own rfl rfl fl29_0 ty23 (by decide)) ?_  -- t24 := fieldAddr t2
        refine sP rfl rfl rfl (p_fieldAddr_own rfl rfl fl23_0 ty3 (by decide)) ?_  -- t25 := fieldAddr t24
        refine sP rfl rfl rfl (pLdO1 0 rfl rfl rfl ty3 rfl) ?_  -- t26 := load t25
        refine sP rfl rfl rfl (p_fieldAddr_own rfl rfl fl29_0 ty23 (by decide)) ?_  -- t27 := fieldAddr t3
        refine sP rfl rfl rfl (p_fieldAddr_own rfl rfl fl23_0 ty3 (by decide)) ?_  -- t28 := fieldAddr t27
        refine sP rfl rfl rfl (pLdO1 1 rfl rfl rfl ty3 rfl) ?_  -- t29 := load t28
        refine sP rfl rfl rfl (p_icmp rfl rfl rfl (lss_f e1)) ?_  -- t30 := binOp t26 t29
        refine sP rfl rfl rfl (pM rfl rfl) ?_  -- t31 := move t30
        refine sG rfl rfl rfl rfl rfl (p_fieldAddr_own rfl rfl fl29_0 ty23 (by decide)) ?_  -- t32 := fieldAddr t2   GUARD ['7', 'false']
        refine sG rfl rfl rfl rfl rfl (p_fieldAddr_own rfl rfl fl23_0 ty3 (by decide)) ?_  -- t33 := fieldAddr t32   GUARD ['7', 'false']
        refine sG rfl rfl rfl rfl rfl (pLdO1 0 rfl rfl rfl ty3 rfl) ?_  -- t34 := load t33   GUARD ['7', 'false']
        refine sG rfl rfl rfl rfl rfl (p_fieldAddr_own rfl rfl fl29_0 ty23 (by decide)) ?_  -- t35 := fieldAddr t3   GUARD ['7', 'false']
        refine sG rfl rfl rfl rfl rfl (p_fieldAddr_own rfl rfl fl23_0 ty3 (by decide)) ?_  -- t36 := fieldAddr t35   GUARD ['7', 'false']
        refine sG rfl rfl rfl rfl rfl (pLdO1 1 rfl rfl rfl ty3 rfl) ?_  -- t37 := load t36   GUARD ['7', 'false']
        refine sG rfl rfl rfl rfl rfl (p_icmp rfl rfl rfl (eql_t e2)) ?_  -- t38 := binOp t34 t37   GUARD ['7', 'false']
        refine sG rfl rfl rfl rfl rfl (pM rfl rfl) ?_  -- t39 := move t38   GUARD ['7', 'false']
        refine sG rfl rfl rfl rfl rfl (p_fieldAddr_own rfl rfl fl29_0 ty23 (by decide)) ?_  -- t40 := fieldAddr t2   GUARD ['15', 'true']
        refine sG rfl rfl rfl rfl rfl (p_fieldAddr_own rfl rfl fl23_1 ty3 (by decide)) ?_  -- t41 := fieldAddr t40   GUARD ['15', 'true']
        refine sG rfl rfl rfl rfl rfl (pLdO1 0 rfl rfl rfl ty3 rfl) ?_  -- t42 := load t41   GUARD ['15', 'true']
        refine sG rfl rfl rfl rfl rfl (p_fieldAddr_own rfl rfl fl29_0 ty23 (by decide)) ?_  -- t43 := fieldAddr t3   GUARD ['15', 'true']
        refine sG rfl rfl rfl rfl rfl (p_fieldAddr_own rfl rfl fl23_1 ty3 (by decide)) ?_  -- t44 := fieldAddr t43   GUARD ['15', 'true']
        refine sG rfl rfl rfl rfl rfl (pLdO1 1 rfl rfl rfl ty3 rfl) ?_  -- t45 := load t44   GUARD ['15', 'true']
        refine sG rfl rfl rfl rfl rfl (p_icmp rfl rfl rfl (lss_t e3)) ?_  -- t46 := binOp t42 t45   GUARD ['15', 'true']
        refine sG rfl rfl rfl rfl rfl (p_pick rfl rfl rfl) ?_  -- t47 := pick t39 t46 c   GUARD ['7', 'false']
        refine sP rfl rfl rfl (p_pick rfl rfl rfl) ?_  -- t48 := pick t31 c t47
        refine sP rfl rfl rfl (pA rfl rfl) ?_  -- t9 := assign t48
        refine lNil ?_
        exact ⟨_, [.cells g2 29 (encDl d), .cells g3 29 (encDl x)], _, ⟨_, (by exact hbv.symm), rfl, rfl⟩, ⟨rfl, rfl, rfl, rfl, rfl, rfl, rfl, trivial⟩, rfl⟩
      · refine wReg ?_  -- region 5
        refine sP rfl rfl rfl (p_fieldAddr_own rfl rfl fl29_0 ty23 (by decide)) ?_  -- t24 := fieldAddr t2
        refine sP rfl rfl rfl (p_fieldAddr_own rfl rfl fl23_0 ty3 (by decide)) ?_  -- t25 := fieldAddr t24
        refine sP rfl rfl rfl (pLdO1 0 rfl rfl rfl ty3 rfl) ?_  -- t26 := load t25
        refine sP rfl rfl rfl (p_fieldAddr_own rfl rfl fl29_0 ty23 (by decide)) ?_  -- t27 := fieldAddr t3
        refine sP rfl rfl rfl (p_fieldAddr_own rfl rfl fl23_0 ty3 (by decide)) ?_  -- t28 := fieldAddr t27
        refine sP rfl rfl rfl (pLdO1 1 rfl rfl rfl ty3 rfl) ?_  -- t29 := load t28
        refine sP rfl rfl rfl (p_icmp rfl rfl rfl (lss_f e1)) ?_  -- t30 := binOp t26 t29
        refine sP rfl rfl rfl (pM rfl rfl) ?_  -- t31 := move t30
        refine sG rfl rfl rfl rfl rfl (p_fieldAddr_own rfl rfl fl29_0 ty23 (by decide)) ?_  -- t32 := fieldAddr t2   GUARD ['7', 'false']
        refine sG rfl rfl rfl rfl rfl (p_fieldAddr_own rfl rfl fl23_0 ty3 (by decide)) ?_  -- t33 := fieldAddr t32   GUARD ['7', 'false']
        refine sG rfl rfl rfl rfl rfl (pLdO1 0 rfl rfl rfl ty3 rfl) ?_  -- t34 := load t33   GUARD ['7', 'false']
        refine sG rfl rfl rfl rfl rfl (p_fieldAddr_own rfl rfl fl29_0 ty23 (by decide)) ?_  -- t35 := fieldAddr t3   GUARD ['7', 'false']
        refine sG rfl rfl rfl rfl rfl (p_fieldAddr_own rfl rfl fl23_0 ty3 (by decide)) ?_  -- t36 := fieldAddr t35   GUARD ['7', 'false']
        refine sG rfl rfl rfl rfl rfl (pLdO1 1 rfl rfl rfl ty3 rfl) ?_  -- t37 := load t36   GUARD ['7', 'false']
        refine sG rfl rfl rfl rfl rfl (p_icmp rfl rfl rfl (eql_t e2)) ?_  -- t38 := binOp t34 t37   GUARD ['7', 'false']
        refine sG rfl rfl rfl rfl rfl (pM rfl rfl) ?_  -- t39 := move t38   GUARD ['7', 'false']
        refine sG rfl rfl rfl rfl rfl (p_fieldAddr_own rfl rfl fl29_0 ty23 (by decide)) ?_  -- t40 := fieldAddr t2   GUARD ['15', 'true']
        refine sG rfl rfl rfl rfl rfl (p_fieldAddr_own rfl rfl fl23_1 ty3 (by decide)) ?_  -- t41 := fieldAddr t40   GUARD ['15', 'true']
        refine sG rfl rfl rfl rfl rfl (pLdO1 0 rfl rfl rfl ty3 rfl) ?_  -- t42 := load t41   GUARD ['15', 'true']
        refine sG rfl rfl rfl rfl rfl (p_fieldAddr_own rfl rfl fl29_0 ty23 (by decide)) ?_  -- t43 := fieldAddr t3   GUARD ['15', 'true']
        refine sG rfl rfl rfl rfl rfl (p_fieldAddr_own rfl rfl fl23_1 ty3 (by decide)) ?_  -- t44 := fieldAddr t43   GUARD ['15', 'true']
        refine sG rfl rfl rfl rfl rfl (pLdO1 1 rfl rfl rfl ty3 rfl) ?_  -- t45 := load t44   GUARD ['15', 'true']
        refine sG rfl rfl rfl rfl rfl (p_icmp rfl rfl rfl (lss_f e3)) ?_  -- t46 := binOp t42 t45   GUARD ['15', 'true']
        refine sG rfl rfl rfl rfl rfl (p_pick rfl rfl rfl) ?_  -- t47 := pick t39 t46 c   GUARD ['7', 'false']
        refine sP rfl rfl rfl (p_pick rfl rfl rfl) ?_  -- t48 := pick t31 c t47
        refine sP rfl rfl rfl (pA rfl rfl) ?_  -- t9 := assign t48
        refine lNil ?_
        exact ⟨_, [.cells g2 29 (encDl d), .cells g3 29 (encDl x)], _, ⟨_, (by exact hbv.symm), rfl, rfl⟩, ⟨rfl, rfl, rfl, rfl, rfl, rfl, rfl, trivial⟩, rfl⟩
      · refine wReg ?_  -- region 5
        refine sP rfl rfl rfl (p_fieldAddr_own rfl rfl fl29_0 ty23 (by decide)) ?_  -- t24 := fieldAddr t2
        refine sP rfl rfl rfl (p_fieldAddr_own rfl rfl fl23_0 ty3 (by decide)) ?_  -- t25 := fieldAddr t24
        refine sP rfl rfl rfl (pLdO1 0 rfl rfl rfl ty3 rfl) ?_  -- t26 := load t25
        refine sP rfl rfl rfl (p_fieldAddr_own rfl rfl fl29_0 ty23 (by decide)) ?_  -- t27 := fieldAddr t3
        refine sP rfl rfl rfl (p_fieldAddr_own rfl rfl fl23_0 ty3 (by decide)) ?_  -- t28 := fieldAddr t27
        refine sP rfl rfl rfl (pLdO1 1 rfl rfl rfl ty3 rfl) ?_  -- t29 := load t28
        refine sP rfl rfl rfl (p_icmp rfl rfl rfl (lss_f e1)) ?_  -- t30 := binOp t26 t29
        refine sP rfl rfl rfl (pM rfl rfl) ?_  -- t31 := move t30
        refine sG rfl rfl rfl rfl rfl (p_fieldAddr_own rfl rfl fl29_0 ty23 (by decide)) ?_  -- t32 := fieldAddr t2   GUARD ['7', 'false']
        refine sG rfl rfl rfl rfl rfl (p_fieldAddr_own rfl rfl fl23_0 ty3 (by decide)) ?_  -- t33 := fieldAddr t32   GUARD ['7', 'false']
        refine sG rfl rfl rfl rfl rfl (pLdO1 0 rfl rfl rfl ty3 rfl) ?_  -- t34 := load t33   GUARD ['7', 'false']
        refine sG rfl rfl rfl rfl rfl (p_fieldAddr_own rfl rfl fl29_0 ty23 (by decide)) ?_  -- t35 := fieldAddr t3   GUARD ['7', 'false']
        refine sG rfl rfl rfl rfl rfl (p_fieldAddr_own rfl rfl fl23_0 ty3 (by decide)) ?_  -- t36 := fieldAddr t35   GUARD ['7', 'false']
        refine sG rfl rfl rfl rfl rfl (pLdO1 1 rfl rfl rfl ty3 rfl) ?_  -- t37 := load t36   GUARD ['7', 'false']
        refine sG rfl rfl rfl rfl rfl (p_icmp rfl rfl rfl (eql_f e2)) ?_  -- t38 := binOp t34 t37   GUARD ['7', 'false']
        refine sG rfl rfl rfl rfl rfl (pM rfl rfl) ?_  -- t39 := move t38   GUARD ['7', 'false']
        refine sUx rfl rfl rfl (by decide) rfl rfl ?_  -- t40
        refine sUx rfl rfl rfl (by decide) rfl rfl ?_  -- t41
        refine sUx rfl rfl rfl (by decide) rfl rfl ?_  -- t42
        refine sUx rfl rfl rfl (by decide) rfl rfl ?_  -- t43
        refine sUx rfl rfl rfl (by decide) rfl rfl ?_  -- t44
        refine sUx rfl rfl rfl (by decide) rfl rfl ?_  -- t45
        refine sUx rfl rfl rfl (by decide) rfl rfl ?_  -- t46
        refine sG rfl rfl rfl rfl rfl (p_pick rfl rfl rfl) ?_  -- t47 := pick t39 t46 c   GUARD ['7', 'false']
        refine sP rfl rfl rfl (p_pick rfl rfl rfl) ?_  -- t48 := pick t31 c t47
        refine sP rfl rfl rfl (pA rfl rfl) ?_  -- t9 := assign t48
        refine lNil ?_
        exact ⟨_, [.cells g2 29 (encDl d), .cells g3 29 (encDl x)], _, ⟨_, (by exact hbv.symm), rfl, rfl⟩, ⟨rfl, rfl, rfl, rfl, rfl, rfl, rfl, trivial⟩, rfl⟩
    · rintro L h ⟨b, rfl, rfl, rfl⟩
      refine wSeq ?_
      refine wDraw 26 (by kernel_rfl) (by kernel_rfl) ?_  -- region 6
      refine sP rfl rfl rfl (pLdW 0 rfl rfl rfl ty29 rfl) ?_  -- t49 := load t2
      refine sP rfl rfl rfl (p_call rfl (delta_p d ok) ⟨Sub.refl, trivial⟩) ?_  -- t50 := call   -- t49
      refine sP rfl rfl rfl (pLdW 0 rfl rfl rfl ty29 rfl) ?_  -- t51 := load t2
      refine sP rfl rfl rfl (p_call rfl (rdelta_p d ok) ⟨Sub.refl, trivial⟩) ?_  -- t52 := call   -- t51
      refine sP rfl rfl rfl (p_icmp rfl rfl rfl (eql_t rfl)) ?_  -- t53 := binOp t50 t52
      refine sP rfl rfl rfl (pM rfl rfl) ?_  -- t54 := move t53
      refine sG rfl rfl rfl rfl rfl (pM rfl rfl) ?_  -- t55 := move t5   GUARD ['5', 'true']
      refine sG rfl rfl rfl rfl rfl (pM rfl rfl) ?_  -- t56 := move t7   GUARD ['5', 'true']
      refine sG rfl rfl rfl rfl rfl (p_scmp rfl rfl rfl (seql_t rfl)) ?_  -- t57 := binOp t55 t56   GUARD ['5', 'true']
      refine sP rfl rfl rfl (p_pick rfl rfl rfl) ?_  -- t58 := pick t54 t57 c
      refine sP rfl rfl rfl (pM rfl rfl) ?_  -- t59 := move t58
      refine sG rfl rfl rfl rfl rfl (pM rfl rfl) ?_  -- t60 := move t6   GUARD ['10', 'true']
      refine sG rfl rfl rfl rfl rfl (pM rfl rfl) ?_  -- t61 := move t8   GUARD ['10', 'true']
      refine sG rfl rfl rfl rfl rfl (p_icmp rfl rfl rfl (eql_t rfl)) ?_  -- t62 := binOp t60 t61   GUARD ['10', 'true']
      refine sP rfl rfl rfl (p_pick rfl rfl rfl) ?_  -- t63 := pick t59 t62 c
      refine sP rfl rfl rfl (pM rfl rfl) ?_  -- t64 := move t63
      refine sG rfl rfl rfl rfl rfl (pLdW 0 rfl rfl rfl ty29 rfl) ?_  -- t65 := load t2   GUARD ['15', 'true']
      refine sG rfl rfl rfl rfl rfl (pLdW 1 rfl rfl rfl ty29 rfl) ?_  -- t66 := load t3   GUARD ['15', 'true']
      refine sG rfl rfl rfl rfl rfl (p_call rfl (deless_p d x) ⟨Sub.refl, Sub.refl, trivial⟩) ?_  -- t67 := call    GUARD ['15', 'true']  -- t65 t66
      refine sG rfl rfl rfl rfl rfl (pM rfl rfl) ?_  -- t68 := move t9   GUARD ['15', 'true']
      refine sG rfl rfl rfl rfl rfl (p_beq (r := true) rfl rfl rfl Try.underlying4 (by simp)) ?_  -- t69 := binOp t67 t68   GUARD ['15', 'true']
      refine sP rfl rfl rfl (p_pick rfl rfl rfl) ?_  -- t70 := pick t64 t69 c
      refine sP rfl rfl rfl (pM rfl rfl) ?_  -- t71 := move t70
      refine sG rfl rfl rfl rfl rfl (p_call rfl (awake18_p) trivial) ?_  -- t72 := call    GUARD ['22', 'true']  -- 
      refine sP rfl rfl rfl (p_pick rfl rfl rfl) ?_  -- t73 := pick t71 t72 c
      refine sP rfl rfl rfl (pA rfl rfl) ?_  -- t4 := assign t73
      refine lTail ?_
      refine lNil ?_
      refine wRet ?_
      exact rgs1 (rg_tmp (gives_sub (Sub.of_eq (rfl))))
set_option maxHeartbeats 1000000 in
set_option maxRecDepth 100000 in
theorem dreads_w (s : ByteArray) (d : DeltaT) : PFn Try.prog False 4 [sA s, dlA d] (bA true) := by
  refine pfn Try.func4 rfl (by kernel_rfl) 86 rfl _ rfl (Nat.le_of_ble_eq_true rfl) (fun X w0 => ?_)
  refine wSeq ?_
  refine wReg ?_  -- region 0
  refine sBox rfl rfl rfl rfl rfl (fun g3 => ?_)  -- t3 := box t1
  refine sP rfl rfl rfl (pA rfl rfl) ?_  -- t4 := assign c
  refine lNil ?_
  refine wSeq ?_
  refine wCut (fun L h => ∃ b : Bool, b = (decide ((5000 : Int) < (s.size : Nat)) || !fewD d) ∧ L = [(0, sA s), (3, nP g3), (22, bA b)] ∧ h = [.cells g3 29 (encDl d)]) ?_ ?_
  · cases hb : (decide ((5000 : Int) < (s.size : Nat))) with
    | true =>
      refine wReg ?_  -- region 1
      refine sP rfl rfl rfl (pM rfl rfl) ?_  -- t15 := move t0
      refine sP rfl rfl rfl (p_len_str rfl rfl Try.underlying9) ?_  -- t16 := call   -- t15
      refine sP rfl rfl rfl (p_icmp rfl rfl rfl (congrArg some hb)) ?_  -- t17 := binOp t16 c
      refine sP rfl rfl rfl (pM rfl rfl) ?_  -- t18 := move t17
      refine sU rfl rfl rfl (by decide) rfl rfl ?_  -- t19 := load t3   GUARD ['3', 'false']
      refine sU rfl rfl rfl (by decide) rfl rfl ?_  -- t20 := call    GUARD ['3', 'false']  -- t19
      refine sU rfl rfl rfl (by decide) rfl rfl ?_  -- t21 := unOp t20   GUARD ['3', 'false']
      refine sP rfl rfl rfl (p_pick rfl rfl rfl) ?_  -- t22 := pick t18 c t21
      refine lNil ?_
      exact ⟨_, [.cells g3 29 (encDl d)], [], ⟨_, (by exact rfl), rfl, rfl⟩, ⟨rfl, rfl, rfl, trivial⟩, rfl⟩
    | false =>
      refine wReg ?_  -- region 1
      refine sP rfl rfl rfl (pM rfl rfl) ?_  -- t15 := move t0
      refine sP rfl rfl rfl (p_len_str rfl rfl Try.underlying9) ?_  -- t16 := call   -- t15
      refine sP rfl rfl rfl (p_icmp rfl rfl rfl (congrArg some hb)) ?_  -- t17 := binOp t16 c
      refine sP rfl rfl rfl (pM rfl rfl) ?_  -- t18 := move t17
      refine sG rfl rfl rfl rfl rfl (pLdW 0 rfl rfl rfl ty29 rfl) ?_  -- t19 := load t3   GUARD ['3', 'false']
      refine sG rfl rfl rfl rfl rfl (p_call rfl (few18_p d) ⟨Sub.refl, trivial⟩) ?_  -- t20 := call    GUARD ['3', 'false']  -- t19
      refine sG rfl rfl rfl rfl rfl (p_not rfl rfl) ?_  -- t21 := unOp t20   GUARD ['3', 'false']
      refine sP rfl rfl rfl (p_pick rfl rfl rfl) ?_  -- t22 := pick t18 c t21
      refine lNil ?_
      exact ⟨_, [.cells g3 29 (encDl d)], [], ⟨_, (by exact rfl), rfl, rfl⟩, ⟨rfl, rfl, rfl, trivial⟩, rfl⟩
  · rintro L h ⟨b, hb, rfl, rfl⟩
    refine wCond rfl (fun hc1 => ?_) (fun hc1 => ?_)  -- t22
    · refine wSeq ?_
      refine wReg ?_  -- region 2
      refine sP rfl rfl rfl (p_call rfl (awake18_p) trivial) ?_  -- t23 := call   -- 
      refine sP rfl rfl rfl (pA rfl rfl) ?_  -- t4 := assign t23
      refine lNil ?_
      refine wRet ?_
      exact rgs1 (rg_tmp (gives_sub (Sub.of_eq (rfl))))
    · have hb3 := hb.symm.trans hc1
      rw [Bool.or_eq_false_iff, decide_eq_false_iff_not, Bool.not_eq_false'] at hb3
      have ok : OkD d := okD_few hb3.2
      have hs : s.size < 9223372036854775807 := by have := hb3.1; omega
      refine wSkip ?_
      refine wSeq ?_
      refine wReg ?_  -- region 3
      refine sP rfl rfl rfl (pM rfl rfl) ?_  -- t25 := move t0
      refine sP rfl rfl rfl (p_call rfl (deread_p s hs) ⟨Sub.refl, trivial⟩) ?_  -- t26 := call   -- t25
      refine sP rfl rfl rfl (pMt rfl rfl) ?_  -- t24 := move t26
      refine sP rfl rfl rfl (p_extract rfl rfl rfl) ?_  -- t27 := extract t24
      refine sP rfl rfl rfl (p_extract rfl rfl rfl) ?_  -- t28 := extract t24
      refine sAlloc rfl rfl rfl rfl ze29 (fun g5 => ?_)  -- t5 := alloc 
      refine sStore 1 rfl rfl rfl rfl rfl ty29 rfl rfl rfl (Nat.le_of_ble_eq_true rfl) ?_  -- t := store t5 t27
      refine sP rfl rfl rfl (pA rfl rfl) ?_  -- t6 := assign t28
      refine lNil ?_
      refine wSeq ?_
      refine wReg ?_  -- region 4
      refine sP rfl rfl rfl (pM rfl rfl) ?_  -- t30 := move t0
      refine sP rfl rfl rfl (p_call rfl (rderead_p s hs) ⟨Sub.refl, trivial⟩) ?_  -- t31 := call   -- t30
      refine sP rfl rfl rfl (pMt rfl rfl) ?_  -- t29 := move t31
      refine sP rfl rfl rfl (p_extract rfl rfl rfl) ?_  -- t32 := extract t29
      refine sP rfl rfl rfl (p_extract rfl rfl rfl) ?_  -- t33 := extract t29
      refine sAlloc rfl rfl rfl rfl ze29 (fun g7 => ?_)  -- t7 := alloc 
      refine sStore 2 rfl rfl rfl rfl rfl ty29 rfl rfl rfl (Nat.le_of_ble_eq_true rfl) ?_  -- t := store t7 t32
      refine sP rfl rfl rfl (pA rfl rfl) ?_  -- t8 := assign t33
      refine lNil ?_
      refine wSeq ?_
      refine wReg ?_  -- region 5
      refine sP rfl rfl rfl (pLdW 1 rfl rfl rfl ty29 rfl) ?_  -- t35 := load t5
      refine sP rfl rfl rfl (p_call rfl (deput_p (dreadT s) (okD_read s)) ⟨Sub.refl, trivial⟩) ?_  -- t36 := call   -- t35
      refine sP rfl rfl rfl (pMt rfl rfl) ?_  -- t34 := move t36
      refine sP rfl rfl rfl (p_extract rfl rfl rfl) ?_  -- t37 := extract t34
      refine sP rfl rfl rfl (p_extract rfl rfl rfl) ?_  -- t38 := extract t34
      refine sP rfl rfl rfl (pA rfl rfl) ?_  -- t9 := assign t37
      refine sP rfl rfl rfl (pA rfl rfl) ?_  -- t10 := assign t38
      refine lNil ?_
      refine wSeq ?_
      refine wReg ?_  -- region 6
      refine sP rfl rfl rfl (pLdW 0 rfl rfl rfl ty29 rfl) ?_  -- t40 := load t3
      refine sP rfl rfl rfl (p_call rfl (deput_p d ok) ⟨Sub.refl, trivial⟩) ?_  -- t41 := call   -- t40
      refine sP rfl rfl rfl (pMt rfl rfl) ?_  -- t39 := move t41
      refine sP rfl rfl rfl (p_extract rfl rfl rfl) ?_  -- t42 := extract t39
      refine sP rfl rfl rfl (p_extract rfl rfl rfl) ?_  -- t43 := extract t39
      refine sP rfl rfl rfl (pA rfl rfl) ?_  -- t11 := assign t42
      refine sP rfl rfl rfl (pA rfl rfl) ?_  -- t12 := assign t43
      refine lNil ?_
      refine wSeq ?_
      refine wReg ?_  -- region 7
      refine sP rfl rfl rfl (pM rfl rfl) ?_  -- t45 := move t11
      refine sP rfl rfl rfl (p_call rfl (deread_p (dputS d) (dputS_size ok)) ⟨Sub.refl, trivial⟩) ?_  -- t46 := call   -- t45
      refine sP rfl rfl rfl (pMt rfl rfl) ?_  -- t44 := move t46
      refine sP rfl rfl rfl (p_extract rfl rfl rfl) ?_  -- t47 := extract t44
      refine sP rfl rfl rfl (p_extract rfl rfl rfl) ?_  -- t48 := extract t44
      refine sAlloc rfl rfl rfl rfl ze29 (fun g13 => ?_)  -- t13 := alloc 
      refine sStore 3 rfl rfl rfl rfl rfl ty29 rfl rfl rfl (Nat.le_of_ble_eq_true rfl) ?_  -- t := store t13 t47
      refine sP rfl rfl rfl (pA rfl rfl) ?_  -- t14 := assign t48
      refine lNil ?_
      refine wCut (fun L h => ∃ b : Bool, b = (true) ∧ L = [(0, sA s), (4, bA b)] ∧ h = []) ?_ ?_
      · rcases dr4 s d with ⟨hE, hH⟩ | ⟨hE, hH⟩ | ⟨hE, hH⟩ | ⟨hE, hH⟩
        · refine wReg ?_  -- region 8
          refine sP rfl rfl rfl (pLdW 1 rfl rfl rfl ty29 rfl) ?_  -- t49 := load t5
          refine sP rfl rfl rfl (pLdW 2 rfl rfl rfl ty29 rfl) ?_  -- t50 := load t7
          refine sP rfl rfl rfl (p_call rfl (rdesame_is (decide_eq_true rfl) (okD_read s) (okD_read s)) ⟨Sub.refl, Sub.refl, trivial⟩) ?_  -- t51 := call   -- t49 t50
          refine sP rfl rfl rfl (pM rfl rfl) ?_  -- t52 := move t51
          refine sG rfl rfl rfl rfl rfl (pM rfl rfl) ?_  -- t53 := move t6   GUARD ['3', 'true']
          refine sG rfl rfl rfl rfl rfl (pM rfl rfl) ?_  -- t54 := move t8   GUARD ['3', 'true']
          refine sG rfl rfl rfl rfl rfl (p_icmp rfl rfl rfl (eql_t rfl)) ?_  -- t55 := binOp t53 t54   GUARD ['3', 'true']
          refine sP rfl rfl rfl (p_pick rfl rfl rfl) ?_  -- t56 := pick t52 t55 c
          refine sP rfl rfl rfl (pM rfl rfl) ?_  -- t57 := move t56
          refine sG rfl rfl rfl rfl rfl (pM rfl rfl) ?_  -- t58 := move t6   GUARD ['8', 'true']
          refine sG rfl rfl rfl rfl rfl (p_icmp rfl rfl rfl (neq_f hE)) ?_  -- t59 := binOp t58 c   GUARD ['8', 'true']
          refine sG rfl rfl rfl rfl rfl (pM rfl rfl) ?_  -- t60 := move t59   GUARD ['8', 'true']
          refine sG rfl rfl rfl rfl rfl (pM rfl rfl) ?_  -- t61 := move t9   GUARD ['11', 'false']
          refine sG rfl rfl rfl rfl rfl (pM rfl rfl) ?_  -- t62 := move t0   GUARD ['11', 'false']
          refine sG rfl rfl rfl rfl rfl (p_scmp rfl rfl rfl (seql_t (dput_read hE).2)) ?_  -- t63 := binOp t61 t62   GUARD ['11', 'false']
          refine sG rfl rfl rfl rfl rfl (pM rfl rfl) ?_  -- t64 := move t63   GUARD ['11', 'false']
          refine sG rfl rfl rfl rfl rfl (pM rfl rfl) ?_  -- t65 := move t10   GUARD ['15', 'true']
          refine sG rfl rfl rfl rfl rfl (p_icmp rfl rfl rfl (eql_t (dput_read hE).1)) ?_  -- t66 := binOp t65 c   GUARD ['15', 'true']
          refine sG rfl rfl rfl rfl rfl (p_pick rfl rfl rfl) ?_  -- t67 := pick t64 t66 c   GUARD ['11', 'false']
          refine sG rfl rfl rfl rfl rfl (p_pick rfl rfl rfl) ?_  -- t68 := pick t60 c t67   GUARD ['8', 'true']
          refine sP rfl rfl rfl (p_pick rfl rfl rfl) ?_  -- t69 := pick t57 t68 c
          refine sP rfl rfl rfl (pM rfl rfl) ?_  -- t70 := move t69
          refine sG rfl rfl rfl rfl rfl (pM rfl rfl) ?_  -- t71 := move t12   GUARD ['21', 'true']
          refine sG rfl rfl rfl rfl rfl (p_icmp rfl rfl rfl (neq_f hH)) ?_  -- t72 := binOp t71 c   GUARD ['21', 'true']
          refine sG rfl rfl rfl rfl rfl (pM rfl rfl) ?_  -- t73 := move t72   GUARD ['21', 'true']
          refine sG rfl rfl rfl rfl rfl (pLdW 3 rfl rfl rfl ty29 rfl) ?_  -- t74 := load t13   GUARD ['24', 'false']
          refine sG rfl rfl rfl rfl rfl (pLdW 0 rfl rfl rfl ty29 rfl) ?_  -- t75 := load t3   GUARD ['24', 'false']
          refine sG rfl rfl rfl rfl rfl (p_call rfl (rdesame_is (decide_eq_true (dread_put hH).2) (okD_read _) ok) ⟨Sub.refl, Sub.refl, trivial⟩) ?_  -- t76 := call    GUARD ['24', 'false']  -- t74 t75
          refine sG rfl rfl rfl rfl rfl (pM rfl rfl) ?_  -- t77 := move t76   GUARD ['24', 'false']
          refine sG rfl rfl rfl rfl rfl (pM rfl rfl) ?_  -- t78 := move t14   GUARD ['28', 'true']
          refine sG rfl rfl rfl rfl rfl (p_icmp rfl rfl rfl (eql_t (dread_put hH).1)) ?_  -- t79 := binOp t78 c   GUARD ['28', 'true']
          refine sG rfl rfl rfl rfl rfl (p_pick rfl rfl rfl) ?_  -- t80 := pick t77 t79 c   GUARD ['24', 'false']
          refine sG rfl rfl rfl rfl rfl (p_pick rfl rfl rfl) ?_  -- t81 := pick t73 c t80   GUARD ['21', 'true']
          refine sP rfl rfl rfl (p_pick rfl rfl rfl) ?_  -- t82 := pick t70 t81 c
          refine sP rfl rfl rfl (pM rfl rfl) ?_  -- t83 := move t82
          refine sG rfl rfl rfl rfl rfl (p_call rfl (awake18_p) trivial) ?_  -- t84 := call    GUARD ['34', 'true']  --
          refine sP rfl rfl rfl (p_pick rfl rfl rfl) ?_  -- t85 := pick t83 t84 c
          refine sP rfl rfl rfl (pA rfl rfl) ?_  -- t4 := assign t85
          refine lNil ?_
          exact ⟨_, [], _, ⟨_, (by exact rfl), rfl, rfl⟩, ⟨rfl, rfl, trivial⟩, rfl⟩
        · refine wReg ?_  -- region 8
          refine sP rfl rfl rfl (pLdW 1 rfl rfl rfl ty29 rfl) ?_  -- t49 := load t5
          refine sP rfl rfl rfl (pLdW 2 rfl rfl rfl ty29 rfl) ?_  -- t50 := load t7
          refine sP rfl rfl rfl (p_call rfl (rdesame_is (decide_eq_true rfl) (okD_read s) (okD_read s)) ⟨Sub.refl, Sub.refl, trivial⟩) ?_  -- t51 := call   -- t49 t50
          refine sP rfl rfl rfl (pM rfl rfl) ?_  -- t52 := move t51
          refine sG rfl rfl rfl rfl rfl (pM rfl rfl) ?_  -- t53 := move t6   GUARD ['3', 'true']
          refine sG rfl rfl rfl rfl rfl (pM rfl rfl) ?_  -- t54 := move t8   GUARD ['3', 'true']
          refine sG rfl rfl rfl rfl rfl (p_icmp rfl rfl rfl (eql_t rfl)) ?_  -- t55 := binOp t53 t54   GUARD ['3', 'true']
          refine sP rfl rfl rfl (p_pick rfl rfl rfl) ?_  -- t56 := pick t52 t55 c
          refine sP rfl rfl rfl (pM rfl rfl) ?_  -- t57 := move t56
          refine sG rfl rfl rfl rfl rfl (pM rfl rfl) ?_  -- t58 := move t6   GUARD ['8', 'true']
          refine sG rfl rfl rfl rfl rfl (p_icmp rfl rfl rfl (neq_f hE)) ?_  -- t59 := binOp t58 c   GUARD ['8', 'true']
          refine sG rfl rfl rfl rfl rfl (pM rfl rfl) ?_  -- t60 := move t59   GUARD ['8', 'true']
          refine sG rfl rfl rfl rfl rfl (pM rfl rfl) ?_  -- t61 := move t9   GUARD ['11', 'false']
          refine sG rfl rfl rfl rfl rfl (pM rfl rfl) ?_  -- t62 := move t0   GUARD ['11', 'false']
          refine sG rfl rfl rfl rfl rfl (p_scmp rfl rfl rfl (seql_t (dput_read hE).2)) ?_  -- t63 := binOp t61 t62   GUARD ['11', 'false']
          refine sG rfl rfl rfl rfl rfl (pM rfl rfl) ?_  -- t64 := move t63   GUARD ['11', 'false']
          refine sG rfl rfl rfl rfl rfl (pM rfl rfl) ?_  -- t65 := move t10   GUARD ['15', 'true']
          refine sG rfl rfl rfl rfl rfl (p_icmp rfl rfl rfl (eql_t (dput_read hE).1)) ?_  -- t66 := binOp t65 c   GUARD ['15', 'true']
          refine sG rfl rfl rfl rfl rfl (p_pick rfl rfl rfl) ?_  -- t67 := pick t64 t66 c   GUARD ['11', 'false']
          refine sG rfl rfl rfl rfl rfl (p_pick rfl rfl rfl) ?_  -- t68 := pick t60 c t67   GUARD ['8', 'true']
          refine sP rfl rfl rfl (p_pick rfl rfl rfl) ?_  -- t69 := pick t57 t68 c
          refine sP rfl rfl rfl (pM rfl rfl) ?_  -- t70 := move t69
          refine sG rfl rfl rfl rfl rfl (pM rfl rfl) ?_  -- t71 := move t12   GUARD ['21', 'true']
          refine sG rfl rfl rfl rfl rfl (p_icmp rfl rfl rfl (neq_t hH)) ?_  -- t72 := binOp t71 c   GUARD ['21', 'true']
          refine sG rfl rfl rfl rfl rfl (pM rfl rfl) ?_  -- t73 := move t72   GUARD ['21', 'true']
          refine sUx rfl rfl rfl (by decide) rfl rfl ?_  -- t74
          refine sUx rfl rfl rfl (by decide) rfl rfl ?_  -- t75
          refine sUx rfl rfl rfl (by decide) rfl rfl ?_  -- t76
          refine sUx rfl rfl rfl (by decide) rfl rfl ?_  -- t77
          refine sNx rfl rfl rfl rfl rfl ?_  -- t78
          refine sNx rfl rfl rfl rfl rfl ?_  -- t79
          refine sUx rfl rfl rfl (by decide) rfl rfl ?_  -- t80
          refine sG rfl rfl rfl rfl rfl (p_pick rfl rfl rfl) ?_  -- t81 := pick t73 c t80   GUARD ['21', 'true']
          refine sP rfl rfl rfl (p_pick rfl rfl rfl) ?_  -- t82 := pick t70 t81 c
          refine sP rfl rfl rfl (pM rfl rfl) ?_  -- t83 := move t82
          refine sG rfl rfl rfl rfl rfl (p_call rfl (awake18_p) trivial) ?_  -- t84 := call    GUARD ['34', 'true']  --
          refine sP rfl rfl rfl (p_pick rfl rfl rfl) ?_  -- t85 := pick t83 t84 c
          refine sP rfl rfl rfl (pA rfl rfl) ?_  -- t4 := assign t85
          refine lNil ?_
          exact ⟨_, [], _, ⟨_, (by exact rfl), rfl, rfl⟩, ⟨rfl, rfl, trivial⟩, rfl⟩
        · refine wReg ?_  -- region 8
          refine sP rfl rfl rfl (pLdW 1 rfl rfl rfl ty29 rfl) ?_  -- t49 := load t5
          refine sP rfl rfl rfl (pLdW 2 rfl rfl rfl ty29 rfl) ?_  -- t50 := load t7
          refine sP rfl rfl rfl (p_call rfl (rdesame_is (decide_eq_true rfl) (okD_read s) (okD_read s)) ⟨Sub.refl, Sub.refl, trivial⟩) ?_  -- t51 := call   -- t49 t50
          refine sP rfl rfl rfl (pM rfl rfl) ?_  -- t52 := move t51
          refine sG rfl rfl rfl rfl rfl (pM rfl rfl) ?_  -- t53 := move t6   GUARD ['3', 'true']
          refine sG rfl rfl rfl rfl rfl (pM rfl rfl) ?_  -- t54 := move t8   GUARD ['3', 'true']
          refine sG rfl rfl rfl rfl rfl (p_icmp rfl rfl rfl (eql_t rfl)) ?_  -- t55 := binOp t53 t54   GUARD ['3', 'true']
          refine sP rfl rfl rfl (p_pick rfl rfl rfl) ?_  -- t56 := pick t52 t55 c
          refine sP rfl rfl rfl (pM rfl rfl) ?_  -- t57 := move t56
          refine sG rfl rfl rfl rfl rfl (pM rfl rfl) ?_  -- t58 := move t6   GUARD ['8', 'true']
          refine sG rfl rfl rfl rfl rfl (p_icmp rfl rfl rfl (neq_t hE)) ?_  -- t59 := binOp t58 c   GUARD ['8', 'true']
          refine sG rfl rfl rfl rfl rfl (pM rfl rfl) ?_  -- t60 := move t59   GUARD ['8', 'true']
          refine sUx rfl rfl rfl (by decide) rfl rfl ?_  -- t61
          refine sUx rfl rfl rfl (by decide) rfl rfl ?_  -- t62
          refine sUx rfl rfl rfl (by decide) rfl rfl ?_  -- t63
          refine sUx rfl rfl rfl (by decide) rfl rfl ?_  -- t64
          refine sNx rfl rfl rfl rfl rfl ?_  -- t65
          refine sNx rfl rfl rfl rfl rfl ?_  -- t66
          refine sUx rfl rfl rfl (by decide) rfl rfl ?_  -- t67
          refine sG rfl rfl rfl rfl rfl (p_pick rfl rfl rfl) ?_  -- t68 := pick t60 c t67   GUARD ['8', 'true']
          refine sP rfl rfl rfl (p_pick rfl rfl rfl) ?_  -- t69 := pick t57 t68 c
          refine sP rfl rfl rfl (pM rfl rfl) ?_  -- t70 := move t69
          refine sG rfl rfl rfl rfl rfl (pM rfl rfl) ?_  -- t71 := move t12   GUARD ['21', 'true']
          refine sG rfl rfl rfl rfl rfl (p_icmp rfl rfl rfl (neq_f hH)) ?_  -- t72 := binOp t71 c   GUARD ['21', 'true']
          refine sG rfl rfl rfl rfl rfl (pM rfl rfl) ?_  -- t73 := move t72   GUARD ['21', 'true']
          refine sG rfl rfl rfl rfl rfl (pLdW 3 rfl rfl rfl ty29 rfl) ?_  -- t74 := load t13   GUARD ['24', 'false']
          refine sG rfl rfl rfl rfl rfl (pLdW 0 rfl rfl rfl ty29 rfl) ?_  -- t75 := load t3   GUARD ['24', 'false']
          refine sG rfl rfl rfl rfl rfl (p_call rfl (rdesame_is (decide_eq_true (dread_put hH).2) (okD_read _) ok) ⟨Sub.refl, Sub.refl, trivial⟩) ?_  -- t76 := call    GUARD ['24', 'false']  -- t74 t75
          refine sG rfl rfl rfl rfl rfl (pM rfl rfl) ?_  -- t77 := move t76   GUARD ['24', 'false']
          refine sG rfl rfl rfl rfl rfl (pM rfl rfl) ?_  -- t78 := move t14   GUARD ['28', 'true']
          refine sG rfl rfl rfl rfl rfl (p_icmp rfl rfl rfl (eql_t (dread_put hH).1)) ?_  -- t79 := binOp t78 c   GUARD ['28', 'true']
          refine sG rfl rfl rfl rfl rfl (p_pick rfl rfl rfl) ?_  -- t80 := pick t77 t79 c   GUARD ['24', 'false']
          refine sG rfl rfl rfl rfl rfl (p_pick rfl rfl rfl) ?_  -- t81 := pick t73 c t80   GUARD ['21', 'true']
          refine sP rfl rfl rfl (p_pick rfl rfl rfl) ?_  -- t82 := pick t70 t81 c
          refine sP rfl rfl rfl (pM rfl rfl) ?_  -- t83 := move t82
          refine sG rfl rfl rfl rfl rfl (p_call rfl (awake18_p) trivial) ?_  -- t84 := call    GUARD ['34', 'true']  --
          refine sP rfl rfl rfl (p_pick rfl rfl rfl) ?_  -- t85 := pick t83 t84 c
          refine sP rfl rfl rfl (pA rfl rfl) ?_  -- t4 := assign t85
          refine lNil ?_
          exact ⟨_, [], _, ⟨_, (by exact rfl), rfl, rfl⟩, ⟨rfl, rfl, trivial⟩, rfl⟩
        · refine wReg ?_  -- region 8
          refine sP rfl rfl rfl (pLdW 1 rfl rfl rfl ty29 rfl) ?_  -- t49 := load t5
          refine sP rfl rfl rfl (pLdW 2 rfl rfl rfl ty29 rfl) ?_  -- t50 := load t7
          refine sP rfl rfl rfl (p_call rfl (rdesame_is (decide_eq_true rfl) (okD_read s) (okD_read s)) ⟨Sub.refl, Sub.refl, trivial⟩) ?_  -- t51 := call   -- t49 t50
          refine sP rfl rfl rfl (pM rfl rfl) ?_  -- t52 := move t51
          refine sG rfl rfl rfl rfl rfl (pM rfl rfl) ?_  -- t53 := move t6   GUARD ['3', 'true']
          refine sG rfl rfl rfl rfl rfl (pM rfl rfl) ?_  -- t54 := move t8   GUARD ['3', 'true']
          refine sG rfl rfl rfl rfl rfl (p_icmp rfl rfl rfl (eql_t rfl)) ?_  -- t55 := binOp t53 t54   GUARD ['3', 'true']
          refine sP rfl rfl rfl (p_pick rfl rfl rfl) ?_  -- t56 := pick t52 t55 c
          refine sP rfl rfl rfl (pM rfl rfl) ?_  -- t57 := move t56
          refine sG rfl rfl rfl rfl rfl (pM rfl rfl) ?_  -- t58 := move t6   GUARD ['8', 'true']
          refine sG rfl rfl rfl rfl rfl (p_icmp rfl rfl rfl (neq_t hE)) ?_  -- t59 := binOp t58 c   GUARD ['8', 'true']
          refine sG rfl rfl rfl rfl rfl (pM rfl rfl) ?_  -- t60 := move t59   GUARD ['8', 'true']
          refine sUx rfl rfl rfl (by decide) rfl rfl ?_  -- t61
          refine sUx rfl rfl rfl (by decide) rfl rfl ?_  -- t62
          refine sUx rfl rfl rfl (by decide) rfl rfl ?_  -- t63
          refine sUx rfl rfl rfl (by decide) rfl rfl ?_  -- t64
          refine sNx rfl rfl rfl rfl rfl ?_  -- t65
          refine sNx rfl rfl rfl rfl rfl ?_  -- t66
          refine sUx rfl rfl rfl (by decide) rfl rfl ?_  -- t67
          refine sG rfl rfl rfl rfl rfl (p_pick rfl rfl rfl) ?_  -- t68 := pick t60 c t67   GUARD ['8', 'true']
          refine sP rfl rfl rfl (p_pick rfl rfl rfl) ?_  -- t69 := pick t57 t68 c
          refine sP rfl rfl rfl (pM rfl rfl) ?_  -- t70 := move t69
          refine sG rfl rfl rfl rfl rfl (pM rfl rfl) ?_  -- t71 := move t12   GUARD ['21', 'true']
          refine sG rfl rfl rfl rfl rfl (p_icmp rfl rfl rfl (neq_t hH)) ?_  -- t72 := binOp t71 c   GUARD ['21', 'true']
          refine sG rfl rfl rfl rfl rfl (pM rfl rfl) ?_  -- t73 := move t72   GUARD ['21', 'true']
          refine sUx rfl rfl rfl (by decide) rfl rfl ?_  -- t74
          refine sUx rfl rfl rfl (by decide) rfl rfl ?_  -- t75
          refine sUx rfl rfl rfl (by decide) rfl rfl ?_  -- t76
          refine sUx rfl rfl rfl (by decide) rfl rfl ?_  -- t77
          refine sNx rfl rfl rfl rfl rfl ?_  -- t78
          refine sNx rfl rfl rfl rfl rfl ?_  -- t79
          refine sUx rfl rfl rfl (by decide) rfl rfl ?_  -- t80
          refine sG rfl rfl rfl rfl rfl (p_pick rfl rfl rfl) ?_  -- t81 := pick t73 c t80   GUARD ['21', 'true']
          refine sP rfl rfl rfl (p_pick rfl rfl rfl) ?_  -- t82 := pick t70 t81 c
          refine sP rfl rfl rfl (pM rfl rfl) ?_  -- t83 := move t82
          refine sG rfl rfl rfl rfl rfl (p_call rfl (awake18_p) trivial) ?_  -- t84 := call    GUARD ['34', 'true']  --
          refine sP rfl rfl rfl (p_pick rfl rfl rfl) ?_  -- t85 := pick t83 t84 c
          refine sP rfl rfl rfl (pA rfl rfl) ?_  -- t4 := assign t85
          refine lNil ?_
          exact ⟨_, [], _, ⟨_, (by exact rfl), rfl, rfl⟩, ⟨rfl, rfl, trivial⟩, rfl⟩
      · rintro L h ⟨b2, hb2, rfl, rfl⟩
        refine wRet ?_
        exact rgs1 (rg_tmp (gives_sub (Sub.of_eq (avB hb2))))
end Go.Proofs.Ytmhkalalcmkpbaa

namespace Go.Proofs.Ytmhkalalcmkpbaa
open Go Go.ChangeShapes Go.WideShapes Go.ChangeAt Go.RowKit
set_option linter.unusedVariables false
theorem slice_bounds {P : Program} {W : World} {r : Reach} {b : Nat} {t e : TypeId} {a : Option Addr} {len cap : Nat} (ht : P.underlying t = some (.slice e)) (h : Value.okWide P W r b t (.slice a len cap)) : len ≤ cap ∧ cap ≤ 9223372036854775807 := by
  simp only [Value.okWide, ht, Cell.okWide] at h
  cases a with
  | none => 
    cases len <;> cases cap <;> simp_all [Cell.ok]
  | some ad =>
    simp only [Cell.ok, ht] at h
    have h2 : (cap : Int) ≤ 9223372036854775807 := h.2.1
    exact ⟨h.1, by omega⟩
end Go.Proofs.Ytmhkalalcmkpbaa

namespace Go.Proofs.Ytmhkalalcmkpbaa
open Go Go.ChangeShapes Go.WideShapes Go.ChangeAt Go.RowKit Go.Deep
set_option linter.unusedVariables false
set_option linter.unusedSimpArgs false

theorem dots_rep {w : World} {A : Option Addr} {n c : Nat} {l : List (Int × Int)} (hl : l.length = n) (hnc : n ≤ c) (hcm : c ≤ 9223372036854775807) (hr : RdD w w.heap.size A n l) : Rep (fun _ => False) w (slD l) (.slice A n c) := by
  subst hl
  simp only [Rep]
  refine ⟨slD_len l, A, c, rfl, hnc, hcm, ?_⟩
  rcases Nat.eq_zero_or_pos l.length with h0 | h0
  · exact .inl (by rw [h0])
  · obtain ⟨ad, h1, h2, h3⟩ := hr.2 h0
    refine .inr ⟨ad, h1, h2, fun h => h, ?_⟩
    refine RepC.mk fun j cc hj => ?_
    rw [encA_flat, List.getElem?_map] at hj
    obtain ⟨u, hu, rfl⟩ := Option.map_eq_some_iff.1 hj
    exact ⟨u, h3 j u hu, rep_x.2 rfl⟩
theorem rowWide {P : Program} {W : World} {r : Reach} {b : Nat} {t u : TypeId} {ts : List TypeId} {cs : Array Value} {i : Nat} {v : Value} (h : Row.okWide P W r b t cs) (hts : P.cellTypes P.depth t = some ts) (hv : cs[i]? = some v) (hi : i < ts.length) (hu : ts[i]? = some u) : Cell.okWide P W r b u v := by
  obtain ⟨ts', h1, _, h2⟩ := h
  rw [hts] at h1
  injection h1 with h1
  subst h1
  obtain ⟨u', h3, h4⟩ := h2 i v hv
  rw [Nat.mod_eq_of_lt hi, hu] at h3
  injection h3 with h3
  subst h3
  exact h4
set_option maxRecDepth 100000 in
theorem read_delta {H : Type} {enc : TypeId × Value → H} {W : World} {b0 : Nat} {r : Reach} {b1 : Nat} {hd : Bool} {v : Value} {d : DataW H} {p : List MemPlace}
    (hv : Value.okWide Try.prog W r b1 29 v) (h : DataW.Trod enc Try.prog W b0 (fun _ => true) hd 29 v d p) : ∃ x : DeltaT, Rep (fun _ => False) W (dlA x) v := by
  have hv0 := hv
  simp only [Value.okWide, Try.underlying29] at hv0
  obtain ⟨us, rfl, hsz, hrow⟩ := hv0
  obtain ⟨fuel, hf⟩ := h
  obtain ⟨ys, n, _, hx, hlen, hyl, hfs⟩ := DataW.trod_struct Try.underlying29 hf
  have hC : Try.prog.cellsOf 29 = 7 := by kernel_rfl
  have hD : Try.prog.cellsOf 23 = 2 := by kernel_rfl
  have hW : Try.prog.cellsOf 25 = 3 := by kernel_rfl
  have hF : Try.prog.cellsOf 26 = 1 := by kernel_rfl
  have hG : Try.prog.cellsOf 27 = 1 := by kernel_rfl
  obtain ⟨l⟩ := us
  rw [hC] at hsz
  have hsz' : l.length = 7 := hsz
  match l, hsz' with
  | [c0, c1, c2, c3, c4, c5, c6], _ =>
    match ys, hyl with
    | [y0, y1, y2, y3], _ =>
      have h0 : DataW.trod enc Try.prog W b0 (fun _ => true) hd n 23 ((([c0, c1, c2, c3, c4, c5, c6] : List Value).drop 0).take (Try.prog.cellsOf 23)) = some y0 := hfs 0 _ rfl
      have h1 : DataW.trod enc Try.prog W b0 (fun _ => true) hd n 25 ((([c0, c1, c2, c3, c4, c5, c6] : List Value).drop 2).take (Try.prog.cellsOf 25)) = some y1 := hfs 1 _ rfl
      have h2 : DataW.trod enc Try.prog W b0 (fun _ => true) hd n 26 ((([c0, c1, c2, c3, c4, c5, c6] : List Value).drop 5).take (Try.prog.cellsOf 26)) = some y2 := hfs 2 _ rfl
      have h3 : DataW.trod enc Try.prog W b0 (fun _ => true) hd n 27 ((([c0, c1, c2, c3, c4, c5, c6] : List Value).drop 6).take (Try.prog.cellsOf 27)) = some y3 := hfs 3 _ rfl
      rw [hD] at h0
      rw [hW] at h1
      rw [hF] at h2
      rw [hG] at h3
      obtain ⟨dd, e0⟩ := el_dot _ _ _ h0
      obtain ⟨s1, s2, s3, e1⟩ := el_stamp _ _ _ h1
      simp [encD] at e0 e1
      have hts : Try.prog.cellTypes Try.prog.depth 29 = some [3, 3, 3, 3, 3, 26, 27] := by kernel_rfl
      have w5 : Value.okWide Try.prog W r b1 26 c5 := by
        simp only [Value.okWide, Try.underlying26]
        exact rowWide (i := 5) hrow hts rfl (by decide) rfl
      have w6 : Value.okWide Try.prog W r b1 27 c6 := by
        simp only [Value.okWide, Try.underlying27]
        exact rowWide (i := 6) hrow hts rfl (by decide) rfl
      obtain ⟨a5, n5, k5, rfl⟩ := okWide_slice Try.underlying26 w5
      obtain ⟨a6, n6, k6, rfl⟩ := okWide_slice Try.underlying27 w6
      obtain ⟨b5, m5⟩ := slice_bounds Try.underlying26 w5
      obtain ⟨b6, m6⟩ := slice_bounds Try.underlying27 w6
      obtain ⟨fs, q1, q2⟩ := read_facts (a := a5) (len := n5) (cap := k5) (d := y2.1) (p := y2.2) ⟨n, h2⟩
      obtain ⟨gs, q3⟩ := read_dots (a := a6) (len := n6) (cap := k6) (d := y3.1) (p := y3.2) ⟨n, h3⟩
      obtain ⟨f1, f2⟩ := e0
      obtain ⟨g1, g2, g3⟩ := e1
      subst f1 f2 g1 g2 g3
      refine ⟨(dd, (s1, s2, s3), fs, gs), ?_⟩
      simp only [Rep]
      refine ⟨_, rfl, rfl, ?_⟩
      simp only [encDl, RepC]
      exact ⟨⟨_, rfl, rep_x.2 rfl⟩, ⟨_, rfl, rep_x.2 rfl⟩, ⟨_, rfl, rep_x.2 rfl⟩, ⟨_, rfl, rep_x.2 rfl⟩, ⟨_, rfl, rep_x.2 rfl⟩, ⟨_, rfl, facts_rep q1 b5 m5 q2⟩, ⟨_, rfl, dots_rep q3.len b6 m6 q3⟩, trivial⟩
theorem dputs_walk (d x : DeltaT) (u v : Value) (w : World) (hd : Rep (fun _ => False) w (dlA d) u) (hx : Rep (fun _ => False) w (dlA x) v) : Calls Try.prog 3 #[u, v] w fun e w' => e = .returned (.bool true) ∧ Below w.heap.size w w' := by
  have hr : RepC (fun _ => False) w [dlA d, dlA x] (fun j => (#[u, v] : Array Value)[j]?) := by
    simp only [RepC]
    exact ⟨⟨_, rfl, hd⟩, ⟨_, rfl, hx⟩, trivial⟩
  refine ((dputs_w d x).calls (fun _ => False) w _ (fun b hb => hb.elim) rfl hr).mono ?_
  rintro e w' ⟨r, rfl, h2, h3⟩
  rw [rep_x] at h2
  subst h2
  exact ⟨rfl, h3.b⟩
theorem dreads_walk (s : ByteArray) (d : DeltaT) (u : Value) (w : World) (hd : Rep (fun _ => False) w (dlA d) u) : Calls Try.prog 4 #[.string s, u] w fun e w' => e = .returned (.bool true) ∧ Below w.heap.size w w' := by
  have hr : RepC (fun _ => False) w [sA s, dlA d] (fun j => (#[Value.string s, u] : Array Value)[j]?) := by
    simp only [RepC]
    exact ⟨⟨_, rfl, rep_x.2 rfl⟩, ⟨_, rfl, hd⟩, trivial⟩
  refine ((dreads_w s d).calls (fun _ => False) w _ (fun b hb => hb.elim) rfl hr).mono ?_
  rintro e w' ⟨r, rfl, h2, h3⟩
  rw [rep_x] at h2
  subst h2
  exact ⟨rfl, h3.b⟩
end Go.Proofs.Ytmhkalalcmkpbaa
