/-
  ReadD ReadF C7 Lfr
-/
import Derived.Test.YtmhkalalcmkpbaaZC6
import Derived.Test.YtmhkalalcmkpbaaZDotSame
import Derived.Test.YtmhkalalcmkpbaaZDotSmall
import Derived.Test.YtmhkalalcmkpbaaZFlay
import Derived.Test.YtmhkalalcmkpbaaZLfo
import Derived.Test.YtmhkalalcmkpbaaZReadArg
import Derived.Lib.SmallJoins
namespace Go.Proofs.Ytmhkalalcmkpbaa
open Go.ChangeShapes Go.WideShapes Go.ChangeAt Go.RowKit Go.Deep
set_option linter.unusedVariables false
set_option linter.unusedSimpArgs false

set_option maxRecDepth 100000 in
/-- The cells of one name. -/
theorem el_dot {H : Type} {enc : TypeId × Value → H} {W : World} {b0 : Nat} {sp : Nat → Bool} {hd : Bool} (fuel : Nat) (cs : List Value) (x : DataW H × List MemPlace)
    (h : DataW.trod enc Try.prog W b0 sp hd fuel 23 cs = some x) : ∃ y : Int × Int, cs = encD y := by
  obtain ⟨ys, n, _, hx, hlen, hyl, hf⟩ := DataW.trod_struct Try.underlying23 h
  have hC : Try.prog.cellsOf 23 = 2 := by kernel_rfl
  have hI : Try.prog.cellsOf 3 = 1 := by kernel_rfl
  rw [hC] at hlen
  match cs, hlen with
  | [c0, c1], _ =>
    match ys, hyl with
    | [y0, y1], _ =>
      have h0 : DataW.trod enc Try.prog W b0 sp hd n 3 ((([c0, c1] : List Value).drop 0).take (Try.prog.cellsOf 3)) = some y0 := hf 0 _ rfl
      have h1 : DataW.trod enc Try.prog W b0 sp hd n 3 ((([c0, c1] : List Value).drop 1).take (Try.prog.cellsOf 3)) = some y1 := hf 1 _ rfl
      rw [hI] at h0 h1
      obtain ⟨z0, e0, _⟩ := DataW.trod_int Try.underlying3 h0
      obtain ⟨z1, e1, _⟩ := DataW.trod_int Try.underlying3 h1
      simp at e0 e1
      exact ⟨(z0, z1), by rw [e0, e1]; rfl⟩
set_option maxRecDepth 100000 in
theorem read_dots {H : Type} {enc : TypeId × Value → H} {W : World} {b0 : Nat} {hd : Bool} {a : Option Addr} {len cap : Nat} {d : DataW H} {p : List MemPlace}
    (h : DataW.Trod enc Try.prog W b0 (fun _ => true) hd 27 (.slice a len cap) d p) : ∃ xs : List (Int × Int), RdD W W.heap.size a len xs := by
  obtain ⟨xs, _, hr⟩ := read_slice encD 2 (by decide) (fun _ => rfl) (by kernel_rfl) (by kernel_rfl) (fun fuel cs x hx => el_dot fuel cs x hx) h
  exact ⟨xs, hr⟩
set_option maxRecDepth 100000 in
theorem read_dot {H : Type} {enc : TypeId × Value → H} {W : World} {b0 : Nat} {r : Reach} {b1 : Nat} {hd : Bool} {v : Value} {d : DataW H} {p : List MemPlace}
    (hv : Value.okWide Try.prog W r b1 23 v) (h : DataW.Trod enc Try.prog W b0 (fun _ => true) hd 23 v d p) : ∃ x : Int × Int, v = dotv x := by
  obtain ⟨cs, rfl, hsz⟩ := okWide_struct Try.underlying23 hv
  obtain ⟨fuel, hf⟩ := h
  obtain ⟨y, hy⟩ := el_dot _ _ _ hf
  refine ⟨y, ?_⟩
  have : cs.toList = encD y := by simpa [Value.cells] using hy
  show Value.agg cs = Value.agg #[_, _]
  congr 1
  exact Array.ext' (by rw [this]; rfl)
end Go.Proofs.Ytmhkalalcmkpbaa

namespace Go.Proofs.Ytmhkalalcmkpbaa
open Go.ChangeShapes Go.WideShapes Go.ChangeAt Go.RowKit Go.Deep
set_option linter.unusedVariables false
set_option linter.unusedSimpArgs false

set_option maxRecDepth 100000 in
theorem el_stamp {H : Type} {enc : TypeId × Value → H} {W : World} {b0 : Nat} {sp : Nat → Bool} {hd : Bool} (fuel : Nat) (cs : List Value) (x : DataW H × List MemPlace)
    (h : DataW.trod enc Try.prog W b0 sp hd fuel 25 cs = some x) : ∃ a b c : Int, cs = [.int .i64 a, .int .i64 b, .int .i64 c] := by
  obtain ⟨ys, n, _, hx, hlen, hyl, hf⟩ := DataW.trod_struct Try.underlying25 h
  have hC : Try.prog.cellsOf 25 = 3 := by kernel_rfl
  have hI : Try.prog.cellsOf 3 = 1 := by kernel_rfl
  rw [hC] at hlen
  match cs, hlen with
  | [c0, c1, c2], _ =>
    match ys, hyl with
    | [y0, y1, y2], _ =>
      have h0 : DataW.trod enc Try.prog W b0 sp hd n 3 ((([c0, c1, c2] : List Value).drop 0).take (Try.prog.cellsOf 3)) = some y0 := hf 0 _ rfl
      have h1 : DataW.trod enc Try.prog W b0 sp hd n 3 ((([c0, c1, c2] : List Value).drop 1).take (Try.prog.cellsOf 3)) = some y1 := hf 1 _ rfl
      have h2 : DataW.trod enc Try.prog W b0 sp hd n 3 ((([c0, c1, c2] : List Value).drop 2).take (Try.prog.cellsOf 3)) = some y2 := hf 2 _ rfl
      rw [hI] at h0 h1 h2
      obtain ⟨z0, e0, _⟩ := DataW.trod_int Try.underlying3 h0
      obtain ⟨z1, e1, _⟩ := DataW.trod_int Try.underlying3 h1
      obtain ⟨z2, e2, _⟩ := DataW.trod_int Try.underlying3 h2
      simp at e0 e1 e2
      exact ⟨z0, z1, z2, by rw [e0, e1, e2]⟩
set_option maxRecDepth 100000 in
/-- The cells of one fact. -/
theorem el_fact {H : Type} {enc : TypeId × Value → H} {W : World} {b0 : Nat} {sp : Nat → Bool} {hd : Bool} (fuel : Nat) (cs : List Value) (x : DataW H × List MemPlace)
    (h : DataW.trod enc Try.prog W b0 sp hd fuel 87 cs = some x) : ∃ y : FactT, cs = encV y := by
  obtain ⟨ys, n, _, hx, hlen, hyl, hf⟩ := DataW.trod_struct Try.underlying87 h
  have hC : Try.prog.cellsOf 87 = 8 := by kernel_rfl
  have hI : Try.prog.cellsOf 3 = 1 := by kernel_rfl
  have hS : Try.prog.cellsOf 9 = 1 := by kernel_rfl
  have hD : Try.prog.cellsOf 23 = 2 := by kernel_rfl
  have hW : Try.prog.cellsOf 25 = 3 := by kernel_rfl
  rw [hC] at hlen
  match cs, hlen with
  | [c0, c1, c2, c3, c4, c5, c6, c7], _ =>
    match ys, hyl with
    | [y0, y1, y2, y3, y4], _ =>
      have h0 : DataW.trod enc Try.prog W b0 sp hd n 23 ((([c0, c1, c2, c3, c4, c5, c6, c7] : List Value).drop 0).take (Try.prog.cellsOf 23)) = some y0 := hf 0 _ rfl
      have h1 : DataW.trod enc Try.prog W b0 sp hd n 25 ((([c0, c1, c2, c3, c4, c5, c6, c7] : List Value).drop 2).take (Try.prog.cellsOf 25)) = some y1 := hf 1 _ rfl
      have h2 : DataW.trod enc Try.prog W b0 sp hd n 3 ((([c0, c1, c2, c3, c4, c5, c6, c7] : List Value).drop 5).take (Try.prog.cellsOf 3)) = some y2 := hf 2 _ rfl
      have h3 : DataW.trod enc Try.prog W b0 sp hd n 9 ((([c0, c1, c2, c3, c4, c5, c6, c7] : List Value).drop 6).take (Try.prog.cellsOf 9)) = some y3 := hf 3 _ rfl
      have h4 : DataW.trod enc Try.prog W b0 sp hd n 9 ((([c0, c1, c2, c3, c4, c5, c6, c7] : List Value).drop 7).take (Try.prog.cellsOf 9)) = some y4 := hf 4 _ rfl
      rw [hD] at h0
      rw [hW] at h1
      rw [hI] at h2
      rw [hS] at h3 h4
      obtain ⟨d, e0⟩ := el_dot _ _ _ h0
      obtain ⟨s1, s2, s3, e1⟩ := el_stamp _ _ _ h1
      obtain ⟨z2, e2, _⟩ := DataW.trod_int Try.underlying3 h2
      obtain ⟨z3, e3, _⟩ := DataW.trod_string Try.underlying9 h3
      obtain ⟨z4, e4, _⟩ := DataW.trod_string Try.underlying9 h4
      simp [encD] at e0 e1 e2 e3 e4
      refine ⟨(d, (s1, s2, s3), z2, z3, z4), ?_⟩
      rw [e0.1, e0.2, e1.1, e1.2.1, e1.2.2, e2, e3, e4]; rfl
set_option maxRecDepth 100000 in
theorem read_facts {H : Type} {enc : TypeId × Value → H} {W : World} {b0 : Nat} {hd : Bool} {a : Option Addr} {len cap : Nat} {d : DataW H} {p : List MemPlace}
    (h : DataW.Trod enc Try.prog W b0 (fun _ => true) hd 26 (.slice a len cap) d p) : ∃ xs : List FactT, xs.length = len ∧ Reads W W.heap.size 8 a len (xs.flatMap encV) :=
  read_slice encV 8 (by decide) (fun _ => rfl) (by kernel_rfl) (by kernel_rfl) (fun fuel cs x hx => el_fact fuel cs x hx) h
set_option maxRecDepth 100000 in
theorem read_fact {H : Type} {enc : TypeId × Value → H} {W : World} {b0 : Nat} {r : Reach} {b1 : Nat} {hd : Bool} {v : Value} {d : DataW H} {p : List MemPlace}
    (hv : Value.okWide Try.prog W r b1 87 v) (h : DataW.Trod enc Try.prog W b0 (fun _ => true) hd 87 v d p) : ∃ x : FactT, v = .agg (encV x).toArray := by
  obtain ⟨cs, rfl, hsz⟩ := okWide_struct Try.underlying87 hv
  obtain ⟨fuel, hf⟩ := h
  obtain ⟨y, hy⟩ := el_fact _ _ _ hf
  refine ⟨y, ?_⟩
  have : cs.toList = encV y := by simpa [Value.cells] using hy
  congr 1
  exact Array.ext' (by rw [this])
end Go.Proofs.Ytmhkalalcmkpbaa

namespace Go.Proofs.Ytmhkalalcmkpbaa
open Go Go.RowKit
set_option linter.unusedVariables false
section
variable {m : Option (List Oper)} {P : Program} {C : Cx} {Q : Exit → AS → Prop} {f : Nat → AV} {h : List HObj} {ops : Array Oper} {o : Oper} {rest : List Oper}
theorem sUx {d j t : Nat} {b b' : Bool} (hg : o.guard = some (j, b)) (hj : (ops[j]?).bind (·.dst) = some t) (ht : f t = .x (.bool b')) (hb : b' ≠ b) (hd : o.dst = some d) (hN : Nat.blt d C.N = true) (k : WL m P C ops Q rest ⟨upd f d (.x undef), h⟩) : WL m P C ops Q (o :: rest) ⟨f, h⟩ := by
  cases m with
  | none =>
    exact ⟨by
      intro a w hs
      have h1 := hs.slots.slot t
      simp only at h1
      rw [ht, rep_x] at h1
      have hw : Region.wanted o (yielded ops a.tmps) = false := by
        have : yielded ops a.tmps j = some b' := yield_bool hj h1
        simp [Region.wanted, hg, this, hb]
      refine wpList_step fun K hK => ?_
      rw [hw]
      refine hK _ _ (k.run _ _ ⟨hs.env, ?_⟩)
      have := hs.slots.put o.dst (v := undef) (av := .x undef) (rep_x.2 rfl)
      rw [hd, putT_upd hN] at this
      rw [hd]; exact this⟩
  | some tail =>
    refine ⟨chain_unwantedx hg hj ht hb ?_⟩
    rw [hd, putT_upd hN]; exact k.run
theorem sNx {d j t : Nat} {b : Bool} (hg : o.guard = some (j, b)) (hj : (ops[j]?).bind (·.dst) = some t) (ht : f t = .x undef) (hd : o.dst = some d) (hN : Nat.blt d C.N = true) (k : WL m P C ops Q rest ⟨upd f d (.x undef), h⟩) : WL m P C ops Q (o :: rest) ⟨f, h⟩ := by
  cases m with
  | none =>
    exact ⟨by
      intro a w hs
      have h1 := hs.slots.slot t
      simp only at h1
      rw [ht, rep_x] at h1
      have hw : Region.wanted o (yielded ops a.tmps) = false := by
        have : yielded ops a.tmps j = none := by
          unfold yielded
          rw [hj]
          show (match a.tmps[t]? with | some (.bool b) => some b | _ => none) = none
          rw [Array.getD_eq_getD_getElem?] at h1
          cases hh : a.tmps[t]? with
          | none => rfl
          | some v => rw [hh] at h1; obtain rfl : v = undef := h1; rfl
        simp [Region.wanted, hg, this]
      refine wpList_step fun K hK => ?_
      rw [hw]
      refine hK _ _ (k.run _ _ ⟨hs.env, ?_⟩)
      have := hs.slots.put o.dst (v := undef) (av := .x undef) (rep_x.2 rfl)
      rw [hd, putT_upd hN] at this
      rw [hd]; exact this⟩
  | some tail =>
    refine ⟨chain_nonex hg hj ht ?_⟩
    rw [hd, putT_upd hN]; exact k.run
end
end Go.Proofs.Ytmhkalalcmkpbaa

namespace Go.Proofs.Ytmhkalalcmkpbaa
open Go Go.RowKit
set_option linter.unusedVariables false
set_option linter.unusedSimpArgs false

theorem fr4 (s : ByteArray) (m : List FactT) : (freadE s = 0 ∧ fputE m = 0) ∨ (freadE s = 0 ∧ fputE m ≠ 0) ∨ (freadE s ≠ 0 ∧ fputE m = 0) ∨ (freadE s ≠ 0 ∧ fputE m ≠ 0) := by
  by_cases h1 : freadE s = 0 <;> by_cases h2 : fputE m = 0 <;> simp [h1, h2]
theorem freadL_ok_all (s : ByteArray) : ∀ f ∈ freadL s, okF f := by
  intro f hf
  unfold freadL at hf
  split at hf
  · simp at hf
  · exact rdFs_ok _ _ f hf
theorem freadL_len (s : ByteArray) : (freadL s).length < 1000000 := by
  by_cases h : freadE s = 0
  · have := (fputE_zero (fput_read h).1).1; omega
  · unfold freadL; rw [if_pos h]; decide
theorem fputS_size {m : List FactT} (h : ∀ f ∈ m, okF f) : (fputS m).size < 9223372036854775807 := by
  by_cases h1 : fputE m = 0
  · rw [fputS_ok h1, ByteArray.size_append]
    have := factsB_size m h (fputE_zero h1).1
    have := numS_size m.length
    omega
  · rw [fputS_err h1]; decide
theorem same_eq {a b : List FactT} (h : a = b) (hn : b.length < 1000000) : PFn Try.prog False 47 [slF a, slF b] (bA true) := by
  have h2 := rfsame_p a b (by rw [h]; exact hn) hn
  rw [decide_eq_true h] at h2
  exact h2
theorem neq_t {a : Int} (h : a ≠ 0) : icmp .neq a 0 = some true := congrArg some (by simp [h])
theorem neq_f {a : Int} (h : a = 0) : icmp .neq a 0 = some false := congrArg some (by simp [h])
theorem eql_t {a b : Int} (h : a = b) : icmp .eql a b = some true := congrArg some (decide_eq_true h)
theorem seql_t {a b : ByteArray} (h : a = b) : scmp .eql a b = some true := congrArg some (decide_eq_true h)

set_option maxHeartbeats 1000000 in
set_option maxRecDepth 100000 in
theorem freads_w (s : ByteArray) (l : List FactT) : PFn Try.prog False 9 [sA s, slF l] (bA true) := by
  refine pfn Try.func9 rfl (by kernel_rfl) 88 rfl _ rfl (Nat.le_of_ble_eq_true rfl) (fun X w0 => ?_)
  refine wSeq ?_
  refine wReg ?_  -- region 0
  refine sP rfl rfl rfl (pA rfl rfl) ?_  -- t4 := assign c
  refine lNil ?_
  refine wSeq ?_
  refine wCut (fun L h => ∃ b : Bool, b = (decide ((5000 : Int) < (s.size : Nat)) || !fewF l) ∧ L = [(0, sA s), (1, slF l), (22, bA b)] ∧ h = []) ?_ ?_
  · cases hb : (decide ((5000 : Int) < (s.size : Nat))) with
    | true =>
      refine wReg ?_  -- region 1
      refine sP rfl rfl rfl (pM rfl rfl) ?_  -- t15 := move t0
      refine sP rfl rfl rfl (p_len_str rfl rfl Try.underlying9) ?_  -- t16 := call   -- t15
      refine sP rfl rfl rfl (p_icmp rfl rfl rfl (congrArg some hb)) ?_  -- t17 := binOp t16 c
      refine sP rfl rfl rfl (pM rfl rfl) ?_  -- t18 := move t17
      refine sU rfl rfl rfl (by decide) rfl rfl ?_  -- t19 := move t1   GUARD ['3', 'false']
      refine sU rfl rfl rfl (by decide) rfl rfl ?_  -- t20 := call    GUARD ['3', 'false']  -- t19
      refine sU rfl rfl rfl (by decide) rfl rfl ?_  -- t21 := unOp t20   GUARD ['3', 'false']
      refine sP rfl rfl rfl (p_pick rfl rfl rfl) ?_  -- t22 := pick t18 c t21
      refine lNil ?_
      exact ⟨_, [], [], ⟨_, (by exact rfl), rfl, rfl⟩, ⟨rfl, rfl, rfl, trivial⟩, rfl⟩
    | false =>
      refine wReg ?_  -- region 1
      refine sP rfl rfl rfl (pM rfl rfl) ?_  -- t15 := move t0
      refine sP rfl rfl rfl (p_len_str rfl rfl Try.underlying9) ?_  -- t16 := call   -- t15
      refine sP rfl rfl rfl (p_icmp rfl rfl rfl (congrArg some hb)) ?_  -- t17 := binOp t16 c
      refine sP rfl rfl rfl (pM rfl rfl) ?_  -- t18 := move t17
      refine sG rfl rfl rfl rfl rfl (pMs rfl rfl) ?_  -- t19 := move t1   GUARD ['3', 'false']
      refine sG rfl rfl rfl rfl rfl (p_call rfl (few_p l) ⟨Sub.refl, trivial⟩) ?_  -- t20 := call    GUARD ['3', 'false']  -- t19
      refine sG rfl rfl rfl rfl rfl (p_not rfl rfl) ?_  -- t21 := unOp t20   GUARD ['3', 'false']
      refine sP rfl rfl rfl (p_pick rfl rfl rfl) ?_  -- t22 := pick t18 c t21
      refine lNil ?_
      exact ⟨_, [], [], ⟨_, (by exact rfl), rfl, rfl⟩, ⟨rfl, rfl, rfl, trivial⟩, rfl⟩
  · rintro L h ⟨b, hb, rfl, rfl⟩
    refine wCond rfl (fun hc1 => ?_) (fun hc1 => ?_)  -- t22
    · refine wSeq ?_
      refine wReg ?_  -- region 2
      refine sP rfl rfl rfl (p_call rfl (awake15_p) trivial) ?_  -- t23 := call   -- 
      refine sP rfl rfl rfl (pA rfl rfl) ?_  -- t4 := assign t23
      refine lNil ?_
      refine wRet ?_
      exact rgs1 (rg_tmp (gives_sub (Sub.of_eq (rfl))))
    · have hb2 := hb.symm.trans hc1
      rw [Bool.or_eq_false_iff, decide_eq_false_iff_not, Bool.not_eq_false'] at hb2
      obtain ⟨hl30, hlo⟩ := fewF_ok hb2.2
      have hs : s.size < 9223372036854775807 := by have := hb2.1; omega
      have hl : l.length < 1000000 := by omega
      have hml : (sortK ltF l).length < 1000000 := by have := sortK_length_le (lt := ltF) l; omega
      have hmo : ∀ f ∈ sortK ltF l, okF f := fun f hf => hlo f ((sortK_facts stoF l).2 f |>.1 hf)
      refine wSkip ?_
      refine wSeq ?_
      refine wReg ?_  -- region 3
      refine sP rfl rfl rfl (pM rfl rfl) ?_  -- t25 := move t0
      refine sP rfl rfl rfl (p_call rfl (fread_p s hs) ⟨Sub.refl, trivial⟩) ?_  -- t26 := call   -- t25
      refine sP rfl rfl rfl (pMt rfl rfl) ?_  -- t24 := move t26
      refine sP rfl rfl rfl (p_extract rfl rfl rfl) ?_  -- t27 := extract t24
      refine sP rfl rfl rfl (p_extract rfl rfl rfl) ?_  -- t28 := extract t24
      refine sP rfl rfl rfl (pAs rfl rfl) ?_  -- t5 := assign t27
      refine sP rfl rfl rfl (pA rfl rfl) ?_  -- t6 := assign t28
      refine lNil ?_
      refine wSeq ?_
      refine wReg ?_  -- region 4
      refine sP rfl rfl rfl (pM rfl rfl) ?_  -- t30 := move t0
      refine sP rfl rfl rfl (p_call rfl (rfread_p s hs) ⟨Sub.refl, trivial⟩) ?_  -- t31 := call   -- t30
      refine sP rfl rfl rfl (pMt rfl rfl) ?_  -- t29 := move t31
      refine sP rfl rfl rfl (p_extract rfl rfl rfl) ?_  -- t32 := extract t29
      refine sP rfl rfl rfl (p_extract rfl rfl rfl) ?_  -- t33 := extract t29
      refine sP rfl rfl rfl (pAs rfl rfl) ?_  -- t7 := assign t32
      refine sP rfl rfl rfl (pA rfl rfl) ?_  -- t8 := assign t33
      refine lNil ?_
      refine wSeq ?_
      refine wReg ?_  -- region 5
      refine sP rfl rfl rfl (pMs rfl rfl) ?_  -- t35 := move t5
      refine sP rfl rfl rfl (p_call rfl (fput_p (freadL s) (freadL_len s) (freadL_ok_all s)) ⟨Sub.refl, trivial⟩) ?_  -- t36 := call   -- t35
      refine sP rfl rfl rfl (pMt rfl rfl) ?_  -- t34 := move t36
      refine sP rfl rfl rfl (p_extract rfl rfl rfl) ?_  -- t37 := extract t34
      refine sP rfl rfl rfl (p_extract rfl rfl rfl) ?_  -- t38 := extract t34
      refine sP rfl rfl rfl (pA rfl rfl) ?_  -- t9 := assign t37
      refine sP rfl rfl rfl (pA rfl rfl) ?_  -- t10 := assign t38
      refine lNil ?_
      refine wSeq ?_
      refine wReg ?_  -- region 6
      refine sP rfl rfl rfl (pMs rfl rfl) ?_  -- t40 := move t1
      refine sP rfl rfl rfl (p_call rfl (fsort_p l hl) ⟨Sub.refl, trivial⟩) ?_  -- t41 := call   -- t40
      refine sP rfl rfl rfl (p_call rfl (fput_p (sortK ltF l) hml hmo) ⟨Sub.refl, trivial⟩) ?_  -- t42 := call   -- t41
      refine sP rfl rfl rfl (pMt rfl rfl) ?_  -- t39 := move t42
      refine sP rfl rfl rfl (p_extract rfl rfl rfl) ?_  -- t43 := extract t39
      refine sP rfl rfl rfl (p_extract rfl rfl rfl) ?_  -- t44 := extract t39
      refine sP rfl rfl rfl (pA rfl rfl) ?_  -- t11 := assign t43
      refine sP rfl rfl rfl (pA rfl rfl) ?_  -- t12 := assign t44
      refine lNil ?_
      refine wSeq ?_
      refine wReg ?_  -- region 7
      refine sP rfl rfl rfl (pM rfl rfl) ?_  -- t46 := move t11
      refine sP rfl rfl rfl (p_call rfl (fread_p (fputS (sortK ltF l)) (fputS_size hmo)) ⟨Sub.refl, trivial⟩) ?_  -- t47 := call   -- t46
      refine sP rfl rfl rfl (pMt rfl rfl) ?_  -- t45 := move t47
      refine sP rfl rfl rfl (p_extract rfl rfl rfl) ?_  -- t48 := extract t45
      refine sP rfl rfl rfl (p_extract rfl rfl rfl) ?_  -- t49 := extract t45
      refine sP rfl rfl rfl (pAs rfl rfl) ?_  -- t13 := assign t48
      refine sP rfl rfl rfl (pA rfl rfl) ?_  -- t14 := assign t49
      refine lNil ?_
      refine wCut (fun L h => L = [(0, sA s), (4, bA true)] ∧ h = []) ?_ ?_
      · rcases fr4 s (sortK ltF l) with ⟨hE, hH⟩ | ⟨hE, hH⟩ | ⟨hE, hH⟩ | ⟨hE, hH⟩
        · refine wReg ?_  -- region 8
          refine sP rfl rfl rfl (pMs rfl rfl) ?_  -- t50 := move t5
          refine sP rfl rfl rfl (pMs rfl rfl) ?_  -- t51 := move t7
          refine sP rfl rfl rfl (p_call rfl (same_eq rfl (freadL_len s)) ⟨Sub.refl, Sub.refl, trivial⟩) ?_  -- t52 := call   -- t50 t51
          refine sP rfl rfl rfl (pM rfl rfl) ?_  -- t53 := move t52
          refine sG rfl rfl rfl rfl rfl (pM rfl rfl) ?_  -- t54 := move t6   GUARD ['3', 'true']
          refine sG rfl rfl rfl rfl rfl (pM rfl rfl) ?_  -- t55 := move t8   GUARD ['3', 'true']
          refine sG rfl rfl rfl rfl rfl (p_icmp rfl rfl rfl (eql_t rfl)) ?_  -- t56 := binOp t54 t55   GUARD ['3', 'true']
          refine sP rfl rfl rfl (p_pick rfl rfl rfl) ?_  -- t57 := pick t53 t56 c
          refine sP rfl rfl rfl (pM rfl rfl) ?_  -- t58 := move t57
          refine sG rfl rfl rfl rfl rfl (pM rfl rfl) ?_  -- t59 := move t6   GUARD ['8', 'true']
          refine sG rfl rfl rfl rfl rfl (p_icmp rfl rfl rfl (neq_f hE)) ?_  -- t60 := binOp t59 c   GUARD ['8', 'true']
          refine sG rfl rfl rfl rfl rfl (pM rfl rfl) ?_  -- t61 := move t60   GUARD ['8', 'true']
          refine sG rfl rfl rfl rfl rfl (pM rfl rfl) ?_  -- t62 := move t9   GUARD ['11', 'false']
          refine sG rfl rfl rfl rfl rfl (pM rfl rfl) ?_  -- t63 := move t0   GUARD ['11', 'false']
          refine sG rfl rfl rfl rfl rfl (p_scmp rfl rfl rfl (seql_t (fput_read hE).2)) ?_  -- t64 := binOp t62 t63   GUARD ['11', 'false']
          refine sG rfl rfl rfl rfl rfl (pM rfl rfl) ?_  -- t65 := move t64   GUARD ['11', 'false']
          refine sG rfl rfl rfl rfl rfl (pM rfl rfl) ?_  -- t66 := move t10   GUARD ['15', 'true']
          refine sG rfl rfl rfl rfl rfl (p_icmp rfl rfl rfl (eql_t (fput_read hE).1)) ?_  -- t67 := binOp t66 c   GUARD ['15', 'true']
          refine sG rfl rfl rfl rfl rfl (p_pick rfl rfl rfl) ?_  -- t68 := pick t65 t67 c   GUARD ['11', 'false']
          refine sG rfl rfl rfl rfl rfl (p_pick rfl rfl rfl) ?_  -- t69 := pick t61 c t68   GUARD ['8', 'true']
          refine sP rfl rfl rfl (p_pick rfl rfl rfl) ?_  -- t70 := pick t58 t69 c
          refine sP rfl rfl rfl (pM rfl rfl) ?_  -- t71 := move t70
          refine sG rfl rfl rfl rfl rfl (pM rfl rfl) ?_  -- t72 := move t12   GUARD ['21', 'true']
          refine sG rfl rfl rfl rfl rfl (p_icmp rfl rfl rfl (neq_f hH)) ?_  -- t73 := binOp t72 c   GUARD ['21', 'true']
          refine sG rfl rfl rfl rfl rfl (pM rfl rfl) ?_  -- t74 := move t73   GUARD ['21', 'true']
          refine sG rfl rfl rfl rfl rfl (pMs rfl rfl) ?_  -- t75 := move t13   GUARD ['24', 'false']
          refine sG rfl rfl rfl rfl rfl (pMs rfl rfl) ?_  -- t76 := move t1   GUARD ['24', 'false']
          refine sG rfl rfl rfl rfl rfl (p_call rfl (rfsort_p l hl) ⟨Sub.refl, trivial⟩) ?_  -- t77 := call    GUARD ['24', 'false']  -- t76
          refine sG rfl rfl rfl rfl rfl (p_call rfl (same_eq (fread_put hH).2 hml) ⟨Sub.refl, Sub.refl, trivial⟩) ?_  -- t78 := call    GUARD ['24', 'false']  -- t75 t77
          refine sG rfl rfl rfl rfl rfl (pM rfl rfl) ?_  -- t79 := move t78   GUARD ['24', 'false']
          refine sG rfl rfl rfl rfl rfl (pM rfl rfl) ?_  -- t80 := move t14   GUARD ['29', 'true']
          refine sG rfl rfl rfl rfl rfl (p_icmp rfl rfl rfl (eql_t (fread_put hH).1)) ?_  -- t81 := binOp t80 c   GUARD ['29', 'true']
          refine sG rfl rfl rfl rfl rfl (p_pick rfl rfl rfl) ?_  -- t82 := pick t79 t81 c   GUARD ['24', 'false']
          refine sG rfl rfl rfl rfl rfl (p_pick rfl rfl rfl) ?_  -- t83 := pick t74 c t82   GUARD ['21', 'true']
          refine sP rfl rfl rfl (p_pick rfl rfl rfl) ?_  -- t84 := pick t71 t83 c
          refine sP rfl rfl rfl (pM rfl rfl) ?_  -- t85 := move t84
          refine sG rfl rfl rfl rfl rfl (p_call rfl (awake15_p) trivial) ?_  -- t86 := call    GUARD ['35', 'true']  --
          refine sP rfl rfl rfl (p_pick rfl rfl rfl) ?_  -- t87 := pick t85 t86 c
          refine sP rfl rfl rfl (pA rfl rfl) ?_  -- t4 := assign t87
          refine lNil ?_
          exact ⟨_, [], [], ⟨rfl, rfl⟩, ⟨rfl, rfl, trivial⟩, rfl⟩
        · refine wReg ?_  -- region 8
          refine sP rfl rfl rfl (pMs rfl rfl) ?_  -- t50 := move t5
          refine sP rfl rfl rfl (pMs rfl rfl) ?_  -- t51 := move t7
          refine sP rfl rfl rfl (p_call rfl (same_eq rfl (freadL_len s)) ⟨Sub.refl, Sub.refl, trivial⟩) ?_  -- t52 := call   -- t50 t51
          refine sP rfl rfl rfl (pM rfl rfl) ?_  -- t53 := move t52
          refine sG rfl rfl rfl rfl rfl (pM rfl rfl) ?_  -- t54 := move t6   GUARD ['3', 'true']
          refine sG rfl rfl rfl rfl rfl (pM rfl rfl) ?_  -- t55 := move t8   GUARD ['3', 'true']
          refine sG rfl rfl rfl rfl rfl (p_icmp rfl rfl rfl (eql_t rfl)) ?_  -- t56 := binOp t54 t55   GUARD ['3', 'true']
          refine sP rfl rfl rfl (p_pick rfl rfl rfl) ?_  -- t57 := pick t53 t56 c
          refine sP rfl rfl rfl (pM rfl rfl) ?_  -- t58 := move t57
          refine sG rfl rfl rfl rfl rfl (pM rfl rfl) ?_  -- t59 := move t6   GUARD ['8', 'true']
          refine sG rfl rfl rfl rfl rfl (p_icmp rfl rfl rfl (neq_f hE)) ?_  -- t60 := binOp t59 c   GUARD ['8', 'true']
          refine sG rfl rfl rfl rfl rfl (pM rfl rfl) ?_  -- t61 := move t60   GUARD ['8', 'true']
          refine sG rfl rfl rfl rfl rfl (pM rfl rfl) ?_  -- t62 := move t9   GUARD ['11', 'false']
          refine sG rfl rfl rfl rfl rfl (pM rfl rfl) ?_  -- t63 := move t0   GUARD ['11', 'false']
          refine sG rfl rfl rfl rfl rfl (p_scmp rfl rfl rfl (seql_t (fput_read hE).2)) ?_  -- t64 := binOp t62 t63   GUARD ['11', 'false']
          refine sG rfl rfl rfl rfl rfl (pM rfl rfl) ?_  -- t65 := move t64   GUARD ['11', 'false']
          refine sG rfl rfl rfl rfl rfl (pM rfl rfl) ?_  -- t66 := move t10   GUARD ['15', 'true']
          refine sG rfl rfl rfl rfl rfl (p_icmp rfl rfl rfl (eql_t (fput_read hE).1)) ?_  -- t67 := binOp t66 c   GUARD ['15', 'true']
          refine sG rfl rfl rfl rfl rfl (p_pick rfl rfl rfl) ?_  -- t68 := pick t65 t67 c   GUARD ['11', 'false']
          refine sG rfl rfl rfl rfl rfl (p_pick rfl rfl rfl) ?_  -- t69 := pick t61 c t68   GUARD ['8', 'true']
          refine sP rfl rfl rfl (p_pick rfl rfl rfl) ?_  -- t70 := pick t58 t69 c
          refine sP rfl rfl rfl (pM rfl rfl) ?_  -- t71 := move t70
          refine sG rfl rfl rfl rfl rfl (pM rfl rfl) ?_  -- t72 := move t12   GUARD ['21', 'true']
          refine sG rfl rfl rfl rfl rfl (p_icmp rfl rfl rfl (neq_t hH)) ?_  -- t73 := binOp t72 c   GUARD ['21', 'true']
          refine sG rfl rfl rfl rfl rfl (pM rfl rfl) ?_  -- t74 := move t73   GUARD ['21', 'true']
          refine sUx rfl rfl rfl (by decide) rfl rfl ?_  -- t75
          refine sUx rfl rfl rfl (by decide) rfl rfl ?_  -- t76
          refine sUx rfl rfl rfl (by decide) rfl rfl ?_  -- t77
          refine sUx rfl rfl rfl (by decide) rfl rfl ?_  -- t78
          refine sUx rfl rfl rfl (by decide) rfl rfl ?_  -- t79
          refine sNx rfl rfl rfl rfl rfl ?_  -- t80
          refine sNx rfl rfl rfl rfl rfl ?_  -- t81
          refine sUx rfl rfl rfl (by decide) rfl rfl ?_  -- t82
          refine sG rfl rfl rfl rfl rfl (p_pick rfl rfl rfl) ?_  -- t83 := pick t74 c t82   GUARD ['21', 'true']
          refine sP rfl rfl rfl (p_pick rfl rfl rfl) ?_  -- t84 := pick t71 t83 c
          refine sP rfl rfl rfl (pM rfl rfl) ?_  -- t85 := move t84
          refine sG rfl rfl rfl rfl rfl (p_call rfl (awake15_p) trivial) ?_  -- t86 := call    GUARD ['35', 'true']  --
          refine sP rfl rfl rfl (p_pick rfl rfl rfl) ?_  -- t87 := pick t85 t86 c
          refine sP rfl rfl rfl (pA rfl rfl) ?_  -- t4 := assign t87
          refine lNil ?_
          exact ⟨_, [], [], ⟨rfl, rfl⟩, ⟨rfl, rfl, trivial⟩, rfl⟩
        · refine wReg ?_  -- region 8
          refine sP rfl rfl rfl (pMs rfl rfl) ?_  -- t50 := move t5
          refine sP rfl rfl rfl (pMs rfl rfl) ?_  -- t51 := move t7
          refine sP rfl rfl rfl (p_call rfl (same_eq rfl (freadL_len s)) ⟨Sub.refl, Sub.refl, trivial⟩) ?_  -- t52 := call   -- t50 t51
          refine sP rfl rfl rfl (pM rfl rfl) ?_  -- t53 := move t52
          refine sG rfl rfl rfl rfl rfl (pM rfl rfl) ?_  -- t54 := move t6   GUARD ['3', 'true']
          refine sG rfl rfl rfl rfl rfl (pM rfl rfl) ?_  -- t55 := move t8   GUARD ['3', 'true']
          refine sG rfl rfl rfl rfl rfl (p_icmp rfl rfl rfl (eql_t rfl)) ?_  -- t56 := binOp t54 t55   GUARD ['3', 'true']
          refine sP rfl rfl rfl (p_pick rfl rfl rfl) ?_  -- t57 := pick t53 t56 c
          refine sP rfl rfl rfl (pM rfl rfl) ?_  -- t58 := move t57
          refine sG rfl rfl rfl rfl rfl (pM rfl rfl) ?_  -- t59 := move t6   GUARD ['8', 'true']
          refine sG rfl rfl rfl rfl rfl (p_icmp rfl rfl rfl (neq_t hE)) ?_  -- t60 := binOp t59 c   GUARD ['8', 'true']
          refine sG rfl rfl rfl rfl rfl (pM rfl rfl) ?_  -- t61 := move t60   GUARD ['8', 'true']
          refine sUx rfl rfl rfl (by decide) rfl rfl ?_  -- t62
          refine sUx rfl rfl rfl (by decide) rfl rfl ?_  -- t63
          refine sUx rfl rfl rfl (by decide) rfl rfl ?_  -- t64
          refine sUx rfl rfl rfl (by decide) rfl rfl ?_  -- t65
          refine sNx rfl rfl rfl rfl rfl ?_  -- t66
          refine sNx rfl rfl rfl rfl rfl ?_  -- t67
          refine sUx rfl rfl rfl (by decide) rfl rfl ?_  -- t68
          refine sG rfl rfl rfl rfl rfl (p_pick rfl rfl rfl) ?_  -- t69 := pick t61 c t68   GUARD ['8', 'true']
          refine sP rfl rfl rfl (p_pick rfl rfl rfl) ?_  -- t70 := pick t58 t69 c
          refine sP rfl rfl rfl (pM rfl rfl) ?_  -- t71 := move t70
          refine sG rfl rfl rfl rfl rfl (pM rfl rfl) ?_  -- t72 := move t12   GUARD ['21', 'true']
          refine sG rfl rfl rfl rfl rfl (p_icmp rfl rfl rfl (neq_f hH)) ?_  -- t73 := binOp t72 c   GUARD ['21', 'true']
          refine sG rfl rfl rfl rfl rfl (pM rfl rfl) ?_  -- t74 := move t73   GUARD ['21', 'true']
          refine sG rfl rfl rfl rfl rfl (pMs rfl rfl) ?_  -- t75 := move t13   GUARD ['24', 'false']
          refine sG rfl rfl rfl rfl rfl (pMs rfl rfl) ?_  -- t76 := move t1   GUARD ['24', 'false']
          refine sG rfl rfl rfl rfl rfl (p_call rfl (rfsort_p l hl) ⟨Sub.refl, trivial⟩) ?_  -- t77 := call    GUARD ['24', 'false']  -- t76
          refine sG rfl rfl rfl rfl rfl (p_call rfl (same_eq (fread_put hH).2 hml) ⟨Sub.refl, Sub.refl, trivial⟩) ?_  -- t78 := call    GUARD ['24', 'false']  -- t75 t77
          refine sG rfl rfl rfl rfl rfl (pM rfl rfl) ?_  -- t79 := move t78   GUARD ['24', 'false']
          refine sG rfl rfl rfl rfl rfl (pM rfl rfl) ?_  -- t80 := move t14   GUARD ['29', 'true']
          refine sG rfl rfl rfl rfl rfl (p_icmp rfl rfl rfl (eql_t (fread_put hH).1)) ?_  -- t81 := binOp t80 c   GUARD ['29', 'true']
          refine sG rfl rfl rfl rfl rfl (p_pick rfl rfl rfl) ?_  -- t82 := pick t79 t81 c   GUARD ['24', 'false']
          refine sG rfl rfl rfl rfl rfl (p_pick rfl rfl rfl) ?_  -- t83 := pick t74 c t82   GUARD ['21', 'true']
          refine sP rfl rfl rfl (p_pick rfl rfl rfl) ?_  -- t84 := pick t71 t83 c
          refine sP rfl rfl rfl (pM rfl rfl) ?_  -- t85 := move t84
          refine sG rfl rfl rfl rfl rfl (p_call rfl (awake15_p) trivial) ?_  -- t86 := call    GUARD ['35', 'true']  --
          refine sP rfl rfl rfl (p_pick rfl rfl rfl) ?_  -- t87 := pick t85 t86 c
          refine sP rfl rfl rfl (pA rfl rfl) ?_  -- t4 := assign t87
          refine lNil ?_
          exact ⟨_, [], [], ⟨rfl, rfl⟩, ⟨rfl, rfl, trivial⟩, rfl⟩
        · refine wReg ?_  -- region 8
          refine sP rfl rfl rfl (pMs rfl rfl) ?_  -- t50 := move t5
          refine sP rfl rfl rfl (pMs rfl rfl) ?_  -- t51 := move t7
          refine sP rfl rfl rfl (p_call rfl (same_eq rfl (freadL_len s)) ⟨Sub.refl, Sub.refl, trivial⟩) ?_  -- t52 := call   -- t50 t51
          refine sP rfl rfl rfl (pM rfl rfl) ?_  -- t53 := move t52
          refine sG rfl rfl rfl rfl rfl (pM rfl rfl) ?_  -- t54 := move t6   GUARD ['3', 'true']
          refine sG rfl rfl rfl rfl rfl (pM rfl rfl) ?_  -- t55 := move t8   GUARD ['3', 'true']
          refine sG rfl rfl rfl rfl rfl (p_icmp rfl rfl rfl (eql_t rfl)) ?_  -- t56 := binOp t54 t55   GUARD ['3', 'true']
          refine sP rfl rfl rfl (p_pick rfl rfl rfl) ?_  -- t57 := pick t53 t56 c
          refine sP rfl rfl rfl (pM rfl rfl) ?_  -- t58 := move t57
          refine sG rfl rfl rfl rfl rfl (pM rfl rfl) ?_  -- t59 := move t6   GUARD ['8', 'true']
          refine sG rfl rfl rfl rfl rfl (p_icmp rfl rfl rfl (neq_t hE)) ?_  -- t60 := binOp t59 c   GUARD ['8', 'true']
          refine sG rfl rfl rfl rfl rfl (pM rfl rfl) ?_  -- t61 := move t60   GUARD ['8', 'true']
          refine sUx rfl rfl rfl (by decide) rfl rfl ?_  -- t62
          refine sUx rfl rfl rfl (by decide) rfl rfl ?_  -- t63
          refine sUx rfl rfl rfl (by decide) rfl rfl ?_  -- t64
          refine sUx rfl rfl rfl (by decide) rfl rfl ?_  -- t65
          refine sNx rfl rfl rfl rfl rfl ?_  -- t66
          refine sNx rfl rfl rfl rfl rfl ?_  -- t67
          refine sUx rfl rfl rfl (by decide) rfl rfl ?_  -- t68
          refine sG rfl rfl rfl rfl rfl (p_pick rfl rfl rfl) ?_  -- t69 := pick t61 c t68   GUARD ['8', 'true']
          refine sP rfl rfl rfl (p_pick rfl rfl rfl) ?_  -- t70 := pick t58 t69 c
          refine sP rfl rfl rfl (pM rfl rfl) ?_  -- t71 := move t70
          refine sG rfl rfl rfl rfl rfl (pM rfl rfl) ?_  -- t72 := move t12   GUARD ['21', 'true']
          refine sG rfl rfl rfl rfl rfl (p_icmp rfl rfl rfl (neq_t hH)) ?_  -- t73 := binOp t72 c   GUARD ['21', 'true']
          refine sG rfl rfl rfl rfl rfl (pM rfl rfl) ?_  -- t74 := move t73   GUARD ['21', 'true']
          refine sUx rfl rfl rfl (by decide) rfl rfl ?_  -- t75
          refine sUx rfl rfl rfl (by decide) rfl rfl ?_  -- t76
          refine sUx rfl rfl rfl (by decide) rfl rfl ?_  -- t77
          refine sUx rfl rfl rfl (by decide) rfl rfl ?_  -- t78
          refine sUx rfl rfl rfl (by decide) rfl rfl ?_  -- t79
          refine sNx rfl rfl rfl rfl rfl ?_  -- t80
          refine sNx rfl rfl rfl rfl rfl ?_  -- t81
          refine sUx rfl rfl rfl (by decide) rfl rfl ?_  -- t82
          refine sG rfl rfl rfl rfl rfl (p_pick rfl rfl rfl) ?_  -- t83 := pick t74 c t82   GUARD ['21', 'true']
          refine sP rfl rfl rfl (p_pick rfl rfl rfl) ?_  -- t84 := pick t71 t83 c
          refine sP rfl rfl rfl (pM rfl rfl) ?_  -- t85 := move t84
          refine sG rfl rfl rfl rfl rfl (p_call rfl (awake15_p) trivial) ?_  -- t86 := call    GUARD ['35', 'true']  --
          refine sP rfl rfl rfl (p_pick rfl rfl rfl) ?_  -- t87 := pick t85 t86 c
          refine sP rfl rfl rfl (pA rfl rfl) ?_  -- t4 := assign t87
          refine lNil ?_
          exact ⟨_, [], [], ⟨rfl, rfl⟩, ⟨rfl, rfl, trivial⟩, rfl⟩
      · rintro L h ⟨rfl, rfl⟩
        refine wRet ?_
        exact rgs1 (rg_tmp (gives_sub Sub.refl))

theorem facts_rep {w : World} {A : Option Addr} {n c : Nat} {l : List FactT} (hl : l.length = n) (hnc : n ≤ c) (hcm : c ≤ 9223372036854775807) (hr : Reads w w.heap.size 8 A n (l.flatMap encV)) : Rep (fun _ => False) w (slF l) (.slice A n c) := by
  subst hl
  simp only [Rep]
  refine ⟨flat_lenG encF8 l, A, c, rfl, hnc, hcm, ?_⟩
  rcases Nat.eq_zero_or_pos l.length with h0 | h0
  · exact .inl (by rw [h0])
  · obtain ⟨ad, h1, h2, h3⟩ := hr.2 h0
    refine .inr ⟨ad, h1, h2, fun h => h, ?_⟩
    refine RepC.mk fun j cc hj => ?_
    obtain ⟨u, hu, hru⟩ := (vals_rep (O := fun _ => False) (w := w) l).at_ j cc hj
    exact ⟨u, h3 j u hu, hru⟩
theorem freads_walk (s : ByteArray) (A : Option Addr) (n c : Nat) (l : List FactT) (w : World) (hl : l.length = n) (hnc : n ≤ c) (hcm : c ≤ 9223372036854775807) (hr : Reads w w.heap.size 8 A n (l.flatMap encV)) : Calls Try.prog 9 #[.string s, .slice A n c] w fun e w' => e = .returned (.bool true) ∧ Below w.heap.size w w' := by
  have hr : RepC (fun _ => False) w [sA s, slF l] (fun j => (#[Value.string s, Value.slice A n c] : Array Value)[j]?) := by
    simp only [RepC]
    exact ⟨⟨_, rfl, rep_x.2 rfl⟩, ⟨_, rfl, facts_rep hl hnc hcm hr⟩, trivial⟩
  refine ((freads_w s l).calls (fun _ => False) w _ (fun b hb => hb.elim) rfl hr).mono ?_
  rintro e w' ⟨r, rfl, h2, h3⟩
  rw [rep_x] at h2
  subst h2
  exact ⟨rfl, h3.b⟩

end Go.Proofs.Ytmhkalalcmkpbaa
